/- Lemmas on which the claim leans. -/
import Derived.Test.YtjhpkghkgaekcaaGreatDoorMzLd
set_option maxRecDepth 100000
namespace Go.Mz
open Go.Conc Go.Proofs
variable {X:ax Tryz.prog}
def DY(x:Want):List Value:=[.int .i64 x.sort,.int .i64 x.kind,.int .i64 x.lq,.int .i64 x.pay]
structure Wp where
 la:Option Addr
 sa:Option Addr
 wa:Option Addr
 lc:Nat
 sc:Nat
 wc:Nat
abbrev qM(s:Sw)(p:Wp):List Value:=[.slice p.la s.bj.length p.lc,.slice p.sa s.gf.length p.sc,.int .i64 s.CI,.slice p.wa s.dS.length p.wc]
abbrev A1(s:Sw)(p:Wp):Value:=.agg (qM s p).toArray
structure mP(L:LH)(s:Sw)(p:Wp):Prop where
 lo:ll L p.la 1 cj s.bj
 st:aN L p.sa s.gf
 wt:aX L p.wa 4 DY s.dS
 cap:s.dS.length≤p.wc
theorem mP.le{L L':LH}{s:Sw}{p:Wp}(h:mP L s p)(hl:Le L L'):mP L' s p:=⟨h.lo.le hl,h.st.le hl,h.wt.le hl,h.cap⟩
structure Sm(s:Sw):Prop where
 hl:s.bj.length≤1000
 hs:s.gf.length≤1000
 hw:s.dS.length≤1000
 hr:∀l∈s.bj,l.length≤1000
theorem uB.sm{s:Sw}(h:uB s):Sm s:=⟨by have:=h.l3;omega,by have:=h.l3;have:=h.st;omega,by have:=h.w5;omega,fun l hl=>by have:=(h.lf l hl).l4;omega⟩
theorem eF(n lo hi:Int)(L:LH):Sp X 103 [.int .i64 n,.int .i64 lo,.int .i64 hi] L (fun v L'=>v=.bool (bq n lo hi)∧L=L'):=by
 refine Sp.enter (n:=15) Tryz.func103 rfl rfl rfl rfl fun C hX _ aG r=>?_;refine W.go 99 rfl ?_;refine W.split rfl rfl rfl (fun c=>?_) (fun c=>?_)
 ·refine W.go 99 rfl ?_;exact W.ret r rfl rfl ⟨by unfold bq;rw[c];rfl,rfl⟩
 ·refine W.go 99 rfl ?_;exact W.ret r rfl rfl ⟨by unfold bq;rw[c];rfl,rfl⟩
theorem Dc(n lo hi:Int)(L:LH):Sp X 136 [.int .i64 n,.int .i64 lo,.int .i64 hi] L (fun v L'=>v=.int .i64 (bA n lo hi)∧L=L'):=by
 refine Sp.enter (n:=15) Tryz.func136 rfl rfl rfl rfl fun C hX _ aG r=>?_;refine W.go 99 rfl ?_;refine W.split rfl rfl rfl (fun c=>?_) (fun c=>?_)
 ·refine W.go 99 rfl ?_;exact W.ret r rfl rfl ⟨by unfold bA;rw[if_pos (by simpa using c)];rfl,rfl⟩
 refine W.go 99 rfl ?_;refine W.split rfl rfl rfl (fun c2=>?_) (fun c2=>?_)
 ·refine W.go 99 rfl ?_;exact W.ret r rfl rfl ⟨by unfold bA;rw[if_neg (by simpa using c),if_pos (by simpa using c2)];rfl,rfl⟩
 ·refine W.go 99 rfl ?_;exact W.ret r rfl rfl ⟨by unfold bA;rw[if_neg (by simpa using c),if_neg (by simpa using c2)];rfl,rfl⟩
theorem SY(K:Nat):∀(l:List Int),(∀x∈l,0≤x∧x≤K)→0≤gL l∧gL l≤K *l.length:=by
 intro l;generalize hn:l.length=n
 induction n generalizing l with
 | zero=>
  intro _;rw[List.length_eq_zero_iff] at hn;subst hn;exact⟨Int.le_refl _,by simp[gL]⟩
 | succ n ih=>
  intro h;have aY:l≠[]:=fun e=>by subst e;simp at hn
  obtain⟨k,x,rfl⟩:∃k x,l=k++[x]:=⟨l.dropLast,l.getLast aY,(List.dropLast_concat_getLast aY).symm⟩;rw[Df];have h1:=ih k (by simp at hn;omega) fun y hy=>h y (List.mem_append_left _ hy);have h2:=h x (by simp);rw[show((n+1:Nat):Int)=(n:Int)+1 by omega,Int.mul_add,Int.mul_one];omega
def Ao(l:List Int)(i:Nat):Option Int:=if i=0 then none else l[i - 1]?
theorem xP{l:List Int}{i:Nat}(hi:i<l.length):Ao l (i+1)=some l[i]:=by
 unfold Ao;rw[if_neg (by omega)];simp[List.getElem?_eq_getElem hi]
theorem Bm(ad:Option Addr)(c:Nat)(l:List Int)(L:LH)(hl:aN L ad l)(hn:l.length≤1000000):Sp X 137 [.slice ad l.length c] L (fun v L'=>v=.int .i64 (kh l)∧L=L'):=by
 refine Sp.enter (n:=34) Tryz.func137 rfl rfl rfl rfl fun C hX _ aG r=>?_;refine W.go 99 rfl ?_;refine W.aB rfl rfl rfl (Ef.call rfl (Dc _ _ _ _)) ?_;rintro _ _ _ ⟨_,rfl,rfl,rfl,rfl⟩;refine W.go 99 rfl ?_;refine W.split rfl rfl rfl (fun c1=>W.go 99 rfl ?_) (fun c1=>W.go 99 rfl ?_)
 ·exact W.ret r rfl rfl ⟨by unfold kh;rw[if_pos (by simpa using c1)];rfl,rfl⟩
 refine W.loop (fun m E B L'=>∃(i:Nat),m=l.length - i∧i≤l.length∧pL (Ao l i) (l.drop i)=pL none l∧L=L'∧
   E=[(0,.v (.slice ad l.length c)),(12,.v (.slice ad l.length c)),(13,.v (.int .i64 l.length)),(14,.v (.int .i64 i))]∧B=[])
  ⟨0,rfl,by omega,rfl,rfl,rfl,rfl⟩ (by exact⟨rfl,rfl,rfl,rfl,trivial⟩) trivial ?_
 rintro _ _ _ _ ⟨i,rfl,h1,hg,rfl,rfl,rfl⟩ again;refine W.go 99 rfl ?_;refine W.split rfl rfl rfl (fun e1=>W.go 99 rfl ?_) (fun e1=>W.go 99 rfl ?_)
 ·have hi:i<l.length:=by simpa using e1
  obtain⟨lad,rfl⟩:=hl.addr hi;rw[List.drop_eq_getElem_cons hi,pL] at hg;refine W.vf rfl rfl rfl rfl (Vf.aW rfl rfl rfl rfl rfl rfl rfl (hi)) ?_;refine W.go 99 rfl ?_;refine W.vf rfl rfl rfl rfl (Vf.load rfl rfl rfl (hl.int (List.getElem?_eq_getElem hi))) ?_;refine W.go 99 rfl ?_;refine W.aB rfl rfl rfl (Ef.call rfl (eF _ _ _ _)) ?_;rintro _ _ _ ⟨_,rfl,rfl,rfl,rfl⟩;refine W.go 99 rfl ?_;refine W.split rfl rfl rfl (fun e2=>W.go 99 rfl ?_) (fun e2=>W.go 99 rfl ?_)
  ·exact W.ret r rfl rfl ⟨by unfold kh;rw[if_neg (by simpa using c1),←hg,if_pos (by simpa using e2)];rfl,rfl⟩
  rw[if_neg (by simpa using e2)] at hg;refine W.split rfl rfl rfl (fun e3=>?_) (fun e3=>?_)
  ·have qq:0<i:=by simpa using e3
   have hp:Ao l i=some l[i - 1]:=by unfold Ao;rw[if_neg (by omega)];exact List.getElem?_eq_getElem (by omega)
   rw[hp] at hg;have hw:IntKind.i64.wrap ((i:Int) - 1)=((i - 1:Nat):Int):=by rw[wrap64_in _ (by omega) (by omega)];omega
   refine W.go 99 rfl ?_;rw[hw];refine W.vf rfl rfl rfl rfl (Vf.aW rfl rfl rfl rfl rfl rfl rfl ((show i - 1<l.length by omega))) ?_;refine W.go 99 rfl ?_;refine W.vf rfl rfl rfl rfl (Vf.load rfl rfl rfl (hl.int (List.getElem?_eq_getElem (show i - 1<l.length by omega)))) ?_;refine W.go 99 rfl ?_;refine W.split rfl rfl rfl (fun e4=>W.go 99 rfl ?_) (fun e4=>W.go 99 rfl ?_)
   ·exact W.ret r rfl rfl ⟨by unfold kh;rw[if_neg (by simpa using c1),←hg,if_pos (by simpa [upB] using e4)];rfl,rfl⟩
   ·rw[if_neg (by simpa [upB] using e4)] at hg;exact W.again (again _ _ _ _ (by omega) ⟨i+1,rfl,by omega,by rw[xP hi];exact hg,rfl,rfl,rfl⟩) ⟨rfl,rfl,rfl,congrArg some (bu (by omega)),trivial⟩ trivial
  ·have qq:i=0:=by simp at e3;omega
   subst qq;refine W.go 99 rfl ?_;exact W.again (again _ _ _ _ (by omega) ⟨1,rfl,by omega,by rw[xP hi];exact hg,rfl,rfl,rfl⟩) ⟨rfl,rfl,rfl,congrArg some (bu (by omega)),trivial⟩ trivial
 ·exact W.ret r rfl rfl ⟨by unfold kh;rw[if_neg (by simpa using c1),←hg,List.drop_of_length_le (by simp at e1;omega)];rfl,rfl⟩
theorem kA{ls:List (List Int)}{x:Want}(h1:bq x.sort 0 2=true)(h2:bq x.kind (uk x) ((ls.length:Int) - 1)=true):
  iw ls x=if(bq x.lq (E5 x) (E4 ls x)&&bq x.pay 0 30)=true then 0 else 1:=by
 unfold iw;rw[h1,h2];simp
theorem Bp(s:Sw)(p:Wp)(x:Want)(L:LH)(hs:mP L s p)(hn:Sm s):Sp X 138 [A1 s p,.agg (DY x).toArray] L (fun v L'=>v=.int .i64 (iw s.bj x)∧L=L'):=by
 have n1:=hn.hl;have jY:IntKind.i64.wrap ((s.bj.length:Int) - 1)=(s.bj.length:Int) - 1:=wrap64_in _ (by omega) (by omega);refine Sp.enter (n:=47) Tryz.func138 rfl rfl rfl rfl fun C hX _ aG r=>?_;refine W.go 99 rfl ?_;refine W.split rfl rfl rfl (fun e1=>?_) (fun e1=>?_)
 ·have jQ:x.sort=1:=by simpa using e1
  refine W.go 99 rfl ?_;rw[jY];refine W.aB rfl rfl rfl (Ef.call rfl (eF _ _ _ _)) ?_;rintro _ _ _ ⟨_,rfl,rfl,rfl,rfl⟩;refine W.go 99 rfl ?_;refine W.split rfl rfl rfl (fun e2=>W.go 99 rfl ?_) (fun e2=>W.go 99 rfl ?_)
  ·exact W.ret r rfl rfl ⟨by unfold iw;simp[jQ,bq,uk,o9] at e2 ⊢;intro h;omega,rfl⟩
  refine W.split rfl rfl rfl (fun c=>absurd c (by decide)) (fun c=>?_);refine W.go 99 rfl ?_;refine W.aB rfl rfl rfl (Ef.call rfl (eF _ _ _ _)) ?_;rintro _ _ _ ⟨_,rfl,rfl,rfl,rfl⟩;refine W.go 99 rfl ?_;refine W.split rfl rfl rfl (fun e5=>W.go 99 rfl ?_) (fun e5=>W.go 99 rfl ?_)
  ·exact W.ret r rfl rfl ⟨by rw[kA (by simp[bq,jQ]) (by simpa [uk,jQ] using e2),if_neg (by simp at e5;simp[E5,E4,jQ,e5])];rfl,rfl⟩
  refine W.aB rfl rfl rfl (Ef.call rfl (eF _ _ _ _)) ?_;rintro _ _ _ ⟨_,rfl,rfl,rfl,rfl⟩;refine W.go 99 rfl ?_;refine W.split rfl rfl rfl (fun e6=>W.go 99 rfl ?_) (fun e6=>W.go 99 rfl ?_)
  ·exact W.ret r rfl rfl ⟨by rw[kA (by simp[bq,jQ]) (by simpa [uk,jQ] using e2),if_neg (by simp at e6;simp[e6])];rfl,rfl⟩
  ·exact W.ret r rfl rfl ⟨by rw[kA (by simp[bq,jQ]) (by simpa [uk,jQ] using e2),if_pos (by simp at e5 e6;simp[E5,E4,jQ,e5,e6])];rfl,rfl⟩
 have jQ:x.sort≠1:=by simpa using e1
 refine W.go 99 rfl ?_;refine W.split rfl rfl rfl (fun e1=>?_) (fun e1=>?_)
 ·have jQ:x.sort=2:=by simpa using e1
  refine W.go 99 rfl ?_;rw[jY];refine W.aB rfl rfl rfl (Ef.call rfl (eF _ _ _ _)) ?_;rintro _ _ _ ⟨_,rfl,rfl,rfl,rfl⟩;refine W.go 99 rfl ?_;refine W.split rfl rfl rfl (fun e2=>W.go 99 rfl ?_) (fun e2=>W.go 99 rfl ?_)
  ·exact W.ret r rfl rfl ⟨by unfold iw;simp[jQ,bq,uk,o9] at e2 ⊢;intro h;omega,rfl⟩
  have hk:0≤x.kind∧x.kind<s.bj.length:=by simp[bq] at e2;omega
  have Nh:x.kind.toNat<s.bj.length:=by omega
  have hl:s.bj[x.kind.toNat]?=some s.bj[x.kind.toNat]:=List.getElem?_eq_getElem Nh;obtain⟨la,vh⟩:=hs.lo.addr Nh;have pI:=hs.lo;rw[vh] at pI;obtain⟨a,c,hc,sA,hcp⟩:=pI.row hl;have hlen:=hn.hr _ (List.mem_of_getElem? hl);generalize s.bj[x.kind.toNat]=lf at *;have jU:=hl;obtain⟨qa,qb,qc,qd,qe,qf⟩:=p;obtain rfl:qa=some la:=vh;refine W.split rfl rfl rfl (fun c=>?_) (fun c=>absurd c (by decide));refine W.go 99 rfl ?_;refine W.vf rfl rfl rfl rfl (Vf.aW rfl rfl rfl rfl rfl rfl (show x.kind=((x.kind.toNat:Nat):Int) by omega) Nh) ?_;refine W.go 99 rfl ?_;refine W.vf rfl rfl rfl rfl (Vf.load rfl rfl rfl (hc)) ?_;refine W.go 99 rfl ?_;rw[wrap64_in ((lf.length:Int) - 1) (by omega) (by omega)];refine W.aB rfl rfl rfl (Ef.call rfl (eF _ _ _ _)) ?_;rintro _ _ _ ⟨_,rfl,rfl,rfl,rfl⟩;refine W.go 99 rfl ?_;refine W.split rfl rfl rfl (fun e5=>W.go 99 rfl ?_) (fun e5=>W.go 99 rfl ?_)
  ·exact W.ret r rfl rfl ⟨by rw[kA (by simp[bq,jQ]) (by simpa [uk,jQ] using e2),if_neg (by simp at e5;simp[E5,E4,jQ,jU,e5])];rfl,rfl⟩
  refine W.aB rfl rfl rfl (Ef.call rfl (eF _ _ _ _)) ?_;rintro _ _ _ ⟨_,rfl,rfl,rfl,rfl⟩;refine W.go 99 rfl ?_;refine W.split rfl rfl rfl (fun e6=>W.go 99 rfl ?_) (fun e6=>W.go 99 rfl ?_)
  ·exact W.ret r rfl rfl ⟨by rw[kA (by simp[bq,jQ]) (by simpa [uk,jQ] using e2),if_neg (by simp at e6;simp[e6])];rfl,rfl⟩
  ·exact W.ret r rfl rfl ⟨by rw[kA (by simp[bq,jQ]) (by simpa [uk,jQ] using e2),if_pos (by simp at e5 e6;simp[E5,E4,jU,jQ,e5,e6])];rfl,rfl⟩
 have adC:x.sort≠2:=by simpa using e1
 refine W.go 99 rfl ?_;refine W.split rfl rfl rfl (fun e1=>?_) (fun e1=>?_)
 ·have jQ:x.sort=0:=by simpa using e1
  have jU:True:=trivial;refine W.go 99 rfl ?_;rw[jY];refine W.aB rfl rfl rfl (Ef.call rfl (eF _ _ _ _)) ?_;rintro _ _ _ ⟨_,rfl,rfl,rfl,rfl⟩;refine W.go 99 rfl ?_;refine W.split rfl rfl rfl (fun e2=>W.go 99 rfl ?_) (fun e2=>W.go 99 rfl ?_)
  ·exact W.ret r rfl rfl ⟨by unfold iw;simp[jQ,bq,uk,o9] at e2 ⊢;intro h;omega,rfl⟩
  refine W.split rfl rfl rfl (fun c=>absurd c (by decide)) (fun c=>?_);refine W.go 99 rfl ?_;refine W.aB rfl rfl rfl (Ef.call rfl (eF _ _ _ _)) ?_;rintro _ _ _ ⟨_,rfl,rfl,rfl,rfl⟩;refine W.go 99 rfl ?_;refine W.split rfl rfl rfl (fun e5=>W.go 99 rfl ?_) (fun e5=>W.go 99 rfl ?_)
  ·exact W.ret r rfl rfl ⟨by rw[kA (by simp[bq,jQ]) (by simpa [uk,jQ] using e2),if_neg (by simp at e5;simp[E5,E4,jQ,jU,e5])];rfl,rfl⟩
  refine W.aB rfl rfl rfl (Ef.call rfl (eF _ _ _ _)) ?_;rintro _ _ _ ⟨_,rfl,rfl,rfl,rfl⟩;refine W.go 99 rfl ?_;refine W.split rfl rfl rfl (fun e6=>W.go 99 rfl ?_) (fun e6=>W.go 99 rfl ?_)
  ·exact W.ret r rfl rfl ⟨by rw[kA (by simp[bq,jQ]) (by simpa [uk,jQ] using e2),if_neg (by simp at e6;simp[e6])];rfl,rfl⟩
  ·exact W.ret r rfl rfl ⟨by rw[kA (by simp[bq,jQ]) (by simpa [uk,jQ] using e2),if_pos (by simp at e5 e6;simp[E5,E4,jU,jQ,e5,e6])];rfl,rfl⟩
 ·refine W.go 99 rfl ?_;have e3:x.sort≠0:=by simpa using e1
  exact W.ret r rfl rfl ⟨by unfold iw;rw[if_pos (by simp[bq];omega)];rfl,rfl⟩
theorem L8(s:Sw)(p:Wp)(L:LH)(hs:mP L s p)(hn:Sm s):Sp X 102 [A1 s p] L (fun v L'=>v=.int .i64 (kK s)∧L=L'):=by
 have n1:=hn.hl;have n2:=hn.hs;have n3:=hn.hw;refine Sp.enter (n:=72) Tryz.func102 rfl rfl rfl rfl fun C hX _ aG r=>?_;refine W.go 99 rfl ?_;refine W.aB rfl rfl rfl (Ef.call rfl (Dc _ _ _ _)) ?_;rintro _ _ _ ⟨_,rfl,rfl,rfl,rfl⟩;refine W.go 99 rfl ?_;refine W.split rfl rfl rfl (fun c1=>W.go 99 rfl ?_) (fun c1=>W.go 99 rfl ?_)
 ·exact W.ret r rfl rfl ⟨by unfold kK;rw[if_pos (by simpa using c1)];rfl,rfl⟩
 refine W.loop (fun m E B L'=>∃i:Nat,m=s.bj.length - i∧i≤s.bj.length∧iH (s.bj.drop i)=iH s.bj∧E=[(1,.p 0 0),(20,.v (.slice p.la s.bj.length p.lc)),(21,.v (.int .i64 s.bj.length)),(22,.v (.int .i64 i))]∧B=[some ⟨eK (.v (A1 s p)),52⟩]∧L=L')
  ⟨0,rfl,by omega,by simp,rfl,rfl,rfl⟩ (by exact⟨rfl,rfl,rfl,rfl,trivial⟩) (by exact⟨rfl,trivial⟩) ?_
 rintro _ _ _ _ ⟨i,rfl,h1,hg,rfl,rfl,rfl⟩ again;refine W.go 99 rfl ?_;refine W.split rfl rfl rfl (fun d1=>W.go 99 rfl ?_) (fun d1=>W.go 99 rfl ?_)
 ·have hi:i<s.bj.length:=by simpa using d1
  have hl:s.bj[i]?=some s.bj[i]:=List.getElem?_eq_getElem hi;rw[List.drop_eq_getElem_cons hi,iH] at hg;obtain⟨la,vh⟩:=hs.lo.addr hi;have pI:=hs.lo;rw[vh] at pI;obtain⟨a,c,hc,sA,hcp⟩:=pI.row hl;have hlen:=hn.hr _ (List.mem_of_getElem? hl);generalize s.bj[i]=lf at *;obtain⟨qa,qb,qc,qd,qe,qf⟩:=p;obtain rfl:qa=some la:=vh;refine W.vf rfl rfl rfl rfl (Vf.aW rfl rfl rfl rfl rfl rfl rfl (hi)) ?_;refine W.go 99 rfl ?_;refine W.vf rfl rfl rfl rfl (Vf.load rfl rfl rfl (hc)) ?_;refine W.go 99 rfl ?_;refine W.aB rfl rfl rfl (Ef.call rfl (Bm _ _ _ _ sA (by omega))) ?_;rintro _ _ _ ⟨_,rfl,rfl,rfl,rfl⟩;refine W.go 99 rfl ?_;refine W.split rfl rfl rfl (fun d2=>W.go 99 rfl ?_) (fun d2=>W.go 99 rfl ?_)
  ·exact W.ret r rfl rfl ⟨by unfold kK;rw[if_neg (by simpa using c1),←hg,if_pos (show kh lf≠0 by simpa using d2),if_pos (show kh lf≠0 by simpa using d2)];rfl,rfl⟩
  ·exact W.again (again _ _ _ _ (by omega) ⟨i+1,rfl,by omega,by rw[←hg,if_neg (by simpa using d2)],rfl,rfl,rfl⟩) ⟨rfl,rfl,rfl,congrArg some (bu (by omega)),trivial⟩ ⟨rfl,trivial⟩
 have pI:iH s.bj=0:=by rw[←hg,List.drop_of_length_le (by simp at d1;omega)];rfl
 clear again hg;refine W.split rfl rfl rfl (fun c2=>W.go 99 rfl ?_) (fun c2=>W.go 99 rfl ?_)
 ·exact W.ret r rfl rfl ⟨by unfold kK;rw[if_neg (by simpa using c1),if_neg (by simp[pI]),if_pos (by simp at c2;omega)];rfl,rfl⟩
 have T2:s.gf.length=s.bj.length:=by simp at c2;omega
 refine W.loop (fun m E B L'=>∃i:Nat,m=s.gf.length - i∧i≤s.gf.length∧mE (s.gf.drop i)=mE s.gf∧E=[(1,.p 0 0),(40,.v (.slice p.sa s.gf.length p.sc)),(41,.v (.int .i64 s.gf.length)),(42,.v (.int .i64 i))]∧B=[some ⟨eK (.v (A1 s p)),52⟩]∧L=L')
  ⟨0,rfl,by omega,by simp,rfl,rfl,rfl⟩ (by exact⟨rfl,rfl,rfl,rfl,trivial⟩) (by exact⟨rfl,trivial⟩) ?_
 rintro _ _ _ _ ⟨i,rfl,h1,hg,rfl,rfl,rfl⟩ again;refine W.go 99 rfl ?_;refine W.split rfl rfl rfl (fun d1=>W.go 99 rfl ?_) (fun d1=>W.go 99 rfl ?_)
 ·have hi:i<s.gf.length:=by simpa using d1
  rw[List.drop_eq_getElem_cons hi,mE] at hg;obtain⟨la,vh⟩:=hs.st.addr hi;have cu:=hs.st;rw[vh] at cu;obtain⟨qa,qb,qc,qd,qe,qf⟩:=p;obtain rfl:qb=some la:=vh;refine W.vf rfl rfl rfl rfl (Vf.aW rfl rfl rfl rfl rfl rfl rfl (hi)) ?_;refine W.go 99 rfl ?_;refine W.vf rfl rfl rfl rfl (Vf.load rfl rfl rfl (cu.int (List.getElem?_eq_getElem hi))) ?_;refine W.go 99 rfl ?_;refine W.aB rfl rfl rfl (Ef.call rfl (eF _ _ _ _)) ?_;rintro _ _ _ ⟨_,rfl,rfl,rfl,rfl⟩;refine W.go 99 rfl ?_;refine W.split rfl rfl rfl (fun d2=>W.go 99 rfl ?_) (fun d2=>W.go 99 rfl ?_)
  ·exact W.ret r rfl rfl ⟨by unfold kK;rw[if_neg (by simpa using c1),if_neg (by simp[pI]),if_neg (by omega),←hg,if_pos (by simp at d2;simp[d2])];rfl,rfl⟩
  ·exact W.again (again _ _ _ _ (by omega) ⟨i+1,rfl,by omega,by simp at d2;rw[←hg,d2,Bool.true_and],rfl,rfl,rfl⟩) ⟨rfl,rfl,rfl,congrArg some (bu (by omega)),trivial⟩ ⟨rfl,trivial⟩
 have Gu:mE s.gf=true:=by rw[←hg,List.drop_of_length_le (by simp at d1;omega)];rfl
 clear again hg;have base:kK s=if !bq s.CI 0 3 then 1 else if 5<s.dS.length then 6 else kB s.bj s.dS:=by
  unfold kK;rw[if_neg (by simpa using c1),if_neg (by simp[pI]),if_neg (by omega),if_neg (by simp[Gu])]
 refine W.aB rfl rfl rfl (Ef.call rfl (eF _ _ _ _)) ?_;rintro _ _ _ ⟨_,rfl,rfl,rfl,rfl⟩;refine W.go 99 rfl ?_;refine W.split rfl rfl rfl (fun c3=>W.go 99 rfl ?_) (fun c3=>W.go 99 rfl ?_)
 ·exact W.ret r rfl rfl ⟨by rw[base,if_pos (by simpa using c3)];rfl,rfl⟩
 refine W.split rfl rfl rfl (fun c4=>W.go 99 rfl ?_) (fun c4=>W.go 99 rfl ?_)
 ·exact W.ret r rfl rfl ⟨by rw[base,if_neg (by simpa using c3),if_pos (by simp at c4;omega)];rfl,rfl⟩
 refine W.loop (fun m E B L'=>∃i:Nat,m=s.dS.length - i∧i≤s.dS.length∧kB s.bj (s.dS.drop i)=kB s.bj s.dS∧E=[(1,.p 0 0),(59,.v (.slice p.wa s.dS.length p.wc)),(60,.v (.int .i64 s.dS.length)),(61,.v (.int .i64 i))]∧B=[some ⟨eK (.v (A1 s p)),52⟩]∧L=L')
  ⟨0,rfl,by omega,by simp,rfl,rfl,rfl⟩ (by exact⟨rfl,rfl,rfl,rfl,trivial⟩) (by exact⟨rfl,trivial⟩) ?_
 rintro _ _ _ _ ⟨i,rfl,h1,hg,rfl,rfl,rfl⟩ again;refine W.go 99 rfl ?_;refine W.split rfl rfl rfl (fun d1=>W.go 99 rfl ?_) (fun d1=>W.go 99 rfl ?_)
 ·have hi:i<s.dS.length:=by simpa using d1
  rw[List.drop_eq_getElem_cons hi,kB] at hg;obtain⟨la,vh⟩:=hs.wt.addr hi;have cu:=hs.wt;rw[vh] at cu;have Rc:=hs;obtain⟨qa,qb,qc,qd,qe,qf⟩:=p;obtain rfl:qc=some la:=vh;refine W.vf rfl rfl rfl rfl (Vf.idx rfl rfl rfl rfl rfl rfl (hi)) ?_;refine W.go 99 rfl ?_;refine W.vf rfl rfl rfl rfl (Vf.cO rfl rfl rfl (cu.whole (List.getElem?_eq_getElem hi) rfl)) ?_;refine W.go 99 rfl ?_;refine W.aB rfl rfl rfl (Ef.call rfl (Bp s _ s.dS[i] L hs hn)) ?_;rintro _ _ _ ⟨_,rfl,rfl,rfl,rfl⟩;refine W.go 99 rfl ?_;refine W.split rfl rfl rfl (fun d2=>W.go 99 rfl ?_) (fun d2=>W.go 99 rfl ?_)
  ·exact W.ret r rfl rfl ⟨by rw[base,if_neg (by simpa using c3),if_neg (by simp at c4;omega),←hg,if_pos (show iw s.bj s.dS[i]≠0 by simpa using d2)];rfl,rfl⟩
  ·exact W.again (again _ _ _ _ (by omega) ⟨i+1,rfl,by omega,by rw[←hg,if_neg (by simpa using d2)],rfl,rfl,rfl⟩) ⟨rfl,rfl,rfl,congrArg some (bu (by omega)),trivial⟩ ⟨rfl,trivial⟩
 have hw:kB s.bj s.dS=0:=by rw[←hg,List.drop_of_length_le (by simp at d1;omega)];rfl
 exact W.ret r rfl rfl ⟨by rw[base,if_neg (by simpa using c3),if_neg (by simp at c4;omega),hw];rfl,rfl⟩
section
variable {P:Program}{C:Cx P}{E:a8}{B:List (Option Bx)}{L:LH}{dst:Option Tmp}{ty:TypeId}{pos:String}{af:Array Edge}{gd:Option (Nat×Bool)}
theorem Ef.range{t kt et:TypeId}{x:Operand}{r:Nat}{es:Array MapEntry}{clk:Nat}{wr:Bool}(hx:aL E x=some (.v (.map (some r))))(hu:P.underlying t=some (.map kt et))(hL:L r=some (.map es clk,wr)):
  Ef C ⟨dst,.range t x,ty,pos,af,gd⟩ E B L (fun sv B' L'=>∃b,sv=.v (.pointer (some ⟨b,0,none⟩))∧B'=B∧L b=none∧L'=L.put b (.mapIter (some r) clk #[] clk)):=by
 intro T R β hE hH;have ex:=(Option.some.inj (hE.val hx)).symm;refine⟨rfl,?_⟩;simp only[execOp,ex];rw[ae];unfold Instr.range;rw[ae,ao hu];simp only;rw[ae,fV (hH.le _ _ hL)];simp only;rw[ae,ar,ae,nT];intro b hb;exact⟨_,B,_,⟨b,rfl,rfl,(hH.free hb).1,rfl⟩,rfl,hH.vw hb _,fun _ _=>rfl⟩
theorem Ef.next{y:Operand}{q r since last:Nat}{es:Array MapEntry}{clk:Nat}{seen:Array Nat}{wr:Bool}(hy:aL E y=some (.v (.pointer (some ⟨q,0,none⟩))))(hq:L q=some (.mapIter (some r) since seen last,true))(hL:L r=some (.map es clk,wr))(hb:∀e∈es,e.born<since∧e.born<last):
  Ef C ⟨dst,.next y false,ty,pos,af,gd⟩ E B L (fun sv B' L'=>B'=B∧((sv=.v (.tuple #[.bool false])∧(∀e∈es,seen.contains e.born=true)∧L'=L)∨∃e∈es,seen.contains e.born=false∧sv=.v (.tuple #[.bool true,e.key,e.val])∧L'=L.put q (.mapIter (some r) since (seen.push e.born) clk))):=by
 intro T R β hE hH;have ey:=(Option.some.inj (hE.val hy)).symm;refine⟨rfl,?_⟩;simp only[execOp,ey];rw[ae];unfold Instr.next;simp only;rw[ae];show az P _ _ (.getObj q .pure) R;unfold az;rw[hH.le _ _ hq];simp only[ic,Bool.false_eq_true,if_false];show az P _ _ (getObj r>>= _) R;rw[ae,fV (hH.le _ _ hL)];simp only;have h1:(!seen.isEmpty&&!es.isEmpty&&es.all (fun e=>decide (e.born≥last)))=false:=by
  cases he:es.all (fun e=>decide (e.born≥last)) with
  | false=>rw[Bool.and_false]
  | true=>
   have:es=#[]:=by
    apply Array.eq_empty_of_size_eq_zero;rcases Nat.eq_zero_or_pos es.size with h | h
    ·exact h
    ·have h2:=Array.all_eq_true.1 he 0 h;have h3:=(hb _ (Array.getElem_mem h)).2;simp at h2;omega
   subst this;rw[show(#[]:Array MapEntry).isEmpty=true from rfl];cases seen.isEmpty <;> rfl
 rw[h1];simp only[Bool.false_eq_true,if_false];have hold:(es.filter fun e=>!seen.contains e.born).filter (fun e=>decide (e.born<since))=es.filter fun e=>!seen.contains e.born:=by
  rw[Array.filter_eq_self];intro e he;have:=(hb e (Array.mem_filter.1 he).1).1
  simpa using this
 have lL:(es.filter fun e=>!seen.contains e.born).filter (fun e=>decide (e.born≥since))=#[]:=by
  rw[Array.filter_eq_empty_iff];intro e he;have:=(hb e (Array.mem_filter.1 he).1).1;simp;omega
 rw[hold,lL,Array.append_empty];have gm:∀e,e∈(es.filter fun e=>!seen.contains e.born)↔e∈es∧seen.contains e.born=false:=fun e=>by rw[Array.mem_filter];simp
 generalize(es.filter fun e=>!seen.contains e.born)=lf at gm;rw[ae,lR];intro n hn;have done:∀{K:Value→LH→Prop},K (.tuple #[.bool false]) R→az P K (fun _ _=>False) (pure (.tuple #[.bool false]):Sem Value) R:=fun h=>h;cases hl:lf.isEmpty with
 | true=>
  have h0:lf=#[]:=by rw[Array.isEmpty_iff] at hl;exact hl
  subst h0;simp only[if_true,Array.map_empty,Array.append_empty];have kR:n=0:=by
   unfold j4 at hn;rw[if_pos (by simp[Question.forced])] at hn;exact hn
  subst kR;refine⟨_,B,L,⟨rfl,.inl ⟨rfl,fun e he=>?_,rfl⟩⟩,rfl,hH,fun _ _=>rfl⟩;cases hs:seen.contains e.born with
  | true=>rfl
  | false=>have:=(gm e).2 ⟨he,hs⟩;simp at this
 | false=>
  simp only[Bool.false_eq_true,if_false,Array.empty_append];have oV:0<lf.size:=by
   rcases Nat.eq_zero_or_pos lf.size with h | h
   ·rw[Array.isEmpty] at hl;simp[h] at hl
   ·exact h
  have aU:n<lf.size:=by
   rw[hl] at hn;simp only[Bool.false_eq_true,if_false,Array.empty_append,Array.size_map] at hn;unfold j4 at hn
   split at hn
   ·omega
   ·obtain⟨t,rfl⟩:=hn;exact Nat.mod_lt _ oV
  rw[Array.getElem?_map,Array.getElem?_eq_getElem aU];simp only[Option.map_some];obtain⟨g1,g2⟩:=(gm _).1 (Array.getElem_mem aU);rw[ae,eO (hH.le _ _ hq) rfl rfl];exact⟨_,B,_,⟨rfl,.inr ⟨lf[n],g1,g2,rfl,rfl⟩⟩,rfl,hH.m9 hq (aj _ _ _) (fun b' bG=>au R _ bG),fun _ _=>rfl⟩
end
end Go.Mz
set_option maxRecDepth 100000
namespace Go.Mz
open Go.Conc
section
variable {P:Program}{H:Value→LH→Prop}{R:LH}
theorem rO{d:Nat}{t e:TypeId}{n:Nat}{xs ys:List Int}{Q:Bool→LH→Prop}(hu:P.underlying t=some (.array n e))(he:P.underlying e=some (.int .i64))(hs:(P.info? e).map (·.size)=some 1)(ha:eV P e=some false)(hx:xs.length=n)(hy:ys.length=n):
  az P Q H (Op.equalIn (d+2) t (bX xs) (bX ys)) R=Q (decide (xs=ys)) R:=by
 unfold bX;rw[Op.equalIn,ae,ao hu,ae,bL hs,ae];simp only[Std.Legacy.Range.forIn_eq_forIn_range',Std.Legacy.Range.size,Nat.sub_zero,Nat.add_sub_cancel,Nat.div_one]
 suffices h:∀(k m:Nat) (Q':Option Bool×Unit→LH→Prop),m+k=n→az P Q' H (forIn (List.range' m k 1) ((none,()):Option Bool×Unit) fun i __s=>do
    let sZ ←Go.part e (xs.map (Value.int .i64)).toArray (i * 1)
    let Dx ←Go.part e (ys.map (Value.int .i64)).toArray (i * 1)
    let sZ ←Op.equalIn (d+1) e sZ Dx
    if(!sZ)=true then pure (ForInStep.done (some false,()))
     else pure (ForInStep.yield (none,()))) R=if xs.drop m=ys.drop m then Q' (none,()) R else Q' (some false,()) R by
  rw[h n 0 _ (by omega)];simp only[List.drop_zero]
  by_cases e:xs=ys
  ·rw[if_pos e,decide_eq_true e];rfl
  ·rw[if_neg e,decide_eq_false e];rfl
 intro k
 induction k with
 | zero=>
  intro m Q' hm;rw[List.drop_of_length_le (by omega),List.drop_of_length_le (by omega),if_pos rfl]
  rfl
 | succ k ih=>
  intro m Q' hm;have vm:m<xs.length:=by omega
  have hym:m<ys.length:=by omega
  rw[List.range'_succ,List.forIn_cons,ae,ae,Nat.mul_one,pX (v:=.int .i64 xs[m]) ha (by simp[vm]),ae,pX (v:=.int .i64 ys[m]) ha (by simp[hym]),ae,MQ he];rw[List.drop_eq_getElem_cons vm,List.drop_eq_getElem_cons hym]
  by_cases e1:xs[m]=ys[m]
  ·have e2:(xs[m]==ys[m])=true:=by simpa using e1
   rw[e2];have:=ih (m+1) Q' (by omega);rw[show(if xs[m]::xs.drop (m+1)=ys[m]::ys.drop (m+1) then Q' (none,()) R else Q' (some false,()) R)=if xs.drop (m+1)=ys.drop (m+1) then Q' (none,()) R else Q' (some false,()) R by rw[e1];simp only[List.cons.injEq,true_and]];exact this
  ·have e2:(xs[m]==ys[m])=false:=by simpa using e1
   rw[e2,if_neg (fun h=>e1 (List.cons.inj h).1)]
   rfl
theorem Ci{t e:TypeId}{n:Nat}{xs:List Int}(hu:P.underlying t=some (.array n e))(he:P.underlying e=some (.int .i64))(hs:(P.info? e).map (·.size)=some 1)(ha:eV P e=some false)(hx:xs.length=n):
  ∀(es:List MapEntry) (i:Nat),(∀y∈es,∃ys:List Int,ys.length=n∧y.key=bX ys∧ys≠xs)→∀(Q:Option (Nat×Value)→LH→Prop),az P Q H (Instr.findAsking t (bX xs) es i) R=Q none R
 | [],_,_,_=>rfl
 | y::es,i,h,Q=>by
  obtain⟨ys,h1,h2,h3⟩:=h y List.mem_cons_self;rw[Instr.findAsking,h2,ae];show az P _ H (Op.equalIn (9998+2) t _ _) R=_;rw[rO hu he hs ha hx h1,decide_eq_false (fun e=>h3 e.symm)];exact Ci hu he hs ha hx es (i+1) (fun z hz=>h z (List.mem_cons_of_mem _ hz)) Q
theorem uU{t:TypeDesc}{xs:List Int}(es:List MapEntry)(h:∀y∈es,∃ys:List Int,y.key=bX ys)(i:Nat):es≠[]→Instr.findNow t (bX xs) es i=none:=by
 cases es with
 | nil=>exact fun h=>absurd rfl h
 | cons y es=>
  intro _;obtain⟨ys,hy⟩:=h y List.mem_cons_self;unfold Instr.findNow;rw[hy];cases t <;> rfl
theorem uT{t e:TypeId}{n:Nat}{xs:List Int}{es:List MapEntry}(hu:P.underlying t=some (.array n e))(he:P.underlying e=some (.int .i64))(hs:(P.info? e).map (·.size)=some 1)(ha:eV P e=some false)(hx:xs.length=n)
  (h:∀y∈es,∃ys:List Int,ys.length=n∧y.key=bX ys∧ys≠xs)(Q:Option (Nat×Value)→LH→Prop):az P Q H (Instr.findKey t (bX xs) es) R=Q none R:=by
 unfold Instr.findKey;rw[ae,ao hu];cases es with
 | nil=>rfl
 | cons y es=>
  rw[uU (y::es) (fun z hz=>let⟨ys,_,h2,_⟩:=h z hz;⟨ys,h2⟩) 0 (by simp)];exact Ci hu he hs ha hx (y::es) 0 h Q
end
section
variable {P:Program}[S:Seat P]{C:Cx P}{E:a8}{B:List (Option Bx)}{L:LH}{dst:Option Tmp}{ty:TypeId}{pos:String}{af:Array Edge}{gd:Option (Nat×Bool)}
omit S in
theorem Vf.entry{y:Operand}{q r since clk:Nat}{es:Array MapEntry}{seen:Array Nat}{wr ep:Bool}{e:MapEntry}(hy:aL E y=some (.v (.pointer (some ⟨q,0,none⟩))))(hq:L q=some (.mapIter (some r) since seen clk,wr))(hL:L r=some (.map es clk,ep))(hb:seen.back?=some e.born)(he:es.find? (fun x=>x.born==e.born)=some e):
  Vf P (.entry y) E B L (.v (.tuple #[e.key,e.val])):=fun T R β hE _ UC=>by
 have ey:=(Option.some.inj (hE.val hy)).symm;refine⟨_,rfl,fun ty dst pos af gd Q H kS=>?_⟩;simp only[execOp,ey];rw[ae];unfold Instr.entry;simp only;rw[ae];show az P _ _ (.getObj q .pure) R;unfold az;rw[UC _ _ hq];simp only[ic,Bool.false_eq_true,if_false];show az P _ _ _ R;simp only[pure,az,hb];rw[ae,fV (UC _ _ hL)];simp only[bne_self_eq_false,Bool.false_eq_true,if_false,he];exact kS
omit S in
theorem Vf.yL{x:Operand}{t kt et:TypeId}{r clk:Nat}{es:Array MapEntry}{wr:Bool}(hx:aL E x=some (.v (.map (some r))))(hu:P.underlying t=some (.map kt et))(hL:L r=some (.map es clk,wr)):Vf P (.call {callee:=.builtin .len,args:=#[x],argTypes:=#[t]}) E B L (.v (.int .i64 es.size)):=fun T R β hE _ UC=>by
 have ex:=(Option.some.inj (hE.val hx)).symm;refine⟨_,rfl,fun ty dst pos af gd Q H hq=>?_⟩;simp only[execOp,resolve,List.map_toArray,List.map_cons,List.map_nil,ex,pure,Sem.bind,bind,invoke,builtin,Builtin.len_];simp only[List.getElem?_toArray,List.getElem?_cons_zero];show az P Q H ((_>>= _)>>= _) R;rw[ae,ae,ao hu];show az P _ H (getObj r>>= _) R;rw[ae,fV (UC _ _ hL)];exact hq
theorem Vf.gC{x y:Operand}{t e:TypeId}{ti te:TI}{kk off len cap i:Nat}{ik:IntKind}{j:Int}(hx:aL E x=some (.sl kk off len cap))(hy:aL E y=some (.v (.int ik j)))(ht:S.τ.find t=some ti)(hd:ti.d=.slice e)(he:S.τ.find e=some te)(hj:j=(i:Int))(hi:i<len):Vf P (.indexAddr t x y) E B L (.p kk (off+i *te.size)):=fun T R β hE _ _=>by
 have h1:=(TT.aD S.ok ht).d;rw[hd] at h1;subst hj;have hv:=hE.val hx;unfold den at hv;cases hk:β kk with
 | none=>rw[hk] at hv;cases hv
 | some b=>
  rw[hk] at hv;refine⟨.pointer (some ⟨b,off+i *te.size,none⟩),by unfold den;rw[hk],fun ty=>?_⟩;have:=aR.xI (P:=P) (L:=R) (ty:=ty) h1 (TT.aD S.ok he).size (Option.some.inj hv).symm (Option.some.inj (hE.val hy)).symm hi;rw[cK] at this;exact this
end
end Go.Mz
set_option maxRecDepth 100000
namespace Go.Mz
open Go.Conc Go.Proofs
variable {X:ax Tryz.prog}
structure kC where
 b:Bl
 ro:Ro
 s:Sw
 ls:List Bs
 an:List Bs
structure Kp where
 b:BP
 r:BP
 s:Wp
 la:Option Addr
 lc:Nat
 aa:Option Addr
 ac:Nat
abbrev Bi(k:kC)(p:Kp):List Value:=Fz k.b p.b++fT k.ro p.r++qM k.s p.s++[.slice p.la k.ls.length p.lc,.slice p.aa k.an.length p.ac]
abbrev Mr(k:kC)(p:Kp):Value:=.agg (Bi k p).toArray
structure nv(L:LH)(k:kC)(p:Kp):Prop where
 b:ny L k.b p.b
 r:fD L k.ro p.r
 s:mP L k.s p.s
 l:aX L p.la 1 cI k.ls
 a:aX L p.aa 1 cI k.an
theorem nv.le{L L':LH}{k:kC}{p:Kp}(h:nv L k p)(hl:Le L L'):nv L' k p:=⟨h.b.le hl,h.r.le hl,h.s.le hl,h.l.le hl,h.a.le hl⟩
def TG(l:Bs):Prop:=l.length≤100∧cV l 63=0∧∃v a,gW l=some (v,a)
structure Kk(k:kC):Prop where
 b:fX k.b=0
 r:dK k.ro=0
 s:kK k.s=0
 sm:Sm k.s
 l6:k.ls.length≤6
 ln:∀l∈k.ls,TG l
 al:k.an.length=k.ls.length
 a40:∀l∈k.an,l.length≤40
theorem HQ(k:kC)(p:Kp)(L:LH)(hk:nv L k p)(ok:Kk k):Sp X 92 [Mr k p] L (fun v L'=>v=.int .i64 0∧Le L L'):=by
 refine Sp.enter (n:=73) Tryz.func92 rfl rfl rfl rfl fun C hX _ aG r=>?_;refine W.go 99 rfl ?_;refine W.drawn (by kernel_rfl) _ (Le.refl _) ?_;refine DD.run' [0,1,3,4,6,7,11] rfl ?_;refine DD.act 2 rfl rfl rfl rfl rfl (Ef.call rfl (Oy k.b p.b _ hk.b)) (by rintro _ _ _ ⟨_,rfl,rfl,rfl,rfl⟩;exact⟨Le.refl _,rfl,.inl rfl⟩) ?_;rintro _ _ _ ⟨_,rfl,rfl,rfl,rfl⟩;refine DD.act 5 rfl rfl rfl rfl rfl (Ef.call rfl (xp k.ro p.r _ hk.r)) ((by rintro _ _ _ ⟨_,rfl,rfl,rfl,hl⟩;exact⟨hl,rfl,.inl rfl⟩)) ?_;rintro _ _ _ ⟨_,rfl,rfl,rfl,hle⟩;rename_i L1;have lK:=hk.le hle;rw[ok.b,ok.r];refine DD.act 8 rfl rfl rfl rfl rfl (Ef.call rfl (L8 k.s p.s _ lK.s ok.sm)) ((by rintro _ _ _ ⟨_,rfl,rfl,rfl,rfl⟩;exact⟨hle,rfl,.inl rfl⟩)) ?_;rintro _ _ _ ⟨_,rfl,rfl,rfl,rfl⟩;rw[ok.s];refine DD.run' [9,10] rfl ?_;refine .fin rfl ?_;refine W.go 99 rfl ?_;have qt:=ok.l6;have hal:=ok.al;refine W.loop (fun m' E B L'=>∃i:Nat,m'=3 - i∧i≤3∧L1=L'∧E=[(1,.p 0 0),(20,.sl 1 0 3 3),(21,.v (.int .i64 3)),(22,.v (.int .i64 i))]∧B=[some ⟨(Bi k p).map .v,56⟩,some ⟨[.v (.int .i64 0),.v (.int .i64 0),.v (.int .i64 0)],39⟩])
  ⟨0,rfl,Nat.zero_le _,rfl,rfl,rfl⟩ (by exact⟨rfl,rfl,rfl,rfl,trivial⟩) (by exact⟨rfl,rfl,trivial⟩) ?_
 rintro _ _ _ _ ⟨i,rfl,hi,rfl,rfl,rfl⟩ again;have hc:i=0∨i=1∨i=2∨i=3:=by omega
 rcases hc with rfl | rfl | rfl | rfl
 ·rw[show((0:Nat):Int)=0 from rfl];refine W.go 99 rfl ?_;refine W.split rfl rfl rfl (fun c=>?_) (fun c=>absurd c (by decide));refine W.go 99 rfl ?_;refine W.vf rfl rfl rfl rfl (Vf.gC (i:=0) rfl rfl rfl rfl rfl rfl (by decide)) ?_;refine W.go 99 rfl ?_;refine W.split rfl rfl rfl (fun c=>absurd c (by decide)) (fun c=>?_);refine W.go 99 rfl ?_;exact W.again (again _ _ _ _ (by omega) ⟨1,rfl,by omega,rfl,rfl,rfl⟩) ⟨rfl,rfl,rfl,congrArg some rfl,trivial⟩ ⟨rfl,rfl,trivial⟩
 ·rw[show((1:Nat):Int)=1 from rfl];refine W.go 99 rfl ?_;refine W.split rfl rfl rfl (fun c=>?_) (fun c=>absurd c (by decide));refine W.go 99 rfl ?_;refine W.vf rfl rfl rfl rfl (Vf.gC (i:=1) rfl rfl rfl rfl rfl rfl (by decide)) ?_;refine W.go 99 rfl ?_;refine W.split rfl rfl rfl (fun c=>absurd c (by decide)) (fun c=>?_);refine W.go 99 rfl ?_;exact W.again (again _ _ _ _ (by omega) ⟨2,rfl,by omega,rfl,rfl,rfl⟩) ⟨rfl,rfl,rfl,congrArg some rfl,trivial⟩ ⟨rfl,rfl,trivial⟩
 ·rw[show((2:Nat):Int)=2 from rfl];refine W.go 99 rfl ?_;refine W.split rfl rfl rfl (fun c=>?_) (fun c=>absurd c (by decide));refine W.go 99 rfl ?_;refine W.vf rfl rfl rfl rfl (Vf.gC (i:=2) rfl rfl rfl rfl rfl rfl (by decide)) ?_;refine W.go 99 rfl ?_;refine W.split rfl rfl rfl (fun c=>absurd c (by decide)) (fun c=>?_);refine W.go 99 rfl ?_;exact W.again (again _ _ _ _ (by omega) ⟨3,rfl,by omega,rfl,rfl,rfl⟩) ⟨rfl,rfl,rfl,congrArg some rfl,trivial⟩ ⟨rfl,rfl,trivial⟩
 ·clear again;rw[show((3:Nat):Int)=3 from rfl];refine W.go 99 rfl ?_;refine W.split rfl rfl rfl (fun c=>absurd c (by decide)) (fun c=>?_);refine W.go 99 rfl ?_;refine W.split rfl rfl rfl (fun h=>absurd h (by simp;omega)) (fun _=>?_);refine W.go 99 rfl ?_;refine W.loop (fun m' E B L'=>∃i:Nat,m'=k.ls.length - i∧i≤k.ls.length∧Le L1 L'∧E=[(1,.p 0 0),(35,.v (.slice p.la k.ls.length p.lc)),(36,.v (.int .i64 k.ls.length)),(37,.v (.int .i64 i))]∧B=[some ⟨(Bi k p).map .v,56⟩])
   ⟨0,rfl,Nat.zero_le _,Le.refl _,rfl,rfl⟩ (by exact⟨rfl,rfl,rfl,rfl,trivial⟩) (by exact⟨rfl,trivial⟩) ?_
  rintro _ _ _ L2 ⟨i,rfl,hi,bZ,rfl,rfl⟩ again;refine W.go 99 rfl ?_;refine W.split rfl rfl rfl (fun c1=>W.go 99 rfl ?_) (fun c1=>W.go 99 rfl ?_)
  ·have hi:i<k.ls.length:=by simpa using c1
   have tL:=lK.le bZ;obtain⟨a,ha⟩:=tL.l.addr hi;have hl:=tL.l;rw[ha] at hl ⊢;have hx:=List.getElem?_eq_getElem hi;obtain⟨q1,q2,v,aa,q3⟩:=ok.ln _ (List.getElem_mem hi);generalize k.ls[i]=x at hx q1 q2 q3;refine W.vf rfl rfl rfl rfl (Vf.aW rfl rfl rfl rfl rfl rfl rfl (hi)) ?_;refine W.go 99 rfl ?_;refine W.vf rfl rfl rfl rfl (Vf.load rfl rfl rfl (jq hl hx)) ?_;refine W.go 99 rfl ?_;refine W.aB rfl rfl rfl (Ef.call rfl (Bg x _ q2)) ?_;rintro _ _ _ ⟨_,rfl,rfl,rfl,rfl⟩;refine W.go 99 rfl ?_;refine W.aB rfl rfl rfl (Ef.call rfl (Fo x v aa _ (by omega) q3)) ?_;rintro _ _ _ ⟨_,rfl,rfl,ad,cap,rfl,hg⟩;refine W.go 99 rfl ?_;refine W.split rfl rfl rfl (fun c=>absurd c (by decide)) (fun c=>?_);refine W.go 99 rfl ?_;exact W.again (again _ _ _ _ (by omega) ⟨i+1,rfl,hi,bZ.trans hg.1,rfl,rfl⟩) ⟨rfl,congrArg (fun a=>some (SV.v (.slice a _ _))) ha.symm,rfl,congrArg some (bu (by omega)),trivial⟩ ⟨rfl,trivial⟩
  ·clear again c1 hi;have tL:=lK.le bZ;refine W.aB rfl rfl rfl (Ef.call rfl (LM p.la p.lc k.ls _ tL.l (by omega) (fun x hx=>(ok.ln x hx).2.1))) ?_;rintro _ _ _ ⟨_,rfl,rfl,rfl,rfl⟩;refine W.go 99 rfl ?_;refine W.split rfl rfl rfl (fun c=>absurd c (by decide)) (fun c=>?_);refine W.go 99 rfl ?_;refine W.split rfl rfl rfl (fun h=>absurd h (by rw[ok.al];simp)) (fun _=>?_);refine W.go 99 rfl ?_;refine W.loop (fun m' E B L'=>∃i:Nat,m'=k.an.length - i∧i≤k.an.length∧L2=L'∧E=[(63,.v (.slice p.aa k.an.length p.ac)),(64,.v (.int .i64 k.an.length)),(65,.v (.int .i64 i))]∧B=[])
    ⟨0,rfl,Nat.zero_le _,rfl,rfl,rfl⟩ (by exact⟨rfl,rfl,rfl,trivial⟩) (by exact trivial) ?_
   rintro _ _ _ _ ⟨i,rfl,hi,rfl,rfl,rfl⟩ again;refine W.go 99 rfl ?_;refine W.split rfl rfl rfl (fun c1=>W.go 99 rfl ?_) (fun c1=>W.go 99 rfl ?_)
   ·have hi:i<k.an.length:=by simpa using c1
    obtain⟨a,ha⟩:=tL.a.addr hi;have hl:=tL.a;rw[ha] at hl ⊢;have hx:=List.getElem?_eq_getElem hi;have q1:=ok.a40 _ (List.getElem_mem hi);generalize k.an[i]=x at hx q1;refine W.vf rfl rfl rfl rfl (Vf.aW rfl rfl rfl rfl rfl rfl rfl (hi)) ?_;refine W.go 99 rfl ?_;refine W.vf rfl rfl rfl rfl (Vf.load rfl rfl rfl (jq hl hx)) ?_;refine W.go 99 rfl ?_;refine W.split rfl rfl rfl (fun h=>absurd h (by simp;omega)) (fun _=>?_);refine W.go 99 rfl ?_;exact W.again (again _ _ _ _ (by omega) ⟨i+1,rfl,hi,rfl,rfl,rfl⟩) ⟨congrArg (fun a=>some (SV.v (.slice a _ _))) ha.symm,rfl,congrArg some (bu (by omega)),trivial⟩ trivial
   ·refine W.ret r rfl rfl ?_;exact⟨rfl,hle.trans bZ⟩
end Go.Mz
set_option maxRecDepth 100000
namespace Go.Mz
open Go.Conc
theorem bM.base{α:Type}{I L1 L2:LH}{k:Nat}{e:TypeId}{enc:α→List Value}{v:Value}{l:List α}(h:bM I k e enc L1 v l)(h2:Le L1 L2):∃J,Le I J∧Le J L2∧bM J k e enc L2 v l∧∀b,L1 b=none→J b=L2 b:=by
 obtain⟨h1,ob,ho,hn⟩:=h;cases ob with
 | none=>exact⟨L2,h1.trans h2,Le.refl _,⟨Le.refl _,none,ho.le h2,fun b hb=>by cases hb⟩,fun _ _=>rfl⟩
 | some c=>
  have hJ:∀b,b≠c→(fun b=>if b=c then none else L2 b:LH) b=L2 b:=fun b hb=>if_neg hb;have hc:(fun b=>if b=c then none else L2 b:LH) c=none:=if_pos rfl;refine⟨fun b=>if b=c then none else L2 b,fun b x hx=>?_,fun b x hx=>?_,⟨fun b x hx=>?_,some c,ho.le h2,fun b hb=>by cases hb;exact hc⟩,fun b hb=>?_⟩
  ·have e:b≠c:=fun e=>by subst e;rw[hn _ rfl] at hx;cases hx
   exact(hJ b e).trans (h2 _ _ (h1 _ _ hx))
  ·by_cases e:b=c
   ·subst e;rw[show(fun b'=>if b'=b then none else L2 b':LH) b=none from if_pos rfl] at hx;cases hx
   ·rw[hJ b e] at hx;exact hx
  ·by_cases e:b=c
   ·subst e;rw[show(fun b'=>if b'=b then none else L2 b':LH) b=none from if_pos rfl] at hx;cases hx
   ·rw[hJ b e] at hx;exact hx
  ·exact hJ b fun e=>by subst e;exact ho.blk hb
theorem bM.under{α:Type}{I J L:LH}{k:Nat}{e:TypeId}{enc:α→List Value}{ad:Option Addr}{len cap:Nat}{l:List α}(h:bM I k e enc L (.slice ad len cap) l)(hk:∀x,(enc x).length=k)(hJ:∀b,I b=none→J b=L b):aX J ad k enc l:=by
 obtain⟨_,ob,h2,h3⟩:=h;obtain⟨_,_,e1,_⟩:=h2.slice;cases e1;exact(h2.keep fun b hb=>hJ b (h3 b hb)).at hk
theorem bM.post{α:Type}{K L K' L':LH}{k:Nat}{e:TypeId}{enc:α→List Value}{v:Value}{l:List α}(h:bM K k e enc L v l)(hp:Go.Mz.Post K L K' L'):bM K' k e enc L' v l:=by
 obtain⟨h1,ob,h2,h3⟩:=h;refine⟨hp.le,ob,?_,fun b hb=>?_⟩
 ·cases ob with
  | none=>exact h2
  | some b=>obtain⟨cap,c,h4,h5,h6⟩:=h2;exact⟨cap,c,h4,hp.keep b _ (h3 b rfl) h5,h6⟩
 ·refine Classical.byContradiction fun e=>?_;rcases hp.fresh b e with g | g
  ·exact g (h3 b hb)
  ·subst hb;exact h2.blk g
theorem bM.off{α:Type}{K L L':LH}{k:Nat}{e:TypeId}{enc:α→List Value}{v:Value}{l:List α}{b:Nat}(h:bM K k e enc L v l)(hb:L b=none)(hk:∀b' x,b'≠b→L b'=some x→L' b'=some x):bM K k e enc L' v l:=by
 obtain⟨h1,ob,h2,h3⟩:=h;refine⟨fun b' x hx=>hk b' x (fun e=>by subst e;rw[h1 _ _ hx] at hb;cases hb) (h1 _ _ hx),ob,?_,h3⟩;cases ob with
 | none=>exact h2
 | some c=>obtain⟨cap,cc,h4,h5,h6⟩:=h2;exact⟨cap,cc,h4,hk _ _ (fun e=>by subst e;rw[h5] at hb;cases hb) h5,h6⟩
theorem bM.less{α:Type}{J K L:LH}{k:Nat}{e:TypeId}{enc:α→List Value}{v:Value}{l:List α}(h:bM K k e enc L v l)(hl:Le J K):bM J k e enc L v l:=let⟨h1,ob,h2,h3⟩:=h;⟨hl.trans h1,ob,h2,fun b hb=>aP hl (h3 b hb)⟩
theorem bM.at2{α:Type}{I L:LH}{k n cap:Nat}{e:TypeId}{enc:α→List Value}{ad:Option Addr}{l:List α}(h:bM I k e enc L (.slice ad n cap) l)(hk:∀x,(enc x).length=k)(hn:l.length=n):aX L ad k enc l:=by
 subst hn;exact(h.at hk).2
end Go.Mz
set_option maxRecDepth 100000
namespace Go.Mz
open Go.Conc Go.Proofs
variable {X:ax Tryz.prog}
def gJ(v:Nat)(ad:Option Addr)(cap:Nat)(a:List Int):Value:=
 if v=3 then .iface 209 (.agg #[.int .i64 (a.getD 0 0)]) else if v=4 then .iface 153 (.agg #[.int .i64 (a.getD 0 0)]) else if v=5 then .iface 155 (.agg #[.int .i64 (a.getD 0 0)])
 else if v=6 then .iface 157 (.agg #[]) else .iface 252 (.agg #[.int .i64 v,.slice ad a.length cap])
theorem NJ(v:Nat)(ad:Option Addr)(cap:Nat)(a:List Int)(L:LH)(hv:v<7)(hn:a.length=iu v)(ha:aN L ad a):Sp X 132 [.agg #[.int .i64 v,.slice ad a.length cap]] L (fun u L'=>u=gJ v ad cap a∧L=L'):=by
 have hc:v=0∨v=1∨v=2∨v=3∨v=4∨v=5∨v=6:=by omega
 have h0:(hl:0<a.length)→a[0]?=some (a.getD 0 0):=fun hl=>by
  rw[List.getD_eq_getElem?_getD,List.getElem?_eq_getElem hl];rfl
 rcases hc with rfl | rfl | rfl | rfl | rfl | rfl | rfl
 ·refine Sp.enter (n:=36) Tryz.func132 rfl rfl rfl rfl fun C hX _ aG r=>?_;refine W.go 99 rfl ?_;refine W.split rfl rfl rfl (fun c=>absurd c (by decide)) (fun c=>?_);refine W.go 99 rfl ?_;refine W.split rfl rfl rfl (fun c=>absurd c (by decide)) (fun c=>?_);refine W.go 99 rfl ?_;refine W.split rfl rfl rfl (fun c=>absurd c (by decide)) (fun c=>?_);refine W.go 99 rfl ?_;refine W.split rfl rfl rfl (fun c=>absurd c (by decide)) (fun c=>?_);refine W.go 99 rfl ?_;exact W.ret r rfl rfl ⟨rfl,rfl⟩
 ·refine Sp.enter (n:=36) Tryz.func132 rfl rfl rfl rfl fun C hX _ aG r=>?_;refine W.go 99 rfl ?_;refine W.split rfl rfl rfl (fun c=>absurd c (by decide)) (fun c=>?_);refine W.go 99 rfl ?_;refine W.split rfl rfl rfl (fun c=>absurd c (by decide)) (fun c=>?_);refine W.go 99 rfl ?_;refine W.split rfl rfl rfl (fun c=>absurd c (by decide)) (fun c=>?_);refine W.go 99 rfl ?_;refine W.split rfl rfl rfl (fun c=>absurd c (by decide)) (fun c=>?_);refine W.go 99 rfl ?_;exact W.ret r rfl rfl ⟨rfl,rfl⟩
 ·refine Sp.enter (n:=36) Tryz.func132 rfl rfl rfl rfl fun C hX _ aG r=>?_;refine W.go 99 rfl ?_;refine W.split rfl rfl rfl (fun c=>absurd c (by decide)) (fun c=>?_);refine W.go 99 rfl ?_;refine W.split rfl rfl rfl (fun c=>absurd c (by decide)) (fun c=>?_);refine W.go 99 rfl ?_;refine W.split rfl rfl rfl (fun c=>absurd c (by decide)) (fun c=>?_);refine W.go 99 rfl ?_;refine W.split rfl rfl rfl (fun c=>absurd c (by decide)) (fun c=>?_);refine W.go 99 rfl ?_;exact W.ret r rfl rfl ⟨rfl,rfl⟩
 ·have hl:0<a.length:=by rw[hn];decide
  obtain⟨Mm,rfl⟩:=ha.addr hl;refine Sp.enter (n:=36) Tryz.func132 rfl rfl rfl rfl fun C hX _ aG r=>?_;refine W.go 99 rfl ?_;refine W.split rfl rfl rfl (fun c=>?_) (fun c=>absurd c (by decide));refine W.go 99 rfl ?_;refine W.vf rfl rfl rfl rfl (Vf.aW rfl rfl rfl rfl rfl rfl rfl ((show 0<a.length from hl))) ?_;refine W.go 99 rfl ?_;refine W.vf rfl rfl rfl rfl (Vf.load rfl rfl rfl (ha.int (h0 hl))) ?_;refine W.go 99 rfl ?_;exact W.ret r rfl rfl ⟨rfl,rfl⟩
 ·have hl:0<a.length:=by rw[hn];decide
  obtain⟨Mm,rfl⟩:=ha.addr hl;refine Sp.enter (n:=36) Tryz.func132 rfl rfl rfl rfl fun C hX _ aG r=>?_;refine W.go 99 rfl ?_;refine W.split rfl rfl rfl (fun c=>absurd c (by decide)) (fun c=>?_);refine W.go 99 rfl ?_;refine W.split rfl rfl rfl (fun c=>?_) (fun c=>absurd c (by decide));refine W.go 99 rfl ?_;refine W.vf rfl rfl rfl rfl (Vf.aW rfl rfl rfl rfl rfl rfl rfl ((show 0<a.length from hl))) ?_;refine W.go 99 rfl ?_;refine W.vf rfl rfl rfl rfl (Vf.load rfl rfl rfl (ha.int (h0 hl))) ?_;refine W.go 99 rfl ?_;exact W.ret r rfl rfl ⟨rfl,rfl⟩
 ·have hl:0<a.length:=by rw[hn];decide
  obtain⟨Mm,rfl⟩:=ha.addr hl;refine Sp.enter (n:=36) Tryz.func132 rfl rfl rfl rfl fun C hX _ aG r=>?_;refine W.go 99 rfl ?_;refine W.split rfl rfl rfl (fun c=>absurd c (by decide)) (fun c=>?_);refine W.go 99 rfl ?_;refine W.split rfl rfl rfl (fun c=>absurd c (by decide)) (fun c=>?_);refine W.go 99 rfl ?_;refine W.split rfl rfl rfl (fun c=>?_) (fun c=>absurd c (by decide));refine W.go 99 rfl ?_;refine W.vf rfl rfl rfl rfl (Vf.aW rfl rfl rfl rfl rfl rfl rfl ((show 0<a.length from hl))) ?_;refine W.go 99 rfl ?_;refine W.vf rfl rfl rfl rfl (Vf.load rfl rfl rfl (ha.int (h0 hl))) ?_;refine W.go 99 rfl ?_;exact W.ret r rfl rfl ⟨rfl,rfl⟩
 ·refine Sp.enter (n:=36) Tryz.func132 rfl rfl rfl rfl fun C hX _ aG r=>?_;refine W.go 99 rfl ?_;refine W.split rfl rfl rfl (fun c=>absurd c (by decide)) (fun c=>?_);refine W.go 99 rfl ?_;refine W.split rfl rfl rfl (fun c=>absurd c (by decide)) (fun c=>?_);refine W.go 99 rfl ?_;refine W.split rfl rfl rfl (fun c=>absurd c (by decide)) (fun c=>?_);refine W.go 99 rfl ?_;refine W.split rfl rfl rfl (fun c=>?_) (fun c=>absurd c (by decide));refine W.go 99 rfl ?_;exact W.ret r rfl rfl ⟨rfl,rfl⟩
structure AP where
 v:Nat
 a:List Int
 ad:Option Addr
 cap:Nat
def AP.x(u:AP):Nat×List Int:=(u.v,u.a)
abbrev AP.u(u:AP):Value:=gJ u.v u.ad u.cap u.a
abbrev FJ(u:AP):List Value:=[u.u]
theorem B8(u:AP):(FJ u).length=1:=rfl
theorem Pp(x:AP):∀u∈FJ x,single u=true:=fun u hu=>by
 rw[List.mem_singleton.1 hu];unfold AP.u gJ
 repeat' split
 all_goals rfl
def pw(L:LH)(us:List AP):Prop:=∀u∈us,aN L u.ad u.a
theorem pw.le{L L':LH}{us:List AP}(h:pw L us)(hl:Le L L'):pw L' us:=fun u hu=>(h u hu).le hl
structure yZ(L:LH)(bc:Nat)(k:kC)(p:Kp)(xs:List (Nat×List Int))(us:List AP)(ua:Option Addr)(uc:Nat):Prop where
 o:L bc=some (.cells (Bi k p++[Value.slice ua us.length uc]).toArray 195 (0,0),true)
 k:nv L k p
 s:aX L ua 1 FJ us
 a:pw L us
 x:us.map AP.x=xs
 c:us.length≤uc
theorem OR{u:Value}{v:Nat}{ad:Option Addr}{cap:Nat}{a:List Int}(h:u=gJ v ad cap a):∃t w,u=.iface t w:=by
 unfold gJ at h
 split at h
 ·exact⟨_,_,h⟩
 ·split at h
  ·exact⟨_,_,h⟩
  ·split at h
   ·exact⟨_,_,h⟩
   ·split at h <;> exact⟨_,_,h⟩
end Go.Mz
namespace Go.Mz
open Go
def eo(x:Int)(s:bV):Prop:=s.lo≤x∧x≤s.hi
theorem Nv{x:Int}{a b:bV}(h1:eo x a)(h2:eo x b):eo x (dj a b):=by
 unfold eo dj at *;dsimp only;omega
theorem CU{l:List Int}(h:∀x∈l,0<x):0<gG l:=by
 have key:∀(l:List Int) (a:Int),0<a→(∀x∈l,0<x)→0<l.foldl (· * ·) a:=by
  intro l
  induction l with
  | nil=>exact fun a ha _=>ha
  | cons x l ih=>exact fun a ha hx=>ih (a *x) (Int.mul_pos ha (hx x List.mem_cons_self)) fun y hy=>hx y (List.mem_cons_of_mem _ hy)
 exact key l 1 (by decide) h
structure aaR(b:Bl):Prop where
 s1:1≤b.gw.length
 s3:b.gw.length≤3
 sb:∀s∈b.gw,0≤s.lo∧s.lo≤s.hi∧s.hi≤40
 rl:b.ir.length=b.gw.length
 rb:∀r∈b.ir,1≤r∧r≤3
 mrk:∃m0 m1 m2,b.marks=[m0,m1,m2]∧1≤m0∧m0<m1∧m1<m2∧m2≤60
 h1:1≤b.lZ.length
 h5:b.lZ.length≤5
 hb:∀s∈b.lZ,0≤s.lo∧s.lo≤s.hi∧s.hi≤4
 p8:b.proofs.length≤8
 pb:∀p∈b.proofs,iR b p=0
theorem N0{s:bV}{m:Int}(h:eE s m=0):0≤s.lo∧s.lo≤s.hi∧s.hi≤m:=by
 unfold eE at h
 by_cases h1:(!bq s.lo 0 m||!bq s.hi 0 m)=true
 ·rw[if_pos h1] at h;cases h
 ·rw[if_neg h1] at h
  by_cases h2:s.hi<s.lo
  ·rw[if_pos h2] at h;cases h
  ·simp only[Bool.or_eq_true,Bool.not_eq_true',not_or,Bool.not_eq_false] at h1;have a:=jh.1 h1.1;have b:=jh.1 h1.2;omega
theorem AS{m:Int}:∀{l:List bV},fq m l=0→∀s∈l,0≤s.lo∧s.lo≤s.hi∧s.hi≤m
 | [],_,s,hs=>by cases hs
 | x::l,h,s,hs=>by
  unfold fq at h
  by_cases h1:eE x m≠0
  ·rw[if_pos h1] at h;exact absurd h h1
  ·rw[if_neg h1] at h;rcases List.mem_cons.1 hs with rfl | hs
   ·exact N0 (by simpa using h1)
   ·exact AS h s hs
theorem JO{n lo hi:Int}(h:bA n lo hi=0):lo≤n∧n≤hi:=by
 unfold bA at h
 split at h
 ·cases h
 ·split at h
  ·cases h
  ·omega
theorem AT{l:List bV}{many m:Int}(h:dq l many m=0):1≤(l.length:Int)∧(l.length:Int)≤many∧∀s∈l,0≤s.lo∧s.lo≤s.hi∧s.hi≤m:=by
 unfold dq at h
 by_cases h1:bA l.length 1 many≠0
 ·rw[if_pos h1] at h;exact absurd h h1
 ·rw[if_neg h1] at h;have:=JO (by simpa using h1);exact⟨this.1,this.2,AS h⟩
theorem As:∀{l:List Int},lC l=true→∀r∈l,1≤r∧r≤3
 | [],_,r,hr=>by cases hr
 | x::l,h,r,hr=>by
  unfold lC at h;rw[Bool.and_eq_true] at h;rcases List.mem_cons.1 hr with rfl | hr
  ·exact jh.1 h.1
  ·exact As h.2 r hr
theorem xQ{b:Bl}:∀{l:List nX},jj b l=0→∀p∈l,iR b p=0
 | [],_,p,hp=>by cases hp
 | x::l,h,p,hp=>by
  unfold jj at h
  by_cases h1:iR b x≠0
  ·rw[if_pos h1] at h;exact absurd h h1
  ·rw[if_neg h1] at h;rcases List.mem_cons.1 hp with rfl | hp
   ·simpa using h1
   ·exact xQ h p hp
theorem Jg{l:List Int}(h:km l=0):∃m0 m1 m2,l=[m0,m1,m2]∧1≤m0∧m0<m1∧m1<m2∧m2≤60:=by
 unfold km at h
 by_cases h1:l.length≠3
 ·rw[if_pos h1] at h;cases h
 ·rw[if_neg h1] at h
  match l,h1 with
  | [a,b,c],_=>
   split at h
   ·cases h
   ·rename_i h2
    split at h
    ·cases h
    ·rename_i h3;simp only[List.all_cons,List.all_nil,Bool.and_true,Bool.not_eq_true',Bool.not_eq_false,Bool.and_eq_true] at h2;have i1:=jh.1 h2.1;have i3:=jh.1 h2.2.2;simp only[List.getD_eq_getElem?_getD,List.getElem?_cons_zero,List.getElem?_cons_succ,Option.getD_some,not_or,Int.not_le] at h3;exact⟨a,b,c,rfl,i1.1,h3.1,h3.2,i3.2⟩
  | [],h1=>simp at h1
  | [_],h1=>simp at h1
  | [_,_],h1=>simp at h1
  | _::_::_::_::_,h1=>simp at h1
theorem Yc{b:Bl}(h:fX b=0):aaR b:=by
 unfold fX at h
 by_cases c1:dq b.gw 3 40≠0
 ·rw[if_pos c1] at h;exact absurd h c1
 rw[if_neg c1] at h
 by_cases c2:b.ir.length≠b.gw.length
 ·rw[if_pos c2] at h;cases h
 rw[if_neg c2] at h
 by_cases c3:(!lC b.ir)=true
 ·rw[if_pos c3] at h;cases h
 rw[if_neg c3] at h
 by_cases c4:km b.marks≠0
 ·rw[if_pos c4] at h;exact absurd h c4
 rw[if_neg c4] at h
 by_cases c5:dq b.lZ 5 4≠0
 ·rw[if_pos c5] at h;exact absurd h c5
 rw[if_neg c5] at h
 by_cases c6:8<b.proofs.length
 ·rw[if_pos c6] at h;cases h
 rw[if_neg c6] at h;obtain⟨a1,a2,a3⟩:=AT (by simpa using c1);obtain⟨d1,d2,d3⟩:=AT (by simpa using c5);exact⟨by omega,by omega,a3,by simpa using c2,As (by simpa using c3),Jg (by simpa using c4),by omega,by omega,d3,by omega,xQ h⟩
theorem G3(l:List Int)(x:Int):gG (l++[x])=gG l *x:=by unfold gG;rw[List.foldl_append];rfl
theorem EX(s:bV):(fI s).Nodup:=by
 unfold fI;unfold List.Nodup;rw[List.pairwise_map];exact List.nodup_range.imp fun h e=>h (by omega)
end Go.Mz
set_option maxRecDepth 100000
namespace Go.Mz
open Go.Conc Go.Proofs
variable {X:ax Tryz.prog}
abbrev HG:=List Int×List bV
theorem GQ{α:Type}{g:List α}{k:Nat}{s:α}(f:α→α)(h:g[k]?=some s):g.modify k f=g.set k (f s):=by
 apply List.ext_getElem?;intro i;rw[List.getElem?_modify,List.getElem?_set]
 by_cases e:k=i
 ·subst e;have hk:=(List.getElem?_eq_some_iff.1 h).1;rw[if_pos rfl,if_pos hk,h];show some (if k=k then f s else s)=_;rw[if_pos rfl]
 ·rw[if_neg e];cases g[i]? with
  | none=>rfl
  | some x=>
   show some (if k=i then f x else x)=_;rw[if_neg e]
section
variable {bb:Nat}{b:Bl}{p:BP}{m bs bp by_ bf bg:Nat}{pa:Option Addr}{pc:Nat}{ps:List nX}{f:bV}{yv:Value}{xs:List HG}{J:List HG→LH→Prop}{Z:LH→Prop}
end
end Go.Mz
set_option maxRecDepth 100000
namespace Go.Mz
open Go.Conc Go.Proofs
variable {X:ax Tryz.prog}
variable {bb:Nat}{b:Bl}{p:BP}{m bs bp by_ bf bg:Nat}{pa:Option Addr}{pc:Nat}{ps:List nX}{f:bV}{yv:Value}{xs:List HG}{J:List HG→LH→Prop}{Z:LH→Prop}
theorem Hc{n:Nat}{sl:List Nat}(hn:sl.Nodup)(hm:∀i∈sl,i<n):sl.length≤n:=by
 have:=List.Nodup.length_le_of_subset hn (l₂:=List.range n) fun i hi=>List.mem_range.2 (hm i hi)
 simpa using this
def XZ(l:List Int)(e:Int)(L:LH)(v:Value)(L':LH):Prop:=∃ad cap,v=.tuple #[.slice ad l.length cap,.int .i64 e]∧Le L L'∧aN L' ad l∧l.length≤cap
abbrev O4:BP:=⟨none,none,none,none,none,0,0,0,0,0⟩
theorem Hr{α:Type}{L:LH}{ad:Option Addr}{n:Nat}{enc:α→List Value}:aX L ad n enc []:=fun i z hz=>by simp at hz
def BlQ(b:Bl)(e:Int)(L:LH)(v:Value)(L':LH):Prop:=∃p,v=.tuple #[Bj b p,.int .i64 e]∧Le L L'∧ny L' b p
end Go.Mz
namespace Go.Mz
open Go
structure Fi where
 b:Bl
 ro:Ro
 s:Sw
abbrev Ln:=Nat×List Int
def wZ(a:List Int):nX:=⟨a.getD 0 0,a.getD 1 0,a.getD 2 0⟩
def AG(a:List Int):Sg:=⟨a.getD 0 0,a.getD 1 0,a.getD 2 0,a.getD 3 0⟩
def Bb(a:List Int):Want:=⟨a.getD 0 0,a.getD 1 0,a.getD 2 0,a.getD 3 0⟩
theorem acP:∀{a:List Int},a.length=3→a=[(wZ a).gV,(wZ a).tick,(wZ a).r7]
 | [_,_,_],_=>rfl
theorem sg4:∀{a:List Int},a.length=4→a=[(AG a).aJ,(AG a).cZ,(AG a).year,(AG a).found]
 | [_,_,_,_],_=>rfl
theorem wt4:∀{a:List Int},a.length=4→a=[(Bb a).sort,(Bb a).kind,(Bb a).lq,(Bb a).pay]
 | [_,_,_,_],_=>rfl
def pS(f:Fi)(x:nX):Fi×Int:=if(px f.b x).2=0 then({f with b:=(px f.b x).1},0) else(f,(px f.b x).2)
def ky(f:Fi)(x:Sg):Fi×Int:=if(iD f.ro x).2=0 then({f with ro:=(iD f.ro x).1},0) else(f,(iD f.ro x).2)
def um(f:Fi)(x:Want):Fi×Int:=if(qz f.s x).2=0 then({f with s:=(qz f.s x).1},0) else(f,(qz f.s x).2)
def mh(f:Fi)(x:Ln):Fi×Int:=if x.1=0 then pS f (wZ x.2) else if x.1=1 then ky f (AG x.2) else um f (Bb x.2)
def mg(out i:Nat)(x:Ln)(s:Fi×Nat):Fi×Nat:=
 if x.1<3∧out.testBit i=false then((mh s.1 x).1,if(mh s.1 x).2=0 then s.2||| 2 ^ i else s.2) else s
def wq(out:Nat):Nat→List Ln→Fi×Nat→Fi×Nat
 | _,[],s=>s
 | i,x::l,s=>wq out (i+1) l (mg out i x s)
theorem nF(out:Nat)(x:Ln):∀(i:Nat) (l:List Ln) (s:Fi×Nat),wq out i (l++[x]) s=mg out (i+l.length) x (wq out i l s)
 | _,[],_=>rfl
 | i,y::l,s=>by
  show wq out (i+1) (l++[x]) _=_;rw[nF out x (i+1) l];show _=mg out (i+(l.length+1)) x _;rw[show i+1+l.length=i+(l.length+1) by omega]
  rfl
theorem R7{x i:Nat}(hx:x<256)(hi:i<8):x||| 2 ^ i<256:=Nat.or_lt_two_pow (n:=8) hx (Nat.pow_lt_pow_right (by decide) hi)
theorem Pu{out i:Nat}{x:Ln}{s:Fi×Nat}(hi:i<8)(h:s.2<256):(mg out i x s).2<256:=by
 unfold mg
 split
 ·simp only
  split
  ·exact R7 h hi
  ·exact h
 ·exact h
theorem B4{out:Nat}{f0:Fi}{xs:List Ln}:∀{i:Nat},i≤8→(wq out 0 (xs.take i) (f0,0)).2<256
 | 0,_=>(by decide:0<256)
 | i+1,h=>by
  have ih:=B4 (out:=out) (f0:=f0) (xs:=xs) (i:=i) (by omega)
  by_cases e:i<xs.length
  ·rw[List.take_succ_eq_append_getElem e,nF];refine Pu ?_ ih;rw[List.length_take];omega
  ·rw[List.take_of_length_le (by omega)] at ih ⊢;exact ih
def cy(f0:Fi)(xs:List Ln)(out n:Nat):Fi×Nat:=wq out 0 (xs.take n) (f0,0)
def qE(f:Fi)(x:Ln):Bs×Int:=
 if x.1<3 then(okB,(mh f x).2) else if x.1=3 then(okB,0)
 else if x.1=4 then(lQ ((gz f.b (x.2.getD 0 0)).1.map fun(n:Nat)=>(n:Int)),(gz f.b (x.2.getD 0 0)).2)
 else if x.1=5 then(gD (dI f.ro (x.2.getD 0 0)).1.lo++45::gD (dI f.ro (x.2.getD 0 0)).1.hi,(dI f.ro (x.2.getD 0 0)).2)
 else(lQ ((eT f.s).1.map fun(n:Nat)=>(n:Int))++[58,32]++gD (eT f.s).2.1,(eT f.s).2.2)
def oy(x:Ln)(m out:Nat):Nat×Int:=if 3≤x.1 then(out,8) else if out.testBit m then(out,4) else(out||| 2 ^ m,0)
def pV(xs:List Ln)(n out:Nat)(m:Int):Nat×Int:=if(n:Int)≤m then(out,3) else oy (xs.getD m.toNat (6,[])) m.toNat out
def E7(a:Bs)(e:Int):Bs:=if e=0 then a else rP e
def me(f0:Fi)(xs:List Ln)(n out:Nat):Bs×Nat:=
 let x:=xs.getD n (6,[])
 let a:=qE (cy f0 xs out n).1 x
 let v:=if x.1=3 then pV xs n out (x.2.getD 0 0) else(out,a.2)
 (E7 a.1 v.2,v.1)
def dR(f0:Fi)(xs:List Ln):Nat→Nat
 | 0=>0
 | n+1=>(me f0 xs n (dR f0 xs n)).2
def gZ(f0:Fi)(xs:List Ln)(n:Nat):List Bs:=(List.range n).map fun i=>(me f0 xs i (dR f0 xs i)).1
theorem rG(f0:Fi)(xs:List Ln)(n:Nat):gZ f0 xs (n+1)=gZ f0 xs n++[(me f0 xs n (dR f0 xs n)).1]:=by
 unfold gZ;rw[List.range_succ,List.map_append];rfl
theorem ni(f0:Fi)(xs:List Ln)(n:Nat):(gZ f0 xs n).length=n:=by
 unfold gZ;rw[List.length_map,List.length_range]
theorem Oc{xs:List Ln}{n out:Nat}{m:Int}(hn:n≤8)(ho:out<256):(pV xs n out m).1<256:=by
 unfold pV
 split
 ·exact ho
 ·rename_i h;unfold oy
  split
  ·exact ho
  ·split
   ·exact ho
   ·exact R7 ho (by omega)
theorem B2{f0:Fi}{xs:List Ln}:∀{n:Nat},n≤8→dR f0 xs n<256
 | 0,_=>(by decide:0<256)
 | n+1,h=>by
  have ih:=B2 (f0:=f0) (xs:=xs) (n:=n) (by omega);show(me f0 xs n (dR f0 xs n)).2<256;unfold me;dsimp only
  split
  ·exact Oc (by omega) ih
  ·exact ih
end Go.Mz
set_option maxRecDepth 100000
namespace Go.Mz
open Go.Conc Go.Proofs
def Dm(L L':LH):Prop:=∀b o wr,L b=some (o,wr)→∃ep,L' b=some (o,ep)
theorem Dm.of_le{L L':LH}(h:Le L L'):Dm L L':=fun b o wr hb=>⟨wr,h _ _ hb⟩
theorem Dm.trans{L L' L2:LH}(h:Dm L L')(h2:Dm L' L2):Dm L L2:=fun b o wr hb=>let⟨w1,h1⟩:=h b o wr hb;h2 b o w1 h1
theorem Dm.cell{L L':LH}(h:Dm L L'){a:Addr}{v:Value}(hc:L.cell? a=some v):L'.cell? a=some v:=by
 unfold LH.cell? at hc ⊢;cases hb:L a.block with
 | none=>rw[hb] at hc;cases hc
 | some x=>
  obtain⟨o,wr⟩:=x;obtain⟨ep,h'⟩:=h _ _ _ hb;rw[hb] at hc;rw[h'];cases o <;> first | exact hc | cases hc
theorem Dm.sl{α:Type}{L L':LH}(h:Dm L L'){ad:Option Addr}{k:Nat}{enc:α→List Value}{l:List α}(hs:aX L ad k enc l):aX L' ad k enc l:=fun i x hx=>let⟨a,h1,h2⟩:=hs i x hx;⟨a,h1,fun j v hv=>h.cell (h2 j v hv)⟩
theorem Dm.ro{L L':LH}(h:Dm L L'){r:Ro}{p:BP}(hr:fD L r p):fD L' r p:=⟨h.sl hr.h0,h.sl hr.h1,h.sl hr.h2,h.sl hr.h3,h.sl hr.h4,hr.n0,hr.n1,hr.n2,hr.n3,hr.n4,hr.k4⟩
theorem Dm.bl{L L':LH}(h:Dm L L'){r:Bl}{p:BP}(hr:ny L r p):ny L' r p:=⟨h.sl hr.h0,h.sl hr.h1,h.sl hr.h2,h.sl hr.h3,h.sl hr.h4,hr.n0,hr.n1,hr.n2,hr.n3,hr.n4,hr.k4⟩
theorem Dm.rows{α:Type}{L L':LH}(h:Dm L L'){ad:Option Addr}{k:Nat}{enc:α→List Value}{l:List (List α)}(hs:ll L ad k enc l):ll L' ad k enc l:=by
 obtain⟨rs,h1,h2,h3⟩:=hs;exact⟨rs,h1,h.sl h2,fun x hx=>⟨h.sl (h3 x hx).sl,(h3 x hx).len,(h3 x hx).cap⟩⟩
theorem Dm.sw{L L':LH}(h:Dm L L'){s:Sw}{p:Wp}(hr:mP L s p):mP L' s p:=⟨h.rows hr.lo,h.sl hr.st,h.sl hr.wt,hr.cap⟩
variable {X:ax Tryz.prog}
theorem KN(x i:Nat)(L:LH)(hx:x<256)(hi:i<8):Sp X 119 [.int .u8 x,.int .i64 i] L (fun v L'=>v=.bool (x.testBit i)∧L=L'):=by
 refine Sp.enter (n:=10) Tryz.func119 rfl rfl rfl rfl fun C hX _ aG r=>?_;refine W.go 99 rfl ?_;exact W.ret r rfl rfl ⟨congrArg Value.bool (UI ⟨x,hx⟩ ⟨i,hi⟩),rfl⟩
theorem HK(x i:Nat)(L:LH)(hx:x<256)(hi:i<8):Sp X 135 [.int .u8 x,.int .i64 i] L (fun v L'=>v=.int .u8 ((x||| 2 ^ i:Nat):Int)∧L=L'):=by
 refine Sp.enter (n:=9) Tryz.func135 rfl rfl rfl rfl fun C hX _ aG r=>?_;refine W.go 99 rfl ?_;exact W.ret r rfl rfl ⟨congrArg (Value.int .u8) (Tp ⟨x,hx⟩ ⟨i,hi⟩),rfl⟩
structure Fp where
 b:BP
 r:BP
 s:Wp
abbrev fiL(f:Fi)(p:Fp):List Value:=Fz f.b p.b++fT f.ro p.r++qM f.s p.s
structure iE(I L:LH)(bf:Nat)(f:Fi)(p:Fp):Prop where
 le:Le I L
 n:I bf=none
 o:L bf=some (.cells (fiL f p).toArray 123 (0,0),true)
 b:ny I f.b p.b
 r:fD I f.ro p.r
 s:mP I f.s p.s
def mS(bf:Nat):Value:=.agg #[pt bf,.func (.func 175) #[pt bf] #[],.func (.func 176) #[pt bf] #[],.func (.func 177) #[pt bf] #[]]
theorem Jk(k:kC)(p:Kp)(L:LH)(hk:nv L k p):Sp X 133 [Mr k p] L (fun v L'=>∃bf,v=mS bf∧iE L L' bf ⟨k.b,k.ro,k.s⟩ ⟨p.b,p.r,p.s⟩):=by
 refine Sp.enter (n:=20) Tryz.func133 rfl rfl rfl rfl fun C hX _ aG r=>?_;refine W.go 17 rfl ?_;refine W.cw 3 (.inl ⟨_,rfl⟩) rfl rfl ?_;intro bf jv _;refine W.go 99 rfl ?_;refine W.ret r rfl rfl ?_;exact⟨bf,rfl,Le.put jv _,jv,aj _ _ _,hk.b,hk.r,hk.s⟩
theorem Post.all{I L J L':LH}(hIL:Le I L)(fw:Le I J)(h:Post I L J L'):Le L L':=fun b x hx=>by
 cases e:I b with
 | none=>exact h.keep b x e hx
 | some y=>
  have:=hIL _ _ e;rw[hx] at this;cases this;exact h.le _ _ (fw _ _ e)
theorem iE.step{I J L L':LH}{bf:Nat}{f:Fi}{p:Fp}(h:iE I L bf f p)(fw:Le I J)(hp:Post I L J L'):iE J L' bf f p:=by
 refine⟨hp.le,?_,hp.keep _ _ h.n h.o,h.b.le fw,h.r.le fw,h.s.le fw⟩;cases e:J bf with
 | none=>rfl
 | some y=>
  rcases hp.fresh bf (by rw[e];simp) with h1 | h1
  ·exact absurd h.n h1
  ·rw[h.o] at h1;cases h1
theorem fM{L:LH}{b off n:Nat}{c:List Value}{vs:List Value}{e:TypeId}{fz:Nat×Nat}{wr:Bool}(h:L b=some (.cells c.toArray e fz,wr))(hn:vs.length=n)(hc:(c.drop off).take n=vs):cH L ⟨b,off,none⟩ n vs:=by
 refine⟨hn,fun j v hv=>?_⟩;rw[cK];refine ay h ?_;subst hc;rw[List.getElem?_take] at hv
 split at hv
 ·rw[List.getElem?_drop] at hv
  simpa using hv
 ·cases hv
def gF(I L:LH):LH:=fun b=>match I b with
 | none=>L b
 | some _=>none
theorem oZ(I L:LH):Le (gF I L) L:=fun b x hx=>by
 unfold gF at hx;cases e:I b with
 | none=>rw[e] at hx;exact hx
 | some y=>rw[e] at hx;cases hx
theorem lN{I L:LH}{b:Nat}(h:I b=none):gF I L b=L b:=by unfold gF;rw[h]
theorem kX{I L:LH}{b:Nat}{x:Obj×Bool}(h:gF I L b=some x):I b=none∧L b=some x:=by
 unfold gF at h;cases e:I b with
 | none=>rw[e] at h;exact⟨rfl,h⟩
 | some y=>rw[e] at h;cases h
theorem Ai{I L J L':LH}(hp:Post I L J L'):Le (gF I L) L':=fun b x hx=>hp.keep _ _ (kX hx).1 (kX hx).2
theorem ug{I L L':LH}(h:Le L L'):Le (gF I L) (gF I L'):=fun b x hx=>by
 obtain⟨h1,h2⟩:=kX hx;rw[lN h1];exact h _ _ h2
structure eU(I L J L':LH)(bf:Nat):Prop where
 keep:∀b x,I b=none→b≠bf→L b=some x→L' b=some x
 fresh:∀b,J b≠none→I b≠none∨L b=none
theorem eU.ko{I L J L':LH}(bf:Nat)(h:Post I L J L'):eU I L J L' bf:=⟨fun b x h1 _ h3=>h.keep b x h1 h3,h.fresh⟩
theorem eU.put{I L J L':LH}{bf:Nat}(h:eU I L J L' bf)(o:Obj):eU I L J (L'.put bf o) bf:=⟨fun b x h1 h2 h3=>by rw[au _ _ h2];exact h.keep b x h1 h2 h3,h.fresh⟩
theorem eU.out{I L J L':LH}{bf:Nat}(h:eU I L J L' bf)(hb:L bf=none):Le (gF I L) (gF J L'):=fun b x hx=>by
 obtain⟨h1,h2⟩:=kX hx;have hJ:J b=none:=Classical.byContradiction fun e=>(h.fresh b e).elim (fun g=>g h1) fun g=>by rw[h2] at g;cases g
 rw[lN hJ];exact h.keep b x h1 (fun e=>by subst e;rw[h2] at hb;cases hb) h2
theorem iE.dm{I J L L':LH}{bf:Nat}{f:Fi}{p:Fp}(h:iE I L bf f p)(hd:Dm I J)(hp:Post I L J L'):iE J L' bf f p:=by
 refine⟨hp.le,?_,hp.keep _ _ h.n h.o,hd.bl h.b,hd.ro h.r,hd.sw h.s⟩;cases e:J bf with
 | none=>rfl
 | some y=>
  rcases hp.fresh bf (by rw[e];simp) with h1 | h1
  ·exact absurd h.n h1
  ·rw[h.o] at h1;cases h1
theorem iE.up{I L L':LH}{bf:Nat}{f:Fi}{p:Fp}(h:iE I L bf f p)(hl:Le L L'):iE I L' bf f p:=⟨h.le.trans hl,h.n,hl _ _ h.o,h.b,h.r,h.s⟩
theorem eU.up{I L J L' L2:LH}{bf:Nat}(h:eU I L J L' bf)(hl:Le L' L2):eU I L J L2 bf:=⟨fun b x h1 h2 h3=>hl _ _ (h.keep b x h1 h2 h3),h.fresh⟩
theorem eU.refl{I L:LH}(bf:Nat):eU I L I L bf:=⟨fun _ _ _ _ h=>h,fun _ h=>.inl h⟩
theorem eU.trans{I L J L' J2 L2:LH}{bf:Nat}(h:eU I L J L' bf)(h2:eU J L' J2 L2 bf)(hb:L' bf≠none):eU I L J2 L2 bf:=by
 have hj:∀b x,I b=none→L b=some x→J b=none:=fun b x h1 h3=>Classical.byContradiction fun e=>(h.fresh b e).elim (fun g=>g h1) fun g=>by rw[h3] at g;cases g
 refine⟨fun b x h1 hn h3=>h2.keep b x (hj b x h1 h3) hn (h.keep b x h1 hn h3),fun b eR=>?_⟩;rcases h2.fresh b eR with g | g
 ·exact h.fresh b g
 ·by_cases e:I b=none
  ·refine .inr ?_;cases hL:L b with
   | none=>rfl
   | some x=>
    by_cases hn:b=bf
    ·subst hn;exact absurd g hb
    ·rw[h.keep b x e hn hL] at g;cases g
  ·exact .inl e
def yX(I L:LH)(bf:Nat)(f:Fi)(a:Bs)(w:Value)(v:Value)(L':LH):Prop:=v=.tuple #[str a,w]∧∃J p,Dm I J∧iE J L' bf f p∧eU I L J L' bf
def Du(I L:LH)(bf:Nat)(f:Fi)(e:Int)(v:Value)(L':LH):Prop:=v=.int .i64 e∧∃J p,Dm I J∧iE J L' bf f p∧eU I L J L' bf
structure H0(X:ax Tryz.prog):Prop where
 add:∀(b:Bl) (p:BP) (x:nX) (L:LH),ny L b p→Sp X 223 [Bj b p,.agg (wz x).toArray] L (BlQ (px b x).1 (px b x).2 L)
 V9:∀(b:Bl) (p:BP) (gV:Int) (L:LH),ny L b p→Sp X 12 [Bj b p,.int .i64 gV] L (XZ (bK (gz b gV).1) (gz b gV).2 L)
theorem Sf(hT:H0 X)(I L:LH)(bf:Nat)(f:Fi)(p:Fp)(x:nX)(ad:Option Addr)(cap:Nat)(h:iE I L bf f p)(ha:aN L ad [x.gV,x.tick,x.r7]):Sp X 175 [pt bf,.slice ad 3 cap] L (Du I L bf (pS f x).1 (pS f x).2):=by
 obtain⟨a,rfl⟩:=ha.addr (i:=0) (by simp);have hA:=(hT.add f.b p.b x I h.b).frame h.le;have oO:=ha;refine Sp.enter (n:=32) Tryz.func175 rfl rfl rfl rfl fun C hX _ aG r=>?_;refine W.go 99 rfl ?_;refine W.drawn (by kernel_rfl) _ (Le.refl _) ?_;refine DD.run' [0,1,2,4,7,10] rfl ?_;refine DD.vf 5 rfl rfl rfl rfl rfl (Vf.aW rfl rfl rfl rfl rfl rfl rfl ((show 0<3 by decide))) ?_;refine DD.vf 8 rfl rfl rfl rfl rfl (Vf.aW rfl rfl rfl rfl rfl rfl rfl ((show 1<3 by decide))) ?_;refine DD.vf 11 rfl rfl rfl rfl rfl (Vf.aW rfl rfl rfl rfl rfl rfl rfl ((show 2<3 by decide))) ?_;refine DD.vf 3 rfl rfl rfl rfl rfl (Vf.cO rfl rfl rfl (fM (vs:=Fz f.b p.b) h.o rfl rfl)) ?_;refine DD.vf 6 rfl rfl rfl rfl rfl (Vf.load rfl rfl rfl (oO.int (i:=0) rfl)) ?_;refine DD.vf 9 rfl rfl rfl rfl rfl (Vf.load rfl rfl rfl (oO.int (i:=1) rfl)) ?_;refine DD.vf 12 rfl rfl rfl rfl rfl (Vf.load rfl rfl rfl (oO.int (i:=2) rfl)) ?_;refine DD.run' [13,18] rfl ?_;rw[←hX] at hA;refine DD.act 14 rfl rfl rfl rfl rfl (Ef.call rfl (hA)) ((by rintro _ _ _ ⟨_,rfl,rfl,J,⟨_,_,fw,_⟩,hP⟩;exact⟨hP.all h.le fw,rfl,.inl rfl⟩)) ?_;rintro _ _ _ ⟨_,rfl,rfl,J,⟨p',rfl,fw,bG⟩,hP⟩;refine DD.run' [15,16,17] rfl ?_;rename_i L1;have Br:=hP.all h.le fw;refine DD.act 19 rfl rfl rfl rfl rfl (Ef.ui rfl) ((by rintro _ _ _ ⟨rfl,rfl,rfl⟩;exact⟨Br,rfl,.inl rfl⟩)) ?_;rintro _ _ _ ⟨rfl,rfl,rfl⟩;refine DD.run' [20] rfl ?_;refine .fin rfl ?_;refine W.go 99 rfl ?_;have h1:=h.step fw hP
 by_cases c:(px f.b x).2=0
 ·have hr:pS f x=({f with b:=(px f.b x).1},0):=if_pos c;rw[hr] at r;rw[c];refine W.split rfl rfl rfl (fun c=>?_) (fun c=>absurd c (by decide));refine W.go 99 rfl ?_;refine W.dY rfl rfl (Ef.vN rfl ⟨_,rfl,rfl⟩ rfl (cK _ _ _) h1.o rfl (show 5≤14 by decide) (bY rfl)) ?_;rintro _ _ _ ⟨rfl,rfl,rfl⟩;refine W.go 99 rfl ?_;refine W.ret r rfl rfl ?_;exact⟨rfl,J,{p with b:=p'},.of_le fw,⟨aC h1.le h1.n _,h1.n,aj _ _ _,bG,h1.r,h1.s⟩,(eU.ko bf hP).put _⟩
 ·have hr:pS f x=(f,(px f.b x).2):=if_neg c;rw[hr] at r;refine W.split rfl rfl rfl (fun h=>absurd h (by simpa using c)) (fun _=>?_);refine W.go 99 rfl ?_;refine W.ret r rfl rfl ?_;exact⟨rfl,J,p,.of_le fw,h1,.ko bf hP⟩
end Go.Mz
namespace Go.Mz
open Go
end Go.Mz
set_option maxRecDepth 100000
namespace Go.Mz
open Go.Conc Go.Proofs
variable {X:ax Tryz.prog}
theorem CZ{α:Type}[DecidableEq α]{a b:List α}{i:Nat}(h:a.take i=b.take i)(hi:i=a.length∨i=b.length)(h1:i≤a.length)(h2:i≤b.length):((a.length:Int)==(b.length:Int))=decide (a=b):=by
 rw[Bool.eq_iff_iff,beq_iff_eq,decide_eq_true_eq]
 constructor
 ·intro e;rw[List.take_of_length_le (by omega),List.take_of_length_le (by omega)] at h;exact h
 ·rintro rfl;rfl
theorem JZ{α:Type}{a b:List α}{i:Nat}(h:a.take i=b.take i)(h1:i<a.length)(h2:i<b.length)(he:a[i]=b[i]):a.take (i+1)=b.take (i+1):=by
 rw[List.take_succ_eq_append_getElem h1,List.take_succ_eq_append_getElem h2,h,he]
theorem HS(pa pb:Option Addr)(ca cb:Nat)(a b:List Int)(L:LH)(ha:aN L pa a)(hb:aN L pb b)(na:a.length≤1000000)(nb:b.length≤1000000):
  Sp X 62 [.slice pa a.length ca,.slice pb b.length cb] L (fun v L'=>v=.bool (decide (a=b))∧L=L'):=by
 refine Sp.enter (n:=32) Tryz.func62 rfl rfl rfl rfl fun C hX _ aG r=>?_;refine W.go 99 rfl ?_;refine W.loop (fun m E B L'=>∃(i:Nat),m=a.length - i∧i≤a.length∧i≤b.length∧a.take i=b.take i∧L=L'∧
   E=[(0,.v (.slice pa a.length ca)),(1,.v (.slice pb b.length cb)),(5,.v (.int .i64 i))]∧B=[])
  ⟨0,rfl,by omega,by omega,rfl,rfl,rfl,rfl⟩ (by exact⟨rfl,rfl,rfl,trivial⟩) trivial ?_
 rintro _ _ _ _ ⟨i,rfl,h1,h2,ht,rfl,rfl,rfl⟩ again;refine W.go 99 rfl ?_;refine W.split rfl rfl rfl (fun e1=>W.go 99 rfl ?_) (fun e1=>W.go 99 rfl ?_)
 ·have Nf:i<a.length:=by simpa using e1
  refine W.split rfl rfl rfl (fun e2=>W.go 99 rfl ?_) (fun e2=>W.go 99 rfl ?_)
  ·have yr:i<b.length:=by simpa using e2
   obtain⟨aa,rfl⟩:=ha.addr Nf;obtain⟨ab,rfl⟩:=hb.addr yr;refine W.drawn (by kernel_rfl) _ (Le.refl _) ?_;refine DD.run' [0,1,4,5] rfl ?_;refine DD.vf 2 rfl rfl rfl rfl rfl (Vf.aW rfl rfl rfl rfl rfl rfl rfl (Nf)) ?_;refine DD.vf 3 rfl rfl rfl rfl rfl (Vf.load rfl rfl rfl (ha.int (List.getElem?_eq_getElem Nf))) ?_;refine DD.vf 6 rfl rfl rfl rfl rfl (Vf.aW rfl rfl rfl rfl rfl rfl rfl (yr)) ?_;refine DD.vf 7 rfl rfl rfl rfl rfl (Vf.load rfl rfl rfl (hb.int (List.getElem?_eq_getElem yr))) ?_;refine DD.run' [8] rfl ?_;refine .fin rfl ?_;refine W.go 99 rfl ?_;refine W.split rfl rfl rfl (fun e3=>W.go 99 rfl ?_) (fun e3=>W.go 99 rfl ?_)
   ·refine W.ret r rfl rfl ?_;have aY:a≠b:=fun e=>by subst e;simp at e3
    rw[decide_eq_false aY];exact⟨rfl,rfl⟩
   ·exact W.again (again _ _ _ _ (by omega) ⟨i+1,rfl,by omega,by omega,JZ ht Nf yr (by simpa using e3),rfl,rfl,rfl⟩) ⟨rfl,rfl,congrArg some (bu (by omega)),trivial⟩ trivial
  ·refine W.ret r rfl rfl ?_;have yr:i=b.length:=by simp at e2;omega
   rw[←CZ ht (.inr yr) h1 h2];exact⟨rfl,rfl⟩
 ·refine W.ret r rfl rfl ?_;have Nf:i=a.length:=by simp at e1;omega
  rw[←CZ ht (.inl Nf) h1 h2];exact⟨rfl,rfl⟩
structure vZ(L:LH)(b:Nat)(ad:Option Addr)(cap:Nat)(l:List Int)(n:Nat):Prop where
 blk:∃nO:Int,L b=some (.cells [Value.slice ad l.length cap,.int .i64 n,.int .u64 nO].toArray 96 (0,0),true)
 ints:aN (L.cD b) ad l
theorem LN(y:Int):0≤IntKind.u64.wrap y:=by
 unfold IntKind.wrap;exact Int.emod_nonneg _ (by decide)
theorem u64_in(y:Int)(h1:0≤y)(h2:y<18446744073709551616):IntKind.u64.wrap y=y:=by
 unfold IntKind.wrap;exact Int.emod_eq_of_lt h1 h2
theorem acK{n:Nat}(h:n≤1000000):IntKind.i64.wrap ((n:Int)+1)=((n+1:Nat):Int):=by rw[wrap64_in _ (by omega) (by omega)];rfl
theorem SS(b:Nat)(ad:Option Addr)(cap:Nat)(l:List Int)(n:Nat)(L:LH)(h:vZ L b ad cap l n)(hn:n≤1000000)(hl:l.length≤140737488355328):
  Sp X 51 [pt b] L (fun v L'=>(∃x:Int,v=.int .u64 x∧0≤x)∧(∀b',b'≠b→L' b'=L b')∧∃nO:Int,L' b=some (.cells [Value.slice ad l.length cap,.int .i64 ((n+1:Nat):Int),.int .u64 nO].toArray 96 (0,0),true)):=by
 obtain⟨⟨nO,hb⟩,hi⟩:=h;have hi:=hi.le (jo _ _);refine Sp.enter (n:=75) Tryz.func51 rfl rfl rfl rfl fun C hX _ aG r=>?_;refine W.go 99 rfl ?_;refine W.vf rfl rfl rfl rfl (Vf.load rfl rfl rfl (ay hb rfl)) ?_;refine W.go 99 rfl ?_;refine W.drawn (by kernel_rfl) _ (Le.refl _) ?_;refine DD.run' [0,1,2,4,5,6] rfl ?_;refine DD.vf 3 rfl rfl rfl rfl rfl (Vf.load rfl rfl rfl (ay hb rfl)) ?_;refine DD.vf 7 rfl rfl rfl rfl rfl (Vf.load rfl rfl rfl (ay hb rfl)) ?_;refine DD.run' [8,9] rfl ?_;refine .fin rfl ?_;refine W.abf (fun E B L'=>L=L'∧∃y:Int,gk E [(0,.v (pt b)),(3,.v (.int .u64 y))]) ?_ ?_
 ·rintro E B _ ⟨rfl,y,hE⟩;refine W.cG (B':=[]) hE (by cases B <;> exact trivial) ?_;refine W.go 99 rfl ?_;refine W.vf rfl rfl rfl rfl (Vf.load rfl rfl rfl (ay hb rfl)) ?_;refine W.go 99 rfl ?_;rw[acK hn];refine W.dY rfl rfl (Ef.LF rfl ⟨_,rfl,rfl⟩ rfl hb rfl rfl rfl rfl rfl) ?_;rintro _ _ _ ⟨rfl,rfl,rfl⟩;refine W.go 99 rfl ?_;refine W.vf rfl rfl rfl rfl (Vf.load rfl rfl rfl (ay (aj _ _ _) rfl)) ?_;refine W.go 99 rfl ?_;refine W.dY rfl rfl (Ef.LF rfl ⟨_,rfl,rfl⟩ rfl (aj _ _ _) rfl rfl rfl rfl rfl) ?_;rintro _ _ _ ⟨rfl,rfl,rfl⟩;refine W.go 99 rfl ?_;generalize YO:LH.put (LH.put L b _) b _=L1;have lK:∀b',b'≠b→L1 b'=L b':=fun b' bG=>by rw[←YO,au _ _ bG,au _ _ bG]
  obtain⟨sd1,dN⟩:∃sd1:Int,L1 b=some (.cells [Value.slice ad l.length cap,.int .i64 ((n+1:Nat):Int),.int .u64 sd1].toArray 96 (0,0),true):=⟨_,by rw[←YO];exact aj _ _ _⟩;clear YO;refine W.drawn (by kernel_rfl) oY (aE _) ?_;refine DD.run' [0,1,2,3,5,6,7] rfl ?_;refine DD.OQ 4 8 rfl rfl rfl rfl rfl rfl rfl rfl (Ef.val rfl (Vf.load rfl rfl rfl (by exact ay dN rfl))) (Ef.val rfl (Vf.load rfl rfl rfl (by exact ay dN rfl))) (by rintro _ _ _ ⟨rfl,rfl,rfl⟩;exact⟨aE _,rfl,.inl rfl⟩) (by rintro _ _ _ ⟨rfl,rfl,rfl⟩;exact⟨aE _,rfl,.inl rfl⟩) ?_ ?_
  ·rintro _ _ _ ⟨rfl,rfl,hq⟩;obtain rfl:=hq.symm;refine DD.act 8 rfl rfl rfl rfl rfl (Ef.val rfl (Vf.load rfl rfl rfl (ay dN rfl))) (by rintro _ _ _ ⟨rfl,rfl,rfl⟩;exact⟨aE _,rfl,.inl rfl⟩) ?_;rintro _ _ _ ⟨rfl,rfl,rfl⟩;refine DD.run' [9,10,11,12] rfl ?_;refine DD.act 13 rfl rfl rfl rfl rfl (Ef.LF rfl ⟨_,rfl,rfl⟩ rfl dN rfl rfl rfl rfl rfl) ((by rintro _ _ _ ⟨rfl,rfl,rfl⟩;exact⟨aE _,rfl,.inl rfl⟩)) ?_;rintro _ _ _ ⟨rfl,rfl,rfl⟩;refine .fin rfl ?_;refine W.go 99 rfl ?_;refine W.vf rfl rfl rfl rfl (Vf.load rfl rfl rfl (ay (aj _ _ _) rfl)) ?_;refine W.go 99 rfl ?_;refine W.ret r rfl rfl ?_;exact⟨⟨_,rfl,Int.fdiv_nonneg (LN _) (by decide)⟩,fun b' bG=>by rw[au _ _ bG];exact lK b' bG,_,aj _ _ _⟩
  ·rintro _ _ _ ⟨rfl,rfl,hq⟩;obtain rfl:=hq.symm;refine DD.run' [9] rfl ?_;refine DD.act 4 rfl rfl rfl rfl rfl (Ef.val rfl (Vf.load rfl rfl rfl (ay dN rfl))) (by rintro _ _ _ ⟨rfl,rfl,rfl⟩;exact⟨aE _,rfl,.inl rfl⟩) ?_;rintro _ _ _ ⟨rfl,rfl,rfl⟩;refine DD.run' [10,11,12] rfl ?_;refine DD.act 13 rfl rfl rfl rfl rfl (Ef.LF rfl ⟨_,rfl,rfl⟩ rfl dN rfl rfl rfl rfl rfl) ((by rintro _ _ _ ⟨rfl,rfl,rfl⟩;exact⟨aE _,rfl,.inl rfl⟩)) ?_;rintro _ _ _ ⟨rfl,rfl,rfl⟩;refine .fin rfl ?_;refine W.go 99 rfl ?_;refine W.vf rfl rfl rfl rfl (Vf.load rfl rfl rfl (ay (aj _ _ _) rfl)) ?_;refine W.go 99 rfl ?_;refine W.ret r rfl rfl ?_;exact⟨⟨_,rfl,Int.fdiv_nonneg (LN _) (by decide)⟩,fun b' bG=>by rw[au _ _ bG];exact lK b' bG,_,aj _ _ _⟩
 ·intro rest;refine W.split rfl rfl rfl (fun e1=>?_) (fun e1=>?_)
  ·have oo:n<l.length:=by simpa using e1
   obtain⟨la,rfl⟩:=hi.addr oo;refine W.go 99 rfl ?_;refine W.drawn (by kernel_rfl) _ (Le.refl _) ?_;refine DD.run' [0,1,2,3,5,6,7] rfl ?_;refine DD.vf 4 rfl rfl rfl rfl rfl (Vf.load rfl rfl rfl (ay hb rfl)) ?_;refine DD.vf 8 rfl rfl rfl rfl rfl (Vf.load rfl rfl rfl (ay hb rfl)) ?_;refine DD.vf 9 rfl rfl rfl rfl rfl (Vf.aW rfl rfl rfl rfl rfl rfl rfl (oo)) ?_;refine DD.vf 10 rfl rfl rfl rfl rfl (Vf.load rfl rfl rfl (hi.int (List.getElem?_eq_getElem oo))) ?_;refine DD.run' [11,12,13,14] rfl ?_;refine .fin rfl ?_;exact rest _ _ _ ⟨rfl,_,rfl,rfl,trivial⟩
  ·refine W.go 2 rfl ?_;exact rest _ _ _ ⟨rfl,_,rfl,rfl,trivial⟩
theorem H7(b:Nat)(ad:Option Addr)(cap:Nat)(l:List Int)(n m:Nat)(L:LH)(h:vZ L b ad cap l n)(hn:n≤1000000)(hl:l.length≤140737488355328)(hm:m≤1000000):
  Sp X 9 [pt b,.int .i64 m] L (fun v L'=>(∃y:Nat,v=.int .i64 y∧y≤m)∧(∀b',b'≠b→L' b'=L b')∧∃nO:Int,L' b=some (.cells [Value.slice ad l.length cap,.int .i64 ((n+1:Nat):Int),.int .u64 nO].toArray 96 (0,0),true)):=by
 refine Sp.enter (n:=16) Tryz.func9 rfl rfl rfl rfl fun C hX _ aG r=>?_;refine W.go 99 rfl ?_;refine W.aB rfl rfl rfl (Ef.call rfl (SS b ad cap l n L h hn hl)) ?_;rintro _ _ _ ⟨_,rfl,rfl,⟨x,rfl,hx⟩,hk,hs⟩;refine W.go 99 rfl ?_;refine W.split rfl rfl rfl (fun e1=>W.go 99 rfl ?_) (fun e1=>W.go 99 rfl ?_)
 ·refine W.ret r rfl rfl ?_;exact⟨⟨0,rfl,by omega⟩,hk,hs⟩
 ·have vj:1≤m:=by simp at e1;omega
  rw[u64_in (m:Int) (by omega) (by omega),u64_in ((m:Int)+1) (by omega) (by omega)];have IY:0≤x.tmod ((m:Int)+1):=Int.tmod_nonneg _ hx;have vk:x.tmod ((m:Int)+1)<(m:Int)+1:=Int.tmod_lt_of_pos _ (by omega);have aco:nJ .rem .u64 x ((m:Int)+1)=some (.int .u64 (x.tmod ((m:Int)+1))):=by
   have h0:¬((m:Int)+1=0):=by omega
   simp[nJ,h0]
  refine W.vf rfl rfl rfl rfl (Vf.bin (v:=.int .u64 (x.tmod ((m:Int)+1))) rfl rfl aco) ?_;refine W.go 99 rfl ?_;refine W.ret r rfl rfl ?_;refine⟨⟨(x.tmod ((m:Int)+1)).toNat,?_,by omega⟩,hk,hs⟩;rw[show(((x.tmod ((m:Int)+1)).toNat:Nat):Int)=x.tmod ((m:Int)+1) by omega];show Value.int .i64 (IntKind.i64.wrap (x.tmod ((m:Int)+1)))=_;rw[wrap64_in _ (by omega) (by omega)]
theorem OA(b:Nat)(ad:Option Addr)(cap:Nat)(l:List Int)(n:Nat)(lo:Int)(m:Nat)(L:LH)(h:vZ L b ad cap l n)(hn:n≤1000000)(hl:l.length≤140737488355328)(hm:m≤1000000)(h1:-1000000≤lo)(h2:lo≤1000000):
  Sp X 64 [pt b,.int .i64 lo,.int .i64 (lo+m)] L (fun v L'=>(∃y:Int,v=.int .i64 y∧lo≤y∧y≤lo+m)∧(∀b',b'≠b→L' b'=L b')∧∃nO:Int,L' b=some (.cells [Value.slice ad l.length cap,.int .i64 ((n+1:Nat):Int),.int .u64 nO].toArray 96 (0,0),true)):=by
 refine Sp.enter (n:=14) Tryz.func64 rfl rfl rfl rfl fun C hX _ aG r=>?_;refine W.go 99 rfl ?_;rw[wrap64_in _ (by omega) (by omega),show lo+(m:Int) - lo=(m:Int) by omega];refine W.aB rfl rfl rfl (Ef.call rfl (H7 b ad cap l n m L h hn hl hm)) ?_;rintro _ _ _ ⟨_,rfl,rfl,⟨y,rfl,hy⟩,hk,hs⟩;refine W.go 99 rfl ?_;rw[wrap64_in _ (by omega) (by omega)];refine W.ret r rfl rfl ?_;exact⟨⟨_,rfl,by omega,by omega⟩,hk,hs⟩
theorem HW(ad:Option Addr)(cap:Nat)(l:List Int)(L:LH)(h:aN L ad l):Sp X 7 [.slice ad l.length cap] L (fun v L'=>∃b,v=pt b∧L b=none∧Le L L'∧vZ L' b ad cap l 0):=by
 refine Sp.enter (n:=6) Tryz.func7 rfl rfl rfl rfl fun C hX _ aG r=>?_;refine W.dv [2] 99 rfl ?_;refine W.go 99 rfl ?_;refine W.cw 2 (.inl ⟨_,rfl⟩) rfl rfl ?_;intro b hb _;refine W.ret r rfl rfl ?_;exact⟨b,rfl,hb,Le.put hb _,⟨_,aj _ _ _⟩,h.le fun b' x hx=>by rw[dg (fun e=>by subst e;rw[hb] at hx;cases hx)];exact Le.put hb _ _ _ hx⟩
theorem TJ(b:Nat)(ad xa:Option Addr)(cap xc:Nat)(l xs:List Int)(n:Nat)(L:LH)(h:vZ L b ad cap l n)(hx:aN L xa xs)(hn:n≤1000000)(hl:l.length≤140737488355328)(hm:xs.length≤1000000)(h1:1≤xs.length)(hxb:∀a,xa=some a→a.block≠b):
  Sp X 63 [pt b,.slice xa xs.length xc] L (fun v L'=>(∃y:Int,v=.int .i64 y∧y∈xs)∧(∀b',b'≠b→L' b'=L b')∧∃nO:Int,L' b=some (.cells [Value.slice ad l.length cap,.int .i64 ((n+1:Nat):Int),.int .u64 nO].toArray 96 (0,0),true)):=by
 obtain⟨m,hmx⟩:∃m,xs.length=m+1:=⟨xs.length - 1,by omega⟩;obtain⟨xd,rfl⟩:=hx.addr (i:=0) (by omega);have hxb:=hxb xd rfl;refine Sp.enter (n:=13) Tryz.func63 rfl rfl rfl rfl fun C hX _ aG r=>?_;refine W.go 99 rfl ?_;rw[wrap64_in _ (by omega) (by omega),show(xs.length:Int) - 1=(m:Int) by omega];refine W.aB rfl rfl rfl (Ef.call rfl (H7 b ad cap l n m L h hn hl (by omega))) ?_;rintro _ _ _ ⟨_,rfl,rfl,⟨y,rfl,hy⟩,hk,hs⟩;refine W.go 99 rfl ?_;have Z0:y<xs.length:=by omega
 rename_i L2;have hc:L2.cell? (xd.add y)=some (.int .i64 xs[y]):=by
  have:=hx.int (List.getElem?_eq_getElem Z0);have eR:(xd.add y).block=xd.block:=by unfold Addr.add;split <;> rfl
  unfold LH.cell? at this ⊢;rw[hk _ (by rw[eR];exact hxb)];exact this
 refine W.vf rfl rfl rfl rfl (Vf.aW rfl rfl rfl rfl rfl rfl rfl (Z0)) ?_;refine W.vf rfl rfl rfl rfl (Vf.load rfl rfl rfl (hc)) ?_;refine W.go 99 rfl ?_;refine W.ret r rfl rfl ?_;exact⟨⟨_,rfl,List.getElem_mem Z0⟩,hk,hs⟩
structure gp(J L:LH)(b:Nat)(ad:Option Addr)(cap:Nat)(l:List Int)(n:Nat):Prop where
 le:Le J L
 jb:J b=none
 blk:∃nO:Int,L b=some (.cells [Value.slice ad l.length cap,.int .i64 n,.int .u64 nO].toArray 96 (0,0),true)
 ints:aN J ad l
section
variable {J L L':LH}{b:Nat}{ad:Option Addr}{cap:Nat}{l:List Int}{n:Nat}
theorem gp.cD(h:gp J L b ad cap l n):Le J (L.cD b):=fun x o hx=>by
 rw[dg (fun e=>by subst e;rw[h.jb] at hx;cases hx)];exact h.le _ _ hx
theorem gp.cA(h:gp J L b ad cap l n):vZ L b ad cap l n:=⟨h.blk,h.ints.le h.cD⟩
theorem gp.next(h:gp J L b ad cap l n)(hk:∀x,x≠b→L' x=L x)(hs:∃nO:Int,L' b=some (.cells [Value.slice ad l.length cap,.int .i64 ((n+1:Nat):Int),.int .u64 nO].toArray 96 (0,0),true)):gp J L' b ad cap l (n+1):=
 ⟨fun x o hx=>by rw[hk x (fun e=>by subst e;rw[h.jb] at hx;cases hx)];exact h.le _ _ hx,h.jb,hs,h.ints⟩
theorem gp.put(h:gp J L b ad cap l n){x:Nat}(hx:L x=none)(o:Obj):gp J (L.put x o) b ad cap l n:=by
 obtain⟨sd,g⟩:=h.blk;have e:b≠x:=fun e=>by rw[←e,g] at hx;cases hx
 exact⟨h.le.trans (Le.put hx _),h.jb,⟨sd,by rw[au _ _ e];exact g⟩,h.ints⟩
theorem gp.wide{J':LH}(h:gp J L b ad cap l n)(h1:Le J J')(h2:Le J' L)(h3:J' b=none):gp J' L b ad cap l n:=⟨h2,h3,h.blk,h.ints.le h1⟩
theorem gp.all(h:gp J L b ad cap l n):gp (L.cD b) L b ad cap l n:=h.wide h.cD (jo _ _) (by unfold LH.cD;rw[if_pos rfl])
end
structure XY(J L:LH)(b:Nat)(ad:Option Addr)(cap:Nat)(l:List Int)(n:Nat)(L':LH):Prop where
 h:gp J L' b ad cap l (n+1)
 k:∀x,x≠b→L' x=L x
section
variable {J L L':LH}{b:Nat}{ad:Option Addr}{cap:Nat}{l:List Int}{n:Nat}
theorem sG(m:Nat)(h:gp J L b ad cap l n)(hn:n≤1000000)(hl:l.length≤140737488355328)(hm:m≤1000000):Sp X 9 [pt b,.int .i64 m] L (fun v L'=>∃y:Nat,v=.int .i64 y∧y≤m∧XY J L b ad cap l n L'):=
 (H7 b ad cap l n m L h.cA hn hl hm).mono (fun _ _ ⟨⟨y,h1,h2⟩,hk,hs⟩=>⟨y,h1,h2,h.next hk hs,hk⟩) fun _ _ h=>h
theorem nA(lo hi:Int)(h:gp J L b ad cap l n)(hn:n≤1000000)(hl:l.length≤140737488355328)(h1:0≤lo)(h3:lo≤hi)(h4:hi≤1000000):Sp X 64 [pt b,.int .i64 lo,.int .i64 hi] L (fun v L'=>∃y:Int,v=.int .i64 y∧lo≤y∧y≤hi∧XY J L b ad cap l n L'):=by
 have e:lo+((hi - lo).toNat:Int)=hi:=by omega
 have:=OA (X:=X) b ad cap l n lo (hi - lo).toNat L h.cA hn hl (by omega) (by omega) (by omega);rw[e] at this;exact this.mono (fun _ _ ⟨⟨y,h1,h2,h3⟩,hk,hs⟩=>⟨y,h1,h2,h3,h.next hk hs,hk⟩) fun _ _ h=>h
theorem v7(xa:Option Addr)(xc:Nat)(xs:List Int)(h:gp J L b ad cap l n)(hx:aN L xa xs)(hxb:∀a,xa=some a→a.block≠b)(hn:n≤1000000)(hl:l.length≤140737488355328)(hm:xs.length≤1000000)(h1:1≤xs.length):Sp X 63 [pt b,.slice xa xs.length xc] L (fun v L'=>∃y:Int,v=.int .i64 y∧y∈xs∧XY J L b ad cap l n L'):=
 (TJ b ad xa cap xc l xs n L h.cA hx hn hl hm h1 hxb).mono (fun _ _ ⟨⟨y,h1,h2⟩,hk,hs⟩=>⟨y,h1,h2,h.next hk hs,hk⟩) fun _ _ h=>h
end
structure Gw(J L:LH)(k:Nat)(e:TypeId)(v:Value)(len:Nat)(cs:List Value)(ob:Option Nat):Prop where
 o:dt L k e v len cs ob
 j:∀o,ob=some o→J o=none
section
variable {J L L':LH}{b:Nat}{ad:Option Addr}{cap:Nat}{l:List Int}{n k:Nat}{e:TypeId}{v:Value}{len:Nat}{cs:List Value}{ob:Option Nat}
theorem Gw.nil:Gw J L k e (.slice none 0 0) 0 [] none:=⟨dt.nil,fun _ h=>by cases h⟩
theorem dt.ty(h:dt L k e v len cs ob){o:Nat}(ho:ob=some o):∃c,L o=some (.cells c e (0,0),true):=by
 subst ho;obtain⟨_,c,_,g,_⟩:=h;exact⟨c,g⟩
theorem Gw.cA(h:Gw J L k e v len cs ob)(hh:gp J L b ad cap l n)(he:e≠96)(hk:∀x,x≠b→L' x=L x):Gw J L' k e v len cs ob:=
 ⟨h.o.keep fun o ho=>hk o (fun e'=>by
  obtain⟨c,g⟩:=h.o.ty ho;obtain⟨sd,g2⟩:=hh.blk;subst e';rw[g] at g2;cases g2;exact he rfl),h.j⟩
theorem Gw.put(h:Gw J L k e v len cs ob){x:Nat}(hx:L x=none)(o:Obj):Gw J (L.put x o) k e v len cs ob:=
 ⟨h.o.keep fun o' ho=>au _ _ (fun e'=>by
  obtain⟨c,g⟩:=h.o.ty ho;rw[←e',g] at hx;cases hx),h.j⟩
theorem Mp{v':Value}{nu:Option Nat}{K6:Nat}{iY:List Value}(h:Gw J L k e v len cs ob)(hh:gp J L b ad cap l n)(he:e≠96)(hw:dt L' k e v' K6 iY nu)(hc:(L'=L∧nu=none∧ob=none)∨∃b c,nu=some b∧L'=L.put b (.cells c e)∧((ob=some b∧∃c0,L b=some (.cells c0 e (0,0),true)∧c.size=c0.size)∨L b=none)):
  Gw J L' k e v' K6 iY nu∧gp J L' b ad cap l n∧∀x c e',L x=some (.cells c e' (0,0),true)→e'≠e→L' x=L x:=by
 rcases hc with⟨rfl,rfl,_⟩ | ⟨q,c,rfl,rfl,⟨rfl,c0,g,_⟩ | g⟩
 ·exact⟨⟨hw,fun _ h=>by cases h⟩,hh,fun _ _ _ _ _=>rfl⟩
 ·have hJ:=h.j q rfl;obtain⟨sd,g2⟩:=hh.blk;have Q8:b≠q:=fun e'=>by subst e';rw[g] at g2;cases g2;exact he rfl
  refine⟨⟨hw,fun _ h=>by cases h;exact hJ⟩,⟨aC hh.le hJ _,hh.jb,⟨sd,by rw[au _ _ Q8];exact g2⟩,hh.ints⟩,fun x c e' hx aY=>au _ _ (fun e2=>?_)⟩;subst e2;rw[g] at hx;cases hx;exact aY rfl
 ·refine⟨⟨hw,fun _ h=>by cases h;exact aP hh.le g⟩,hh.put g _,fun x c e' hx aY=>au _ _ (fun e2=>?_)⟩;subst e2;rw[g] at hx;cases hx
theorem Gw.rest{e2:TypeId}{k2 GF:Nat}{v2:Value}{Pb:List Value}{GY:Option Nat}(h:Gw J L k2 e2 v2 GF Pb GY)(hr:∀x c e',L x=some (.cells c e' (0,0),true)→e'≠e→L' x=L x)(aY:e2≠e):Gw J L' k2 e2 v2 GF Pb GY:=
 ⟨h.o.keep fun o ho=>by
  obtain⟨c,g⟩:=h.o.ty ho;exact hr o c e2 g aY,h.j⟩
end
section
variable {J L L':LH}{b:Nat}{ad:Option Addr}{cap:Nat}{l:List Int}{n k:Nat}{e:TypeId}{v:Value}{len:Nat}{cs:List Value}{ob:Option Nat}
theorem Gw.nC{α:Type}{enc:α→List Value}{xs:List α}{xa:Option Addr}{xc:Nat}(h:Gw J L k e (.slice xa len xc) xs.length (xs.flatMap enc) ob)(hh:gp J L b ad cap l n)(he:e≠96)(hk:∀x,(enc x).length=k):len=xs.length∧aX (L.cD b) xa k enc xs∧xs.length≤xc:=by
 have ho:=h.o.keep (L':=L.cD b) fun o ho=>dg (fun e'=>by
  obtain⟨c,g⟩:=h.o.ty ho;obtain⟨sd,g2⟩:=hh.blk;subst e';rw[g] at g2;cases g2;exact he rfl)
 obtain⟨_,_,e1,hc⟩:=h.o.slice;cases e1;exact⟨rfl,ho.at hk,hc⟩
end
theorem wM(xs:List Int){L:LH}{b:Nat}{fz:Nat×Nat}{wr:Bool}(h:L b=some (.cells (xs.flatMap cj).toArray 3 fz,wr)):aN L (some ⟨b,0,none⟩) xs:=by
 intro i x hx;refine⟨_,rfl,fun j v hv=>?_⟩;rw[cK];refine ay h ?_;rw[Nat.zero_add,List.getElem?_toArray];exact rT aV hx hv
theorem gp.off{J L:LH}{b:Nat}{ad:Option Addr}{cap:Nat}{l:List Int}{n x:Nat}(h:gp J L b ad cap l n)(hx:L x=none):x≠b:=fun e=>by
 obtain⟨sd,g⟩:=h.blk;rw[e,g] at hx;cases hx
theorem ju{α:Type}{enc:α→List Value}{J L L':LH}{b:Nat}{ad:Option Addr}{cap:Nat}{l:List Int}{n k:Nat}{e:TypeId}{xs:List α}{x:α}{xa:Option Addr}{xc:Nat}{ob nu:Option Nat}{v':Value}(h:Gw J L k e (.slice xa xs.length xc) xs.length (xs.flatMap enc) ob)(hh:gp J L b ad cap l n)(he:e≠96)(hw:dt L' k e v' (xs.length+1) (xs.flatMap enc++enc x) nu)
  (hc:(L'=L∧nu=none∧ob=none)∨∃b c,nu=some b∧L'=L.put b (.cells c e)∧((ob=some b∧∃c0,L b=some (.cells c0 e (0,0),true)∧c.size=c0.size)∨L b=none)):
  ∃Wt Wu,v'=.slice Wt (xs.length+1) Wu∧Gw J L' k e (.slice Wt (xs++[x]).length Wu) (xs++[x]).length ((xs++[x]).flatMap enc) nu∧gp J L' b ad cap l n∧∀x c e',L x=some (.cells c e' (0,0),true)→e'≠e→L' x=L x:=by
 obtain⟨h1,h2,h3⟩:=Mp h hh he hw hc;obtain⟨Wt,Wu,rfl,_⟩:=hw.slice;have e1:(xs++[x]).length=xs.length+1:=by simp
 have e2:(xs++[x]).flatMap enc=xs.flatMap enc++enc x:=by simp
 exact⟨Wt,Wu,rfl,by rw[e1,e2];exact h1,h2,h3⟩
theorem KB{i:Nat}(h:i<1000000):IntKind.i64.wrap (((i+1:Nat):Int) - 1)=(i:Int):=by
 rw[wrap64_in _ (by omega) (by omega)];omega
theorem HT(aa ab:Option Addr)(ca cb:Nat)(l:List Bs)(L:LH)(ha:aX L aa 1 cI l)(hb:aX L ab 1 cI l)(hn:l.length≤1000000):Sp X 40 [.slice aa l.length ca,.slice ab l.length cb] L (fun v L'=>v=.bool true∧L=L'):=by
 refine Sp.enter (n:=32) Tryz.func40 rfl rfl rfl rfl fun C hX _ aG r=>?_;refine W.go 99 rfl ?_;refine W.loop (fun m E B L'=>∃i:Nat,m=l.length - i∧i≤l.length∧L=L'∧E=[(0,.v (.slice aa l.length ca)),(1,.v (.slice ab l.length cb)),(5,.v (.int .i64 i))]∧B=[])
  ⟨0,rfl,by omega,rfl,rfl,rfl⟩ (by exact⟨rfl,rfl,rfl,trivial⟩) (by exact trivial) ?_
 rintro _ _ _ _ ⟨i,rfl,hi,rfl,rfl,rfl⟩ again;refine W.go 99 rfl ?_;refine W.split rfl rfl rfl (fun e1=>W.go 99 rfl ?_) (fun e1=>W.go 99 rfl ?_)
 ·have fB:i<l.length:=by have:=of_decide_eq_true e1;omega
  have hx:=List.getElem?_eq_getElem fB;obtain⟨a,rfl⟩:=ha.addr fB;obtain⟨b,rfl⟩:=hb.addr fB;refine W.split rfl rfl rfl (fun _=>?_) (fun h=>absurd h (by simp;omega));refine W.go 99 rfl ?_;generalize l[i]=s at hx;refine W.drawn (by kernel_rfl) _ (Le.refl _) ?_;refine DD.run' [0,1,4,5] rfl ?_;refine DD.vf 2 rfl rfl rfl rfl rfl (Vf.aW rfl rfl rfl rfl rfl rfl rfl (fB)) ?_;refine DD.vf 6 rfl rfl rfl rfl rfl (Vf.aW rfl rfl rfl rfl rfl rfl rfl (fB)) ?_;refine DD.vf 3 rfl rfl rfl rfl rfl (Vf.load rfl rfl rfl (jq ha hx)) ?_;refine DD.vf 7 rfl rfl rfl rfl rfl (Vf.load rfl rfl rfl (jq hb hx)) ?_;refine DD.run' [8] rfl ?_;refine .fin rfl ?_;refine W.go 99 rfl ?_;refine W.split rfl rfl rfl (fun e3=>W.go 99 rfl ?_) (fun e3=>W.go 99 rfl ?_)
  ·exact absurd e3 (by
    show¬(!nj s s)=true;have:nj s s=true:=by rw[pB];simp
    rw[this];decide)
  ·exact W.again (again _ _ _ _ (by omega) ⟨i+1,rfl,by omega,rfl,rfl,rfl⟩) ⟨rfl,rfl,congrArg some (bu (by omega)),trivial⟩ trivial
 ·refine W.ret r rfl rfl ?_;exact⟨congrArg Value.bool (by simp),rfl⟩
end Go.Mz
set_option maxRecDepth 100000
namespace Go.Mz
open Go.Conc
section
variable {P:Program}{L:LH}{H:Value→LH→Prop}
theorem pY{r:Nat}{c:Array Value}{e:TypeId}{fz:Nat×Nat}{wr:Bool}{Q:Option (TypeId×Nat)→LH→Prop}(h:L r=some (.cells c e fz,wr)):az P Q H (shape r) L=Q (some (e,c.size)) L:=by
 unfold shape;simp only[az,h]
theorem HM{r:Nat}{c:Array Value}{e:TypeId}{fz:Nat×Nat}{wr:Bool}{Q:Option (Addr×TypeId)→LH→Prop}(h:L r=some (.cells c e fz,wr)):az P Q H (viewAt r) L=Q none L:=by
 unfold viewAt;rw[ae,pY h]
 rfl
theorem Fa{r:Nat}{c:Array Value}{e:TypeId}{fz:Nat×Nat}{wr:Bool}{Q:Option Nat→LH→Prop}(h:L r=some (.cells c e fz,wr)):az P Q H (cellsIn r) L=Q (some c.size) L:=by
 unfold cellsIn;rw[ae,pY h]
 rfl
theorem x9{a:Addr}{c:Array Value}{e:TypeId}{fz:Nat×Nat}{wr:Bool}{Q:Addr→LH→Prop}(h:L a.block=some (.cells c e fz,wr)):az P Q H (Conv.seenAt a) L=Q a L:=by
 unfold Conv.seenAt;rw[ae,HM h]
 rfl
end
section
variable {P:Program}{E:a8}{B:List (Option Bx)}{L:LH}
theorem Vf.aaG{s d t:TypeId}{x:Operand}{b off m:Nat}{c:Array Value}{e:TypeId}{fz:Nat×Nat}{wr:Bool}(hx:aL E x=some (.v (.pointer (some ⟨b,off,none⟩))))(h1:P.underlying s=some (.pointer t))(h2:P.underlying d=some .unsafePointer)(hn:(P.info? t).map (·.size)=some (m+1))(hb:L b=some (.cells c e fz,wr))(ho:off<c.size):Vf P (.convert s d x) E B L (.v (.pointer (some ⟨b,off,none⟩))):=fun T R β hE _ hL=>by
 have ex:=(Option.some.inj (hE.val hx)).symm;refine⟨_,rfl,fun ty dst pos af gd Q H hq=>?_⟩;have hR:=hL _ _ hb;simp only[execOp,ex];rw[ae];unfold convert;rw[ae,ao h1,ae,ao h2];simp only;unfold Conv.unsafePointer;rw[ae,ao h1,ae,ao h2];simp only;rw[ae,x9 (a:=⟨b,off,none⟩) hR,ae,Fa (r:=b) hR];simp only[ae,ar];rw[bL hn];have h3:decide (off≥c.size)=false:=decide_eq_false (by omega);simp only[h3,Bool.false_and,Nat.succ_ne_zero,decide_false,Bool.false_or,Bool.false_eq_true,if_false];exact hq
theorem Vf.aaq{s d t:TypeId}{x:Operand}{b off m:Nat}{c:Array Value}{e:TypeId}{fz:Nat×Nat}{wr:Bool}(hx:aL E x=some (.v (.pointer (some ⟨b,off,none⟩))))(h1:P.underlying s=some .unsafePointer)(h2:P.underlying d=some (.pointer t))(hn:(P.info? t).map (·.size)=some (m+1))(hb:L b=some (.cells c e fz,wr))
  (ho:liesAt P P.depth e (c.size / P.cellsOf e) off t 1=true):Vf P (.convert s d x) E B L (.v (.pointer (some ⟨b,off,none⟩))):=fun T R β hE _ hL=>by
 have ex:=(Option.some.inj (hE.val hx)).symm;refine⟨_,rfl,fun ty dst pos af gd Q H hq=>?_⟩;have hR:=hL _ _ hb;simp only[execOp,ex];rw[ae];unfold convert;rw[ae,ao h1,ae,ao h2];simp only;unfold Conv.unsafePointer;rw[ae,ao h1,ae,ao h2];simp only;rw[ae,x9 (a:=⟨b,off,none⟩) hR,ae,bL hn];simp only[Nat.succ_ne_zero,decide_false,Bool.false_or];rw[ae];unfold variablesAt;simp only[ae];rw[dV,pY (r:=b) hR];simp only[ae,ar,ho,Bool.or_true,if_true];exact hq
theorem Vf.JP{t:TypeId}{x:Operand}{a:Addr}{len cap:Nat}(hx:aL E x=some (.v (.slice (some a) len cap)))(hc:cap≠0):Vf P (.call {callee:=.builtin .unsafeSliceData,args:=#[x],argTypes:=#[t]}) E B L (.v (.pointer (some a))):=fun T R β hE _ hL=>by
 have ex:=(Option.some.inj (hE.val hx)).symm;refine⟨_,rfl,fun ty dst pos af gd Q H hq=>?_⟩;simp only[execOp,resolve,List.map_toArray,List.map_cons,List.map_nil,ex,pure,Sem.bind,bind,invoke,builtin];show az P _ _ (Builtin.unsafeSliceData_ _ _ _>>= fun u=>pure (Next.value u)) R;rw[ae];show az P _ _ (if cap≠0 then pure (Value.pointer (some a)) else _) R;rw[if_pos hc,ar];exact hq
theorem rH{H:Value→LH→Prop}{Q:ByteArray→LH→Prop}{b:Nat}:∀(l:List UInt8) (off:Nat) (acc:List UInt8),(∀(i:Nat) (x:UInt8),l[i]?=some x→L.cell? ⟨b,off+i,none⟩=some (mR x))→az P Q H (loadBytes ⟨b,off,none⟩ ⟨⟨acc⟩⟩ l.length) L=Q ⟨⟨acc++l⟩⟩ L
 | [],_,acc,_=>by
  rw[List.append_nil];rfl
 | x::l,off,acc,h=>by
  have h0:=h 0 x rfl;rw[Nat.add_zero] at h0;have ih:=rH (Q:=Q) (H:=H) l (off+1) (acc++[x]) fun i y hy=>by
   have:=h (i+1) y hy;rw[show off+(i+1)=off+1+i by omega] at this;exact this
  rw[List.append_assoc] at ih;show az P Q H (loadBytes ⟨b,off,none⟩ ⟨⟨acc⟩⟩ (l.length+1)) L=_;unfold loadBytes;rw[ae,xk h0];have hp:(ByteArray.mk ⟨acc⟩).push ((x.toNat:Int).toNat.toUInt8)=⟨⟨acc++[x]⟩⟩:=by
   show ByteArray.mk ((Array.mk acc).push _)=_;simp
  show az P Q H (loadBytes ((⟨b,off,none⟩:Addr).add 1) ((ByteArray.mk ⟨acc⟩).push ((x.toNat:Int).toNat.toUInt8)) l.length) L=_;rw[cK,hp];exact ih
theorem JV{t tz ty:TypeId}{b n:Nat}(h0:0<n)(h9:n≤9223372036854775807):Builtin.unsafeString_ #[t,tz] ty #[.pointer (some ⟨b,0,none⟩),.int .i64 (n:Int)]=(elemOf t>>= fun e'=>variablesAt ⟨b,0,none⟩ e' n>>= fun ok=>if ok=true then(loadBytes ⟨b,0,none⟩ .empty n>>= fun s=>freeze ⟨b,0,none⟩ n>>= fun _=>pure (Value.string s)) else unsupported (.unsafePointer "String: not so many bytes at ptr")):=by
 have h1:¬(n:Int)<0:=by omega
 have h2:¬(n:Int)>IntKind.i64.max:=by show¬(n:Int)>9223372036854775807;omega
 have h3:¬(n:Int)=0:=by omega
 show(asInt (.int .i64 (n:Int))>>= _)=_;have e0:(#[t,tz]:Array TypeId)[0]?=some t:=rfl;simp only[asInt,asIntOf,bind,Sem.bind,pure,e0,h1,h2,h3,if_false,Int.toNat_natCast]
theorem Ef.string{C:Cx P}{dst:Option Tmp}{ty:TypeId}{pos:String}{af:Array Edge}{gd:Option (Nat×Bool)}{t te tz e:TypeId}{x y:Operand}{b:Nat}{c:Array Value}{fz:Nat×Nat}{l:List UInt8}(hx:aL E x=some (.v (.pointer (some ⟨b,0,none⟩))))(hy:aL E y=some (.v (.int .i64 l.length)))(h0:0<l.length)(h9:l.length≤9223372036854775807)
  (hu:P.underlying t=some (.pointer te))(hb:L b=some (.cells c e fz,true))(hl:liesAt P P.depth e (c.size / P.cellsOf e) 0 te l.length=true)(hc:∀(i:Nat) (z:UInt8),l[i]?=some z→c[i]?=some (mR z)):
  Ef C ⟨dst,.call {callee:=.builtin .unsafeString,args:=#[x,y],argTypes:=#[t,tz]},ty,pos,af,gd⟩ E B L (fun sv B' L'=>sv=.v (str l)∧B'=B∧L'=L.put b (.cells c e (PO fz ⟨b,0,none⟩ l.length))):=by
 intro T R β hE hH;have ex:=(Option.some.inj (hE.val hx)).symm;have ey:=(Option.some.inj (hE.val hy)).symm;have hR:=hH.le _ _ hb;refine⟨rfl,?_⟩;simp only[execOp,resolve,List.map_toArray,List.map_cons,List.map_nil,ex,ey,pure,Sem.bind,bind,invoke,builtin];show az P _ _ (Builtin.unsafeString_ _ _ _>>= fun u=>pure (Next.value u)) R;rw[ae,JV h0 h9];unfold elemOf variablesAt freeze;simp only[ae];rw[ao hu];simp only[ar];rw[dV,pY (r:=b) hR];simp only[ar,ae,hl,if_true];have qu:=fun Q H=>rH (P:=P) (L:=R) (Q:=Q) (H:=H) (b:=b) l 0 [] fun i z hz=>ay hR (by rw[Nat.zero_add];exact hc i z hz);show az P _ _ (loadBytes ⟨b,0,none⟩ ⟨⟨[]⟩⟩ l.length) R;rw[qu];show az P _ _ (.freeze ⟨b,0,none⟩ l.length (.pure ())) R;simp only[az,hR];exact⟨.v (str l),B,_,⟨rfl,rfl,rfl⟩,rfl,hH.m9 hb (aj _ _ _) (fun b' bG=>au _ _ bG),fun _ _=>rfl⟩
end
section
variable {P:Program}{E:a8}{B:List (Option Bx)}{L:LH}
theorem Vf.Sr{t t2 e:TypeId}{x y:Operand}{a:Addr}{op:BinOp}{m:Nat}(hx:aL E x=some (.v (.pointer (some a))))(hy:aL E y=some (.v (.pointer (some a))))(hu:P.underlying t=some (.pointer e))(hn:(P.info? e).map (·.size)=some (m+1))(ho:op=.eql∨op=.neq):Vf P (.binOp op t x y t2) E B L (.v (.bool (yg op true))):=fun T R β hE _ hL=>by
 have ex:=(Option.some.inj (hE.val hx)).symm;have ey:=(Option.some.inj (hE.val hy)).symm;have hs:∀(Q:Bool→LH→Prop) (H:Value→LH→Prop) (n:Nat),Q true R→az P Q H (Op.equalIn (n+1) t (.pointer (some a)) (.pointer (some a))) R:=fun Q H n hq=>by
  rw[Op.equalIn,ae,ao hu];show az P Q H (sizeOf e>>= _) R;rw[ae,bL hn];show az P Q H (if m+1≠0 then sameAddr a a else _) R;rw[if_pos (Nat.succ_ne_zero m)];unfold sameAddr;rw[beq_self_eq_true,if_pos rfl,beq_self_eq_true];exact hq
 refine⟨_,rfl,?_⟩;rcases ho with rfl | rfl
 ·exact fun ty=>aR.nj ex ey (fun _ _ hq=>by exact hq) (fun n _ _ hq=>hs _ _ _ hq) rfl
 ·exact fun ty=>aR.nj ex ey (fun _ _ hq=>by exact hq) (fun n _ _ hq=>hs _ _ _ hq) rfl
end
theorem Vf.quo{P:Program}{E:a8}{B:List (Option Bx)}{L:LH}{t t2:TypeId}{x y:Operand}{k:IntKind}{a b:Int}(hx:aL E x=some (.v (.int k a)))(hy:aL E y=some (.v (.int k b)))(hb:b≠0):Vf P (.binOp .quo t x y t2) E B L (.v (.int k (k.wrap (a.tdiv b)))):=fun T R β hE _ _=>
 ⟨_,rfl,fun ty=>aR.bin ((Option.some.inj (hE.val hx)).symm) ((Option.some.inj (hE.val hy)).symm) (if_neg hb)⟩
theorem GH{P:Program}{e:TypeId}{n m off:Nat}(h1:P.cellsOf e=1)(hm:off+n≤m)(hd:0<P.depth):liesAt P P.depth e (m / P.cellsOf e) off e n=true:=by
 obtain⟨d,hd⟩:∃d,P.depth=d+1:=⟨P.depth - 1,by omega⟩;have hs:sameLayout P P.depth e e=true:=by
  rw[hd];unfold sameLayout;rw[beq_self_eq_true,Bool.true_or]
 rw[h1,Nat.div_one];rw[hd] at hs ⊢;unfold liesAt;rw[hd];unfold rowAt;simp only[h1,Nat.div_one,Nat.mod_one,hs,beq_self_eq_true,Bool.true_and,Bool.and_true];rw[decide_eq_true hm];simp
end Go.Mz
