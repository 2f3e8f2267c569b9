/- Lemmas on which the claim leans. -/
import Derived.Test.YtjhpkghkgaekcaaGreatDoorMzAm
import Derived.Conc.Token
namespace Go.Mz
open Go.Conc Go.ConcN
open Go.ConcR (KK wgBlock WgAt stA smA rd wr mk Payload Aside2 DC0 Bk bk_of_mute)
structure BR where
 P:Program
 ty:Nat
 W:Nat
 C:Nat
 D:Nat
 n:Nat
 base:Nat
 out:Nat→Value→LH→Prop
 mute:Nat→Prop
 ML:(Nat→Prop)→Goroutine→LH→Prop
 Anch:Goroutine→LH→Prop
 Fin:Goroutine→LH→Prop
variable (p:BR)
def Ot(g:Goroutine)(L:LH):Prop:=
 g.status=.running∧∃m cc v c e fz,L cc=some (.cells c e fz,true)∧c[0]?=some v∧
  ∀w,WgLive p.ty p.W w→Has cc 0 v w→Goes p.P false (RW p.ty p.W cc 1 0 0) (DWs p.W xr xr cc 1 1) (AtR0 p.P p.ty p.W cc 1 0 1 v) m g w
section
end
inductive xq where
 | kd (r:Nat) | add (r:Nat) | said (r:Nat) | en (r:Nat) | go (r:Nat) | gok | sel | acN
variable {p}
variable {p:BR}
theorem vS{P:Program}{a a' g:Goroutine}{w':World}(h:g.status=.running∨g.status=.finished):woken P a a' w' g=g:=by
 unfold Go.Conc.woken;split
 ·exact again_running _ h
 ·rfl
section
variable {gs:Array Goroutine}{w w':World}{t u:Trace}{j:Nat}{ks:Bool}{st:Nat→Nat}{F F':Nat→Tree}{cc:Nat→Nat}{cv:Nat→Value}{q:Nat→Nat}{kt:CTag}{kx:Nat}{mt:xq}{R:Nat→Prop}{Ls Ls':Nat→LH}{x:Nat}
end
def cJ(st:Nat→Nat):Nat→WD:=fun k=>⟨min (st k) 7,0,0⟩
def Z5(n v:Nat)(ks:Bool):CTag→Nat→Nat
 | .kd,_=>if ks then 8 *n+20 else 8 *n+30
 | .w1,_=>8 *v+13
 | .w2 vs,_=>8 *vs+12
 | .w3,x=>6+x
 | .blk,_=>6
 | .w4,_=>5
 | .ke,_=>4
 | .acq,_=>3
 | .ret,x=>1+x
 | _,_=>0
def aan:xq→Nat
 | .kd r=>6 * (r+1)+9
 | .add r=>6 * (r+1)+8
 | .said r=>6 * (r+1)+7
 | .en r=>6 * (r+1)+6
 | .go r=>6 * (r+1)+5
 | .gok=>9
 | .sel=>2
 | .acN=>1
def adf(n j:Nat)(st:Nat→Nat):Nat:=sumTo n fun k=>if k<j then st k else 13
def bit(kt:CTag)(kx:Nat):Nat:=match kt,kx with | .w3,0=>1 | _,_=>0
abbrev Fj:=(Nat×(Nat→Tree))×Nat
def Mh(N:Nat):Fj→Fj→Prop:=Prod.Lex (yG N) (·<·)
theorem Mh.wf(N:Nat):WellFounded (Mh N):=⟨fun x=>Prod.lexAccessible ((yG.wf N).apply x.1) (fun b=>Nat.lt_wfRel.wf.apply b) x.2⟩
def meas(j:Nat)(ks:Bool)(st:Nat→Nat)(F:Nat→Tree)(kt:CTag)(kx:Nat)(mt:xq):Fj:=
 ((4 *adf p.n j st+4 *Z5 p.n (Vc j (cJ st)) ks kt kx+aan mt,F),bit kt kx)
section
variable {S0:Nat→Prop}{n0 size:Nat}{t u:Trace}
end
theorem Way.bind{P:Program}{mn:Bool}{Φ:World→Prop}{S1 S2:Goroutine→LH→Prop}{g:Goroutine}{L:LH}(h:Way P mn Φ S1 g L)(f:∀g L,S1 g L→Way P mn Φ S2 g L):Way P mn Φ S2 g L:=by
 obtain⟨x⟩:=h
 induction x with
 | stop h=>exact f _ _ h
 | own hr nx h k ih=>exact⟨.own hr nx h fun w hw=>Classical.choice (ih w hw)⟩
 | sP hr a v g' es wG l7 h k ih=>exact⟨.sP hr a v g' es wG l7 h (Classical.choice ih)⟩
theorem rD{f f':Nat→Nat}:∀{n:Nat},(∀k,k<n→f' k≤f k)→sumTo n f'≤sumTo n f
 | 0,_=>Nat.le_refl _
 | n+1,h=>by
  have h1:=rD (n:=n) fun k hk=>h k (by omega);have h2:=h n (by omega);simp only[sumTo];omega
theorem xZ{f f':Nat→Nat}{i:Nat}:∀{n:Nat},i<n→(∀k,k<n→f' k≤f k)→f' i<f i→sumTo n f'<sumTo n f
 | 0,h,_,_=>absurd h (Nat.not_lt_zero _)
 | n+1,h,hm,hl=>by
  have h2:=hm n (by omega)
  by_cases e:i=n
  ·subst e;have h1:=rD (n:=i) fun k hk=>hm k (by omega);simp only[sumTo];omega
  ·have h1:=xZ (n:=n) (by omega) (fun k hk=>hm k (by omega)) hl;simp only[sumTo];omega
section
variable {W0:World}{S0:Nat→Prop}{n0:Nat}{gs:Array Goroutine}{w:World}{t:Trace}{j:Nat}{ks:Bool}{st:Nat→Nat}{F:Nat→Tree}{cc:Nat→Nat}{cv:Nat→Value}{q:Nat→Nat}{kt:CTag}{kx:Nat}{mt:xq}{R:Nat→Prop}
  {Ls:Nat→LH} {Sh:Nat→Prop} {sv mv:Int}
end
end Go.Mz
namespace Go.Mz
open Go.Conc Go.ConcN
open Go.ConcR (KK wgBlock WgAt stA smA rd wr mk Payload Aside2 DC0 Bk bk_of_mute)
variable {p:BR}{W0:World}{S0:Nat→Prop}{n0:Nat}{gs:Array Goroutine}{w:World}{t:Trace}{j:Nat}{ks:Bool}{st:Nat→Nat}{F:Nat→Tree}{cc:Nat→Nat}{cv:Nat→Value}{q:Nat→Nat}{kt:CTag}{kx:Nat}{mt:xq}{R:Nat→Prop}
  {Ls:Nat→LH} {Sh:Nat→Prop} {sv mv:Int}
theorem zB{L:LH}{e:Event}(h:nz L e){a:Touch}(ha:(MemAct.ofEvent e).touch?=some a):a.kind=.plain:=by
 obtain⟨loc,wr,sy⟩:=e;cases loc with
 | cell x=>
  obtain⟨h1,_⟩:=h;simp only at h1;subst h1;simp only[MemAct.ofEvent,MemAct.touch?,Option.some.injEq] at ha;subst ha
  rfl
 | obj r=>
  obtain⟨h1,_⟩:=h;simp only at h1;subst h1;simp only[MemAct.ofEvent,MemAct.touch?,Option.some.injEq] at ha;subst ha
  rfl
 | mark m=>rcases h with rfl | ⟨f,rfl⟩ <;> simp[MemAct.ofEvent,MemAct.touch?] at ha
 | output=>exact h.elim
 | goroutines=>exact h.elim
theorem nG{L:LH}{e:Event}(h:nz L e)(a:Addr):MemAct.ofEvent e≠.mark (.release a):=by
 obtain⟨loc,wr,sy⟩:=e;cases loc with
 | cell x=>simp[MemAct.ofEvent]
 | obj r=>
  obtain⟨h1,_⟩:=h;simp only at h1;subst h1;simp[MemAct.ofEvent]
 | mark m=>rcases h with rfl | ⟨f,rfl⟩ <;> simp[MemAct.ofEvent]
 | output=>exact h.elim
 | goroutines=>exact h.elim
theorem FU{L:LH}{e:Event}(h:nz L e):e.loc≠.mark .disable∧e.loc≠.mark .enable:=by
 obtain⟨loc,wr,sy⟩:=e;cases loc with
 | mark m=>rcases h with rfl | ⟨f,rfl⟩ <;> simp
 | _=>simp
theorem Tr.deaf{L L':LH}{w w':World}{es:Array Event}(h:Tr L L' w w' es)(d:Nat):deafBehind d es=d:=deafBehind_still (fun e he=>FU (h.ev e he)) d
section
variable {j i:Nat}{D:Nat→WD}{tag:CTag}{sv mv:Int}
theorem Sb(tag:CTag):pend tag≤1:=by cases tag <;> simp only[pend] <;> (try split) <;> omega
theorem NF(hm:ConcN.Mode j D tag sv mv)(hi:i<j)(h5:(D i).stage=5)(hj:j+1<2147483648):mv=0∧∃v wt:Nat,wt≤1∧v<2147483647∧sv=((v:Int)+1) *KK+wt:=by
 have iL:cnt (D i)=1:=by simp[cnt,h5]
 have hV1:1≤Vc j D:=by have:=le_sumTo (f:=fun x=>cnt (D x)) hi;simp only[Vc];omega
 have hVj:=Vc_le j D;have hp:=Sb tag;cases hm with
 | opn h1 h2 h3=>
  have e:((Vc j D+pend tag:Nat):Int)=((Vc j D+pend tag - 1:Nat):Int)+1:=by omega
  refine⟨rfl,Vc j D+pend tag - 1,0,by omega,by omega,?_⟩;rw[e];simp
 | reg h1 h2 h3=>
  have e:((Vc j D:Nat):Int)=((Vc j D - 1:Nat):Int)+1:=by omega
  refine⟨rfl,Vc j D - 1,1,by omega,by omega,?_⟩;rw[e];simp
 | last L _ h2 h3 h4=>
  by_cases e:i=L
  ·subst e;omega
  ·have:=h4 i hi e;omega
 | sema h2=>have:=h2 i hi;omega
 | fin _ h2=>have:=h2 i hi;omega
theorem NG{fC:Int}(hm:ConcN.Mode j D tag sv mv)(hi:i<j)(h5:(D i).stage=5)(he:fC+KK=sv):
  (fC=1→ConcN.Mode j (upd D i ⟨4,0,0⟩) tag fC mv)∧(fC≠1→ConcN.Mode j (upd D i ⟨1,0,0⟩) tag fC mv):=by
 have iL:cnt (D i)=1:=by simp[cnt,h5]
 have hV1:1≤Vc j D:=by have:=le_sumTo (f:=fun x=>cnt (D x)) hi;simp only[Vc];omega
 have h1v:=Vc_upd D (⟨1,0,0⟩:WD) hi;have h4v:=Vc_upd D (⟨4,0,0⟩:WD) hi;have c1:cnt (⟨1,0,0⟩:WD)=0:=rfl;have c4:cnt (⟨4,0,0⟩:WD)=0:=rfl;have hK:KK=4294967296:=rfl;cases hm with
 | opn h1 h2 h3=>
  have tV:(((Vc j (upd D i ⟨1,0,0⟩)+pend tag:Nat):Int) *KK)=fC:=by
   have e:((Vc j D+pend tag:Nat):Int)=((Vc j (upd D i ⟨1,0,0⟩)+pend tag:Nat):Int)+1:=by omega
   rw[e,Int.add_mul] at he;omega
  refine⟨fun h=>?_,fun _=>?_⟩
  ·exfalso;rw[h,hK] at tV;omega
  ·rw[←tV];refine .opn h1 (fun a ha=>?_) (fun vs ev=>by have:=h3 vs ev;omega)
   by_cases e:a=i
   ·subst e;rw[upd_same];simp
   ·rw[upd_ne D _ e];exact h2 a ha
 | reg h1 h2 h3=>
  have tV:(((Vc j (upd D i ⟨1,0,0⟩):Nat):Int) *KK+1)=fC:=by
   have e:((Vc j D:Nat):Int)=((Vc j (upd D i ⟨1,0,0⟩):Nat):Int)+1:=by omega
   rw[e,Int.add_mul] at he;omega
  refine⟨fun h=>?_,fun h=>?_⟩
  ·have Rk:Vc j D=1:=by rw[h,hK] at tV;omega
   have Gr:∀a,a<j→a≠i→(D a).stage=1:=fun a ha e=>by
    have c0:=others_uncounted hi Rk iL a ha e;have:=h2 a ha;simp only[cnt] at c0
    split at c0 <;> omega
   have:=ConcN.Mode.last (j:=j) (D:=upd D i ⟨4,0,0⟩) (tag:=tag) i h1 hi (by rw[upd_same];simp) (fun a ha e=>by rw[upd_ne D _ e];exact Gr a ha e);rw[upd_same] at this;rw[h]
   simpa using this
  ·rw[←tV];refine .reg h1 (fun a ha=>?_) ?_
   ·by_cases e:a=i
    ·subst e;rw[upd_same];simp
    ·rw[upd_ne D _ e];exact h2 a ha
   ·rcases Nat.eq_zero_or_pos (Vc j (upd D i ⟨1,0,0⟩)) with e0 | e0
    ·rw[e0] at tV;exact absurd tV.symm (by simpa using h)
    ·exact e0
 | last L _ h2 h3 h4=>
  by_cases e:i=L
  ·subst e;omega
  ·have:=h4 i hi e;omega
 | sema h2=>have:=h2 i hi;omega
 | fin _ h2=>have:=h2 i hi;omega
theorem tZ(hm:ConcN.Mode j D tag sv mv)(hi:i<j)(h:(D i).stage=4∨(D i).stage=3):sv=1∧mv=0:=by
 obtain⟨_,_,h1,h2⟩:=hm.isLast hi (by omega);rw[if_neg (by omega)] at h1;exact⟨h1,h2⟩
theorem CN(hm:ConcN.Mode j D tag sv mv)(hi:i<j)(h:(D i).stage=2):sv=0∧mv=0:=by
 obtain⟨_,_,h1,h2⟩:=hm.isLast hi (by omega);rw[if_pos h] at h1;exact⟨h1,h2⟩
theorem zZ(hm:ConcN.Mode j D tag sv mv)(hi:i<j)(h:(D i).stage=4∨(D i).stage=3){s':Nat}(hs:s'=3∨s'=2):ConcN.Mode j (upd D i ⟨s',0,0⟩) tag (if s'=2 then 0 else 1) 0:=by
 obtain⟨YW,Gr,_,_⟩:=hm.isLast hi (by omega);have:=ConcN.Mode.last (j:=j) (D:=upd D i ⟨s',0,0⟩) (tag:=tag) i YW hi (by rw[upd_same];simp only;omega) (fun a ha e=>by rw[upd_ne D _ e];exact Gr a ha e);rw[upd_same] at this;exact this
theorem Ji(hm:ConcN.Mode j D tag sv mv)(hi:i<j)(h:(D i).stage=2)(ht:tag≠.blk):tag=.w3∧ConcN.Mode j (upd D i ⟨1,0,0⟩) .w3 0 1:=by
 obtain⟨YW,Gr,_,_⟩:=hm.isLast hi (by omega);refine⟨by cases tag <;> first | rfl | exact YW.elim | exact absurd rfl ht,.sema fun a ha=>?_⟩
 by_cases e:a=i
 ·subst e;rw[upd_same]
 ·rw[upd_ne D _ e];exact Gr a ha e
end
theorem pn(st:Nat→Nat)(k s:Nat)(h:s≤7):cJ (upd st k s)=upd (cJ st) k ⟨s,0,0⟩:=by
 funext a
 by_cases e:a=k
 ·subst e;simp only[cJ,upd_same];congr 1;omega
 ·simp only[cJ,upd_ne _ _ e]
theorem De(st:Nat→Nat)(k s:Nat)(h:min s 7=min (st k) 7):cJ (upd st k s)=cJ st:=by
 funext a
 by_cases e:a=k
 ·subst e;simp only[cJ,upd_same,h]
 ·simp only[cJ,upd_ne _ _ e]
theorem Kf{k s:Nat}{st:Nat→Nat}(hs:s=st k):upd st k s=st:=by
 funext a
 by_cases e:a=k
 ·subst e;rw[upd_same];exact hs
 ·rw[upd_ne _ _ e]
theorem J9{j k s:Nat}{st:Nat→Nat}(hk:k<j)(hs:s≤st k):Vc j (cJ (upd st k s))≤Vc j (cJ st):=by
 refine rD fun a _=>?_
 by_cases e:a=k
 ·subst e;simp only[cJ,upd_same,cnt]
  by_cases h1:5≤min s 7 <;> by_cases h2:5≤min (st a) 7 <;> simp only[h1,h2,if_true,if_false] <;> omega
 ·simp only[cJ,upd_ne _ _ e];exact Nat.le_refl _
theorem uz.le7{P:Program}{ty W Cc:Nat}{v:Value}{s m d:Nat}{g:Goroutine}{w:World}(h:uz P ty W Cc v s m d g w):1≤s∧s≤7:=by
 cases h <;> omega
theorem Yv(W:Nat):∀e∈#[rd (stA W)],(∀x,(MemAct.ofEvent e).touch?=some x→x.kind≠.plain∧cU x.loc=some W∧(x.kind=.said→x.loc=.cell (smA W)))∧MemAct.ofEvent e≠.mark (.release (stA W)):=by
 intro e he;simp at he;subst he;refine⟨fun x hx=>?_,by simp[rd,MemAct.ofEvent]⟩;simp only[rd,MemAct.ofEvent,MemAct.touch?,Option.some.injEq] at hx;subst hx;exact⟨by simp,rfl,fun h=>by simp at h⟩
theorem Yw(W:Nat):∀e∈#[rd (stA W),wr (stA W)],(∀x,(MemAct.ofEvent e).touch?=some x→x.kind≠.plain∧cU x.loc=some W∧(x.kind=.said→x.loc=.cell (smA W)))∧MemAct.ofEvent e≠.mark (.release (stA W)):=by
 intro e he;simp at he;rcases he with rfl | rfl
 ·refine⟨fun x hx=>?_,by simp[rd,MemAct.ofEvent]⟩;simp only[rd,MemAct.ofEvent,MemAct.touch?,Option.some.injEq] at hx;subst hx;exact⟨by simp,rfl,fun h=>by simp at h⟩
 ·refine⟨fun x hx=>?_,by simp[wr,MemAct.ofEvent]⟩;simp only[wr,MemAct.ofEvent,MemAct.touch?,Option.some.injEq] at hx;subst hx;exact⟨by simp,rfl,fun h=>by simp at h⟩
theorem Ui(W:Nat):∀e∈semEvents (smA W),(∀x,(MemAct.ofEvent e).touch?=some x→x.kind≠.plain∧cU x.loc=some W∧(x.kind=.said→x.loc=.cell (smA W)))∧MemAct.ofEvent e≠.mark (.release (stA W)):=by
 intro e he;simp[semEvents] at he;rcases he with rfl | rfl | rfl | rfl
 ·exact⟨fun x hx=>by simp[MemAct.ofEvent,MemAct.touch?] at hx,by simp[MemAct.ofEvent]⟩
 ·refine⟨fun x hx=>?_,by simp[MemAct.ofEvent]⟩;simp only[MemAct.ofEvent,MemAct.touch?,Option.some.injEq] at hx;subst hx;exact⟨by simp,rfl,fun h=>by simp at h⟩
 ·refine⟨fun x hx=>?_,by simp[MemAct.ofEvent]⟩;simp only[MemAct.ofEvent,MemAct.touch?,Option.some.injEq] at hx;subst hx;exact⟨by simp,rfl,fun h=>by simp at h⟩
 ·exact⟨fun x hx=>by simp[MemAct.ofEvent,MemAct.touch?] at hx,by simp[MemAct.ofEvent]⟩
theorem Yu{m:Mark}(W:Nat)(h1:∀a,m≠.release a)(h2:(∀a,m≠.read a∧m≠.write a)∨m=.write (smA W)∨m=.read (smA W)):∀e∈#[mk m],(∀x,(MemAct.ofEvent e).touch?=some x→x.kind≠.plain∧cU x.loc=some W∧(x.kind=.said→x.loc=.cell (smA W)))∧MemAct.ofEvent e≠.mark (.release (stA W)):=by
 intro e he;simp at he;subst he;refine⟨fun x hx=>?_,by simp only[mk,MemAct.ofEvent];intro e;exact h1 _ (MemAct.mark.inj e)⟩;rcases h2 with h2 | rfl | rfl
 ·cases m <;> simp only[mk,MemAct.ofEvent,MemAct.touch?] at hx <;> first | exact absurd rfl (h2 _).1 | exact absurd rfl (h2 _).2 | cases hx
 ·simp only[mk,MemAct.ofEvent,MemAct.touch?,Option.some.injEq] at hx;subst hx;exact⟨by simp,rfl,fun _=>rfl⟩
 ·simp only[mk,MemAct.ofEvent,MemAct.touch?,Option.some.injEq] at hx;subst hx;exact⟨by simp,rfl,fun _=>rfl⟩
theorem allQuit_of{j:Nat}{D:Nat→WD}(h:OpenSt j D)(hv:Vc j D=0):AllQuit j D:=by
 intro a ha;have:=le_sumTo (f:=fun x=>cnt (D x)) ha;simp only[Vc] at hv;have h0:cnt (D a)=0:=by omega
 simp only[cnt] at h0;have:=h a ha
 split at h0 <;> omega
end Go.Mz
namespace Go.Mz
open Go.Conc Go.ConcN
open Go.ConcR (KK wgBlock WgAt stA smA rd wr Payload Aside2 DC0 Bk bk_of_mute)
variable {p:BR}{W0:World}{S0:Nat→Prop}{n0:Nat}{gs:Array Goroutine}{w:World}{t:Trace}{j:Nat}{ks:Bool}{st:Nat→Nat}{F:Nat→Tree}{cc:Nat→Nat}{cv:Nat→Value}{q:Nat→Nat}{kt:CTag}{kx:Nat}{mt:xq}{R:Nat→Prop}
  {Ls:Nat→LH} {Sh:Nat→Prop} {sv mv:Int}
theorem nh{t u:Trace}(hn:∀op∈u,op.act.touch?=none){idx:Nat}{a:Touch}(ha:touchAt (t++u) idx=some a):touchAt t idx=some a:=by
 obtain⟨x,hx,dU⟩:=touch_of ha;rcases getElem?_append_cases hx with⟨hi,jZ⟩ | ⟨_,qV⟩
 ·rw[touchAt_of jZ];exact dU
 ·rw[hn x qV] at dU;cases dU
theorem G8{a:Addr}{t u:Trace}{k r:Nat}(h:RelBy a t k r)(hn:∀op∈u,op.act.touch?=none):RelBy a (t++u) k r:=by
 refine h.app fun i hi _ hc=>?_;obtain⟨x,hx,_⟩:=hc;have:=nh hn (idx:=i) (a:=x) hx;obtain⟨z,hz,_⟩:=touch_of this;have:=lt_size_of_getElem? hz;omega
theorem Fg{t u:Trace}(hn:∀op∈u,∀m,op.act≠.mark m)(g:Nat):Deaf (t++u) g=Deaf t g:=by
 obtain⟨l⟩:=u;rw[Deaf_append]
 induction l generalizing t with
 | nil=>rfl
 | cons y l ih=>
  have hy:deafStep g (Deaf t g) y=Deaf t g:=by
   have:=hn y (by simp);unfold deafStep
   split
   ·rename_i e;exact absurd e (this _)
   ·rename_i e;exact absurd e (this _)
   ·rfl
  rw[List.foldl_cons,hy];exact ih fun op ho=>hn op (by simp at ho ⊢;exact .inr ho)
end Go.Mz
namespace Go.Mz
open Go.Conc Go.ConcN
open Go.ConcR (KK wgBlock WgAt stA smA rd wr Payload Aside2 DC0 Bk bk_of_mute)
variable {p:BR}{W0:World}{S0:Nat→Prop}{n0:Nat}{gs gs':Array Goroutine}{w:World}{t:Trace}{j:Nat}{ks:Bool}{st:Nat→Nat}{F:Nat→Tree}{cc:Nat→Nat}{cv:Nat→Value}{q:Nat→Nat}{kt:CTag}{kx:Nat}{mt:xq}{R:Nat→Prop}
  {Ls:Nat→LH} {Sh:Nat→Prop} {sv mv:Int}
end Go.Mz
namespace Go.Mz
open Go.Conc Go.ConcN
open Go.ConcR (KK wgBlock WgAt stA smA rd wr Payload Aside2 DC0 Bk bk_of_mute)
variable {p:BR}{W0:World}{Post:Value→World→Prop}{S0:Nat→Prop}{n0:Nat}{gs gs':Array Goroutine}{w:World}{t:Trace}{j:Nat}{ks:Bool}{st:Nat→Nat}{F:Nat→Tree}{cc:Nat→Nat}{cv:Nat→Value}{q:Nat→Nat}{kt:CTag}{kx:Nat}{mt:xq}{R:Nat→Prop}
  {Ls:Nat→LH} {Sh:Nat→Prop} {sv mv:Int}
end Go.Mz
