/- Lemmas on which the claim leans. -/
import Derived.Test.YtjhpkghkgaekcaaGreatDoorMzAq
namespace Go.Mz
open Go.Conc Go.ConcN
open Go.ConcR (KK wgBlock WgAt stA smA rd wr Payload Aside2 DC0 Bk bk_of_mute)
variable {b:aQ}{nt:Nat}{Post:Value→World→Prop}{W0:World}{Anch:Goroutine→LH→Prop}{S0:Nat→Prop}{n0:Nat}{gs:Array Goroutine}{w:World}{t:Trace}{G:Gh}
theorem dH.at(h:dH b nt Post W0 Anch S0 n0 gs w t G)(d:Nat):dH b nt Post W0 Anch S0 n0 gs (w.at d) t G:=
  {h with
    wk:=fun k hk=>let⟨g,hg,hs⟩:=h.wk k hk;⟨g,hg,hs.rely h.ok h.Φ h.Φ⟩
    ti:={h.ti with res:=⟨h.ti.res.sub,h.ti.res.apart,h.ti.res.sh,h.ti.res.nQ,h.ti.res.q9,h.ti.res.seen,h.ti.res.clean,h.ti.res.uF,h.ti.res.atomic⟩}
    same:=h.same.at d
    wg:=h.wg
    iT:=h.iT
    cat:=h.cat
    iX:=h.iX}
theorem BW.SR{st:Nat}{s:Ws}{f:Nat}{T:Tree}{d:Nat}{g:Goroutine}{L:LH}{w:World}(h:BW b nt st s f T d g L w):g.status=.running∨g.status=.finished∨g.status=.blocked:=by
 cases h with
 | own h=>exact .inl (h.running fun _ _ x=>x.run)
 | blk=>exact .inr (.inr rfl)
 | dn h=>exact .inl (Goes.running (fun _ _ x=>x.1) _ (RW.refl _) h)
 | wN _ h=>exact(WSit.status h).imp id .inl
theorem BW.Vq{st:Nat}{s:Ws}{f:Nat}{T:Tree}{d:Nat}{g:Goroutine}{L:LH}{w:World}(h:BW b nt st s f T d g L w)(h2:2≤st)(h7:st≤7):g.status=.running:=by
 cases h with
 | own h=>omega
 | blk=>omega
 | dn h=>exact Goes.running (fun _ _ x=>x.1) _ (RW.refl _) h
 | wN _ h=>exact WSit.running_of h (by omega)
theorem BW.work{st:Nat}{s:Ws}{f:Nat}{T:Tree}{d:Nat}{g:Goroutine}{L:LH}{w:World}(h:BW b nt st s f T d g L w)(h8:st=8):g.status=.running∨(g.status=.blocked∧s.T.pc=.s1):=by
 cases h with
 | own h=>exact .inl (h.running fun _ _ x=>x.run)
 | blk _ h _=>exact .inr ⟨rfl,h⟩
 | dn h=>omega
 | wN _ h=>omega
theorem BW.quits{s:Ws}{f:Nat}{T:Tree}{d:Nat}{g:Goroutine}{L:LH}{w:World}(h:BW b nt 1 s f T d g L w):∃q,QuitsD b.P q d g:=by
 generalize h1:1=st at h;cases h with
 | own h=>omega
 | blk=>omega
 | dn h=>omega
 | wN _ hl=>
  cases hl with
  | quit hq=>exact⟨_,hq⟩
  | _=>omega
theorem dH.awake(h:dH b nt Post W0 Anch S0 n0 gs w t G):∀g∈gs,Go.Conc.awake g:=by
 intro g hg tm;obtain⟨i,hi⟩:=Array.mem_iff_getElem?.1 hg;have aU:i<gs.size:=(Array.getElem?_eq_some_iff.1 hi).1;have ed:=h.size;have hb:=h.iW;rcases Nat.eq_zero_or_pos i with rfl | hp
 ·obtain⟨a,ha,hs⟩:=h.mn;rw[hi] at ha;cases ha;rcases hs with⟨h1,_⟩ | ⟨_,_,_,g0,rfl,_⟩
  ·rw[h1.running fun _ _ x=>x.1];simp
  ·simp
 by_cases h1:i<b.base
 ·obtain⟨hq,_⟩:=h.old i g hp h1 hi;rcases hq.status with e | e <;> rw[e] <;> simp
 ·obtain⟨y,hy,hs⟩:=h.wk (i - b.base) (by omega);rw[show b.base+(i - b.base)=i by omega] at hy hs;rw[hi] at hy;cases hy;rcases hs.SR with e | e | e <;> rw[e] <;> simp
theorem dH.SI(h:dH b nt Post W0 Anch S0 n0 gs w t G):∃(i:Nat) (g:Goroutine),gs[i]?=some g∧g.status=.running:=by
 obtain⟨a,ha,hs⟩:=h.mn;rcases hs with⟨h1,_⟩ | ⟨im,_,_,g0,rfl,_⟩
 ·exact⟨0,a,ha,h1.running fun _ _ x=>x.1⟩
 ·have nn:=h.bm _ ha rfl;have hm:=h.gi.mode;rw[im] at hm;have hm:ConcN.Mode G.j (cJ G.st) .w3 G.sv G.mv:=hm;generalize G.sv=sv at hm;generalize G.mv=mv at hm nn
  -- one adT is at its end,cD not gone
  have wN:∀k,k<G.j→2≤G.st k→G.st k≤7→∃(i:Nat) (g:Goroutine),gs[i]?=some g∧g.status=.running:=by
   intro k hk h2 h7;obtain⟨y,hy,hw⟩:=h.wk k hk;refine⟨_,y,hy,?_⟩;exact hw.Vq h2 h7
  cases hm with
  | opn h1=>exact h1.elim
  | fin h1=>exact h1.elim
  | sema=>cases nn
  | last L h1 h2 h3 h4=>
   simp only[cJ] at h3;exact wN L h2 (by omega) (by omega)
  | reg h1 h2 h3=>
   obtain⟨k,hk,h5⟩:=exists_counted h3;simp only[cJ] at h5;rcases h.gi.EZ k hk with⟨_,h7⟩ | h8
   ·exact wN k hk (by omega) h7
   ·obtain⟨y,hy,hw⟩:=h.wk k hk;rcases hw.work h8 with hr | ⟨Bw,qS⟩
    ·exact⟨_,y,hy,hr⟩
    ·-- adu can go on cD one in N6 lock
     have h0:=h.bw k _ hk hy Bw;have eD:k<b.n:=Nat.lt_of_lt_of_le hk h.gi.jn;obtain⟨U,hU,u1,u2⟩:=h.gi.inv.live (List.mem_of_getElem? (h.gi.vQ k eD)) qS (by omega) (by omega);obtain⟨k',gq⟩:=List.mem_iff_getElem?.1 hU;have QN:k'<b.n:=by
      have:=(List.getElem?_eq_some_iff.1 gq).1;rw[h.gi.A3] at this;exact this
     have hT:=h.gi.vQ k' QN;rw[gq] at hT;cases hT;have dL:k'<G.j:=by
      rcases Nat.lt_or_ge k' G.j with e | e
      ·exact e
      ·rw[h.gi.fresh k' e QN] at u2;exact absurd rfl u2
     have PU:G.st k'=8:=by
      rcases h.gi.EZ k' dL with⟨_,h7⟩ | PU
      ·have hp:=h.gi.pc k' QN;unfold oC at hp;rw[h.gi.dn k' dL h7] at hp;exact absurd hp u2
      ·exact PU
     obtain⟨y',oW,Nu⟩:=h.wk k' dL;refine⟨_,y',oW,?_⟩;rcases Nu.work PU with hr | ⟨_,hp⟩
     ·exact hr
     ·exact absurd hp u1
theorem dH.Ps(h:dH b nt Post W0 Anch S0 n0 gs w t G)(im:G.mt=.acq){g:Goroutine}(sl:Option (Nat×Nat))(hx:gs[0]?=some g)(ym:Deaf t 0=0)(hs:Kg b Post W0 g (G.Ls 0)):
  ∃m' ops,runT b.P (crowd gs w sl) 0=(.next m',ops)∧ew b.P Post m' (t++ops):=by
 obtain⟨g',hgo,hF⟩:=hs;have hgo:=hgo w;have hb:=h.iW;have ed:=h.size;have dF:=h.gi.jm;rw[im] at dF;have BA:G.j=b.n:=dF;have Cp:0<gs.size:=(Array.getElem?_eq_some_iff.1 hx).1;have cz:∀k,k<G.j→G.st k=1:=by
  have hm:=h.gi.mode;rw[im] at hm;have hm:ConcN.Mode G.j (cJ G.st) .acq G.sv G.mv:=hm;generalize G.sv=sv at hm;generalize G.mv=mv at hm;cases hm with
  | opn h1=>exact h1.elim
  | reg h1=>exact h1.elim
  | last L h1=>exact h1.elim
  | fin h1 h2=>intro k hk;have:=h2 k hk;simp only[cJ] at this;omega
 have mw:∀k,k<b.n→(G.ws k).ph=.done:=fun k hk=>h.gi.dn k (by omega) (by have:=cz k (by omega);omega);have ho:G.o=none:=by
  cases ho:G.o with
  | none=>rfl
  | some y=>
   obtain⟨k,hk,_,hp⟩:=h.gi.tk.J5 y ho;rw[mw k hk] at hp;cases hp
 have hK:=h.gi.ji.end h.gi.n1 mw;have hX:=h.iT;have hB:=h.iX;have hFG:=hF G.K (Mu.enc G.S.w) ((G.S.n+G.S.h:Nat):Int) hK (h.ti.res.sh 0 b.X h.ti.vH) (h.ti.res.sh 0 b.B h.ti.AI);have cx:=runT_crowd_go (P:=b.P) (sl:=sl) (i:=0) hx (show stepG b.P (0==0) g w=_ from hgo);refine⟨_,_,cx,?_⟩;have ns:=h.ti.mark h.ok 0 g.frame.fn g.frame.place (m:=.acquire (stA b.W)) rfl (by simp);rw[mJ] at ns ⊢;generalize hY:({g:=0,fn:=g.frame.fn,pos:=g.frame.place,act:=.mark (.acquire (stA b.W))}:MemOp)=Y at ns;have D8:Y.g=0∧Y.act=.mark (.acquire (stA b.W)):=by rw[←hY];exact⟨rfl,rfl⟩
 have Gp:∀op∈(#[Y]:Array MemOp),op.act.touch?=none:=by
  intro op ho;simp only[List.mem_toArray,List.mem_cons,List.not_mem_nil,or_false] at ho;subst ho;rw[D8.2];rfl
 have fF:∀i,Deaf (t++#[Y]) i=Deaf t i:=by
  intro i
  by_cases e:i=0
  ·subst e;have:=Deaf_own t 0 g.frame.fn g.frame.place #[Go.ConcR.mk (.acquire (stA b.W))];rw[mJ,hY] at this;rw[this];simp[deafBehind,Go.ConcR.mk]
  ·exact Deaf_other t (Ne.symm e) _ fun op ho=>by simp at ho;rw[ho];exact D8.1
 have old:∀{idx:Nat} {a:Touch},touchAt (t++#[Y]) idx=some a→touchAt t idx=some a:=nh Gp;have UH:(t++#[Y])[t.size]?=some Y:=by rw[Array.getElem?_append_right (Nat.le_refl _)];simp
 have hYh:(t++#[Y]).heard t.size:=⟨0,by rw[Trace.g?,UH];simp[D8.1],by rw[deaf_old (Nat.le_refl _)];exact ym⟩;have hrR:∀k r,n0≤r→RelBy (stA b.W) t (b.base+k) r→HappensBefore (t++#[Y]) r t.size:=by
  intro k r hn hr;have Rb:=lt_of_act? hr.act;refine .single (.inr ⟨.marked Rb (.inr (by rw[act?_old Rb];exact hr.act)) (by rw[act?_of UH,D8.2]) (fun i hi1 tK=>?_),(heard_old Rb).2 hr.heard,hYh⟩);rw[act?_old (by omega)];exact h.ti.norel i (by omega)
 -- ade a LP did abA before this,or counts for nothing
 have gm:∀i op y,n0≤i→t[i]?=some op→op.g≠0→op.act.touch?=some y→HappensBefore (t++#[Y]) i t.size∨(¬t.counts i∧cU y.loc=some b.W):=by
  intro i op y hi ho aY hy;have oe:=lt_size_of_getElem? ho;have lI:t.g? i=some op.g:=by simp[Trace.g?,ho]
  rcases h.ti.Of i op hi ho (by rw[hy];simp) with e | ⟨e1,e2⟩
  ·exact absurd e aY
  ·have hk:op.g - b.base<G.j:=by omega
   obtain⟨r,hn,hr,vk⟩:=h.rel (op.g - b.base) hk (by have:=cz _ hk;omega);rw[show b.base+(op.g - b.base)=op.g by omega] at hr vk;have Rb:=lt_of_act? hr.act;have hrr:=hrR (op.g - b.base) r hn (by rw[show b.base+(op.g - b.base)=op.g by omega];exact hr);rcases Nat.lt_trichotomy i r with aU | rfl | hgt
   ·left
    exact .trans (.single (.inl ⟨aU,op.g,by rw[g?_old oe];exact lI,by rw[g?_old Rb];exact hr.g⟩)) hrr
   ·exact .inl hrr
   ·exact .inr ⟨hr.after i hgt lI,vk i op y hgt ho rfl hy⟩
 have P7:∀i,∃n,∀y,0<i→gs[i]?=some y→QuitsD b.P n (Deaf t i) y:=by
  intro i
  by_cases hi:0<i∧i<gs.size
  ·by_cases h1:i<b.base
   ·exact⟨G.q i,fun y _ hy=>(h.old i y hi.1 h1 hy).1⟩
   ·obtain⟨y,hy,hw⟩:=h.wk (i - b.base) (by omega);rw[show b.base+(i - b.base)=i by omega] at hy hw;rw[cz (i - b.base) (by omega)] at hw;obtain⟨q,hq⟩:=hw.quits;exact⟨q,fun y' _ oW=>by rw[hy] at oW;cases oW;exact hq⟩
  ·exact⟨0,fun y h0 hy=>absurd ⟨h0,(Array.getElem?_eq_some_iff.1 hy).1⟩ hi⟩
 have dP:∀y v,(((G.Ls 0).put b.X (b.xo (Mu.enc G.S.w) ((G.S.n+G.S.h:Nat):Int))).put b.B (b.ob G.K)) y=some v→(y=b.B∧v=(b.ob G.K,true))∨(y=b.X∧v=(b.xo (Mu.enc G.S.w) ((G.S.n+G.S.h:Nat):Int),true))∨G.Ls 0 y=some v:=by
  intro y v hv;rcases yP hv with⟨e1,e2⟩ | ⟨_,e2⟩
  ·exact .inl ⟨e1,e2⟩
  ·rcases yP e2 with⟨e3,e4⟩ | ⟨_,e4⟩
   ·exact .inr (.inl ⟨e3,e4⟩)
   ·exact .inr (.inr e4)
 have hSS:∀y,(S0 y∨y=b.W∨y=b.N)→G.Sh y:=fun y hy=>hy.elim (h.ti.NX y) fun hy=>hy.elim (fun e=>e▸h.ti.AJ) (fun e=>e▸h.ti.BM);refine hFG _ w sl _ (fun i=>(P7 i).choose) (fun y=>S0 y∨y=b.W∨y=b.N) (by rw[Array.getElem?_setIfInBounds_self_of_lt (by simpa using Cp)]) (fun y v wr hv=>?_) h.same ⟨fun i y hi hy=>?_,fun i hi=>?_⟩
  ⟨fun said=>ns.res.clean said,fun i a y ha BH=>?_,fun i gg hg aY hc=>?_,by rw[fF];exact ym,fun i a y ha BH=>ns.res.seen i a y ha BH⟩ fun y hy=>⟨h.ti.res.nQ y (hSS y hy),?_⟩
 ·rcases dP y _ hv with⟨e,e2⟩ | ⟨e,e2⟩ | e
  ·cases e2;rw[e];exact hB
  ·cases e2;rw[e];exact hX
  ·exact h.ti.res.sub 0 y v wr e
 ·rw[Array.getElem?_setIfInBounds_ne (by omega),Array.getElem?_map] at hy;obtain⟨z,hz,rfl⟩:=Option.map_eq_some_iff.1 hy;have:=(P7 i).choose_spec z hi hz;rw[woken_quitsD this,fF];exact this
 ·rw[fF];exact h.above i (by simpa using hi)
 ·have u7:=old ha;obtain⟨op,ho,oq⟩:=touch_of u7;have oe:=lt_size_of_getElem? ho
  by_cases hi:i<n0
  ·exact(h.ti.known i a y hi u7 BH).imp (·.app _) fun x=>⟨.inl x.1,x.2⟩
  ·by_cases qo:op.g=0
   ·left
    have:=knows_own (t:=t++#[Y]) (i:=i) (z:=op) (by rw[getElem?_append_old oe];exact ho);rw[qo] at this;exact this
   ·rcases gm i op a (by omega) ho qo oq with hh | ⟨hh,hw⟩
    ·exact .inl ⟨t.size,Y,UH,D8.1,.inr hh⟩
    ·right
     rw[BH] at hw;cases hw;refine⟨.inr (.inl rfl),Classical.byContradiction fun hk=>hh ⟨a,u7,by cases hl:a.loc <;> rw[hl] at BH <;> simp[cU] at BH <;> rfl,.inl hk⟩⟩
 ·have Eb:(t++#[Y]).counts i:=hc;obtain⟨x,jZ,jW,gq⟩:=Eb;have u7:=old (idx:=i) (a:=x) jZ;obtain⟨op,ho,oq⟩:=touch_of u7;have oe:=lt_size_of_getElem? ho;have W3:t.counts i:=(counts_old oe).1 hc;rw[g?_old oe] at hg;have abZ:op.g=gg:=by simpa [Trace.g?,ho] using hg
  by_cases hi:i<n0
  ·obtain⟨j',dL,bG⟩:=h.ti.over i gg hi hg aY W3;have yw:j'<t.size:=by
    unfold Trace.g? at dL;obtain⟨z,hz,_⟩:=Option.map_eq_some_iff.1 dL;exact lt_size_of_getElem? hz
   exact⟨j',by rw[g?_old yw];exact dL,hb_app _ bG⟩
  ·rcases gm i op x (by omega) ho (by rw[abZ];exact aY) oq with hh | hh
   ·exact⟨t.size,by rw[Trace.g?,UH];simp[D8.1],hh⟩
   ·exact absurd W3 hh.1
 ·cases hp:(((G.Ls 0).put b.X (b.xo (Mu.enc G.S.w) ((G.S.n+G.S.h:Nat):Int))).put b.B (b.ob G.K)) y with
  | none=>rfl
  | some v=>
   exfalso
   rcases dP y v hp with⟨e,_⟩ | ⟨e,_⟩ | e
   ·rcases hy with hy | hy | hy
    ·exact h.ok.s0 (e▸hy)
    ·exact h.ok.wb (hy.symm.trans e)
    ·exact h.ok.nb (hy.symm.trans e)
   ·rcases hy with hy | hy | hy
    ·exact h.ok.s0X (e▸hy)
    ·exact h.ok.wx (hy.symm.trans e)
    ·exact h.ok.nx (hy.symm.trans e)
   ·rw[h.ti.res.sh 0 y (hSS y hy)] at e;cases e
theorem Ie(hA:∀g L,Anch g L→iU b nt (LV b nt Post W0 Anch) g L):∀μ m t,BInv b nt Post W0 Anch S0 n0 μ m t→ew b.P Post m t:=by
 intro μ
 induction μ using (Mh.wf (b.base+b.n)).induction with
 | _ μ ih=>
 intro m t hI;obtain⟨gs,w,sl,G,rfl,h,rfl⟩:=hI;obtain⟨i,g,d,sC,hi,hg,cu⟩:=crowd_pick (P:=b.P) (w:=w) (sl:=sl) h.awake h.SI;have h:=h.at d;have done:r8 b nt Post W0 Anch S0 n0 gs (w.at d) t G sC i→ew b.P Post (crowd gs w sl) t:=by
  rintro⟨m',ops,Ww,h1,h2,h3⟩;exact ew.next (cu.trans h1) (ih Ww h2 m' _ h3)
 have aU:i<gs.size:=(Array.getElem?_eq_some_iff.1 hi).1;have ed:=h.size;have hb:=h.iW;rcases Nat.eq_zero_or_pos i with rfl | hp
 ·obtain⟨a,ha,hm⟩:=h.mn;rw[hi] at ha;cases ha;rcases hm with⟨cA,hd⟩ | ⟨_,_,_,g0,rfl,_⟩
  ·rcases cA.DO with⟨⟨_,hs⟩,hl⟩ | ⟨_,hs⟩
   ·by_cases h1:∃r,G.mt=.go r
    ·obtain⟨r,hr⟩:=h1;rw[hr] at hs hd;exact done (h.Uw hr sC hi hd hs)
    ·by_cases h2:G.mt=.acq
     ·rw[h2] at hs hd;obtain⟨m',ops,e1,e2⟩:=h.Ps h2 sC hi hd hs;exact ew.next (cu.trans e1) e2
     ·exact done (h.aal hA sC hi hg hl hd hs (fun r e=>h1 ⟨r,e⟩) h2)
   ·exact done (h.G1 (K:=fun T' g' L'=>At b.P true (b.Φ nt) (fun g L=>g.status=.running∧G.mt.stop b nt Post W0 Anch g L) T' g' L') sC hi (.inl rfl) hs (fun _ _ _ x=>x.running fun _ _ x=>x.1) (fun k _ e=>by omega) (fun _ T' g' L' hK=>.inl ⟨hK,hd⟩))
  ·cases hg
 by_cases h1:i<b.base
 ·exact done (h.R5 hp h1 sC hi hg)
 ·have:=h.workerStep (k:=i - b.base) (by omega) sC (by rw[show b.base+(i - b.base)=i by omega];exact hi) hg;rw[show b.base+(i - b.base)=i by omega] at this;exact done this
theorem nV.aba{g:Goroutine}{L:LH}(b:aQ)(n1:1≤b.n)(n6:b.n≤6)(dF:∀S0,¬S0 b.B→¬S0 b.X→b.Ok S0)
  (hW:L b.W=some (wgBlock b.ty 0 0,true))(hX:L b.X=some (b.xo 0 0,true))(hN:L b.N=some (aQ.cnt nt 0,true))(hB:L b.B=some (b.ob [],true))
  (hA:∀k g L,Anch g L→iU {b with base:=k} nt (LV {b with base:=k} nt Post W0 Anch) g L)
  (hM:∀k m,b.n=m→sT {b with base:=k} nt Post W0 Anch m g (fun y=>if y=b.W∨y=b.X∨y=b.N∨y=b.B then none else L y)):nV b.P Post W0 g L:=by
 intro gs w sl t q S h0 hs hS P7 hP YT;have Cp:0<gs.size:=(Array.getElem?_eq_some_iff.1 h0).1;have ZD:∀y,L y≠none→¬S y:=fun y hy hs=>hy (YT y hs).2;have eD:∀i a y,touchAt t i=some a→cU a.loc=some y→L y≠none→Knows t 0 i:=fun i a y ha hb hl=>(hP.known i a y ha hb).resolve_right fun x=>ZD y hl x.1;have dF:=dF S (ZD _ (by rw[hB];simp)) (ZD _ (by rw[hX];simp));have Q2:({b with base:=gs.size}:aQ).Ok S:=⟨dF.wn,dF.wx,dF.wb,dF.nx,dF.nb,dF.xb,dF.ma,dF.ms,dF.s0,dF.s0X,dF.xm⟩;have aU:∀y,L y≠none→y<w.heap.size:=fun y hy=>hs.lt hy;obtain⟨r,hr⟩:∃r,b.n=r+1:=⟨b.n - 1,by omega⟩;obtain⟨T,hT⟩:=Way.at (show iU {b with base:=gs.size} nt (Ox {b with base:=gs.size} nt (sT {b with base:=gs.size} nt Post W0 Anch r)) g (fun y=>if y=b.W∨y=b.X∨y=b.N∨y=b.B then none else L y) from hM gs.size (r+1) hr);have hLw:∀y v,(fun y=>if y=b.W∨y=b.X∨y=b.N∨y=b.B then none else L y) y=some v→L y=some v∧¬(y=b.W∨y=b.X∨y=b.N∨y=b.B):=by
  intro y v hv;simp only at hv
  split at hv
  ·cases hv
  ·exact⟨hv,by assumption⟩
 have UX:∀l,({b with base:=gs.size}:aQ).mu l→cU l=some b.X:=fun l hm=>by
  rcases hm with rfl | rfl
  ·rw[←dF.ma];rfl
  ·rw[←dF.ms];rfl
 have UD:∀i,({b with base:=gs.size}:aQ).Pt gs.size i→i=0:=fun i hi=>by
  unfold aQ.Pt at hi;simp only at hi;omega
 have zN:ye (upd (fun _=>LH.nil) 0 (fun y=>if y=b.W∨y=b.X∨y=b.N∨y=b.B then none else L y)) (fun y=>y=b.W∨y=b.X∨y=b.N∨y=b.B∨S y) (fun x=>x=b.W∨x=b.N) (({b with base:=gs.size}:aQ).Pt gs.size) w t:=by
  refine⟨fun i=>?_,fun i j y v lJ hv=>?_,fun i y hy=>?_,fun y hy=>?_,fun i idx a y v wr ha hy hv hw=>?_,hP.seen,hP.clean,fun y hy=>?_,fun idx a y ha hy hA hp i hi=>?_⟩
  ·by_cases e:i=0
   ·subst e;rw[upd_same];exact fun y v wr hv=>hs y v wr (hLw y _ hv).1
   ·rw[upd_ne _ _ e];intro y v wr hv;cases hv
  ·by_cases e:i=0
   ·subst e;rw[upd_ne _ _ (Ne.symm lJ)];rfl
   ·rw[upd_ne _ _ e] at hv;cases hv
  ·by_cases e:i=0
   ·subst e;rw[upd_same];show(if y=b.W∨y=b.X∨y=b.N∨y=b.B then none else L y)=none
    split
    ·rfl
    ·rename_i hh;rcases hy with e | e | e | e | e
     ·exact absurd (.inl e) hh
     ·exact absurd (.inr (.inl e)) hh
     ·exact absurd (.inr (.inr (.inl e))) hh
     ·exact absurd (.inr (.inr (.inr e))) hh
     ·exact(YT y e).2
   ·rw[upd_ne _ _ e];rfl
  ·rcases hy with e | e | e | e | e
   ·subst e;exact aU _ (by rw[hW];simp)
   ·subst e;exact aU _ (by rw[hX];simp)
   ·subst e;exact aU _ (by rw[hN];simp)
   ·subst e;exact aU _ (by rw[hB];simp)
   ·exact(YT y e).1
  ·by_cases e:i=0
   ·subst e;rw[upd_same] at hv;exact eD idx a y ha hy (by rw[(hLw y _ hv).1];simp)
   ·rw[upd_ne _ _ e] at hv;cases hv
  ·rcases hy with e | e
   ·exact .inl e
   ·exact .inr (.inr (.inl e))
  ·rw[UD i hi];refine eD idx a y ha hy ?_;rcases hA with e | e
   ·subst e;rw[hW];simp
   ·subst e;rw[hN];simp
 refine Ie (b:={b with base:=gs.size}) (S0:=S) (n0:=t.size) (hA gs.size) _ _ t ⟨gs,w,sl,{j:=0,st:=fun _=>0,ws:=fun _=>Ke,fu:=fun _=>0,F:=fun i=>if i=0 then T else Tree.num (q i),q:=q,mt:=.kd r,Ls:=upd (fun _=>LH.nil) 0 (fun y=>if y=b.W∨y=b.X∨y=b.N∨y=b.B then none else L y),Sh:=fun y=>y=b.W∨y=b.X∨y=b.N∨y=b.B∨S y,o:=none,ts:=List.replicate b.n CQ,S:=⟨Mu.Wd.zero,0,0⟩,c:=0,K:=[],sv:=0,mv:=0},rfl,?_,rfl⟩;have cz:∀T'∈List.replicate b.n CQ,T'=CQ:=fun T' yi=>(List.mem_replicate.1 yi).2;have hz:∀f:Mu.Th→Nat,f CQ=0→Mu.sum f (List.replicate b.n CQ)=0:=fun f hf=>Mu.mM fun T' yi=>by rw[cz T' yi];exact hf
 refine{ok:=Q2,gi:=?_,size:=(by simp),iW:=Cp,old:=fun i y h1 h2 hy=>⟨P7.old i y h1 hy,by show(if i=0 then T else Tree.num (q i))=_;rw[if_neg (by omega)]⟩,wk:=fun k hk=>absurd hk (Nat.not_lt_zero _),mn:=⟨g,h0,?_⟩,above:=P7.above,ti:=?_,same:=hS,wg:=hs _ _ _ hW,iT:=?_,cat:=hs _ _ _ hN,iX:=hs _ _ _ hB,bm:=fun _ _ _=>rfl,bw:=fun k _ hk=>absurd hk (Nat.not_lt_zero _),rel:=fun k hk=>absurd hk (Nat.not_lt_zero _)}
 ·refine{jn:=Nat.zero_le _,n1:=n1,n6:=n6,jm:=(show 0+(r+1)=b.n by omega),inv:=⟨fun T' yi=>?_,?_,?_,?_,?_,fun e=>(by cases e),fun _ _ _ e=>(by cases e)⟩,A3:=by simp,vQ:=fun k hk=>?_,pc:=fun k _=>rfl,fresh:=fun _ _ _=>rfl,EZ:=fun k hk=>absurd hk (Nat.not_lt_zero _),dn:=fun k hk=>absurd hk (Nat.not_lt_zero _),ji:=⟨List.nodup_nil,fun i hi=>(by cases hi),fun i hi=>absurd hi (Nat.not_lt_zero _),fun k _ i hi=>(by cases hi),fun k _ hp=>(by cases hp),Nat.zero_le _⟩,tk:=⟨fun k _ hp=>(by cases hp),fun k _ K' hp=>(by cases hp),fun g hg=>(by cases hg)⟩,fuel:=fun k hk=>absurd hk (Nat.not_lt_zero _),mode:=?_}
  ·rw[cz T' yi];exact Mu.c9 rfl (by intro e;cases e) (Nat.zero_le _) (fun e=>by cases e) (fun e=>by rcases e with e | e <;> cases e)
  ·exact hz _ rfl
  ·simp only;rw[hz Mu.fN rfl];rfl
  ·simp only;rw[hz Mu.fH rfl];rfl
  ·simp only;rw[hz Mu.fQ rfl,hz Mu.dC rfl,hz Mu.dZ rfl]
  ·simp only[List.getElem?_replicate];rw[if_pos hk]
  ·have:=ConcN.Mode.opn (tag:=.sp r 5) (j:=0) (D:=cJ fun _=>0) trivial (fun a ha=>absurd ha (Nat.not_lt_zero _)) (by simp)
   simpa [Vc,sumTo,pend,cB.oG] using this
 ·show yb _ nt Post W0 Anch (.kd r) (if(0:Nat)=0 then T else Tree.num (q 0)) (Deaf t 0) g (upd (fun _=>LH.nil) 0 _ 0);rw[if_pos rfl,upd_same,hP.hears];exact .inl ⟨hT,rfl⟩
 ·refine{res:=zN,vH:=.inr (.inl rfl),AJ:=.inl rfl,BM:=.inr (.inr (.inl rfl)),NX:=fun y hy=>.inr (.inr (.inr (.inr hy))),AI:=.inr (.inr (.inr (.inl rfl))),sS:=fun g hg=>(by cases hg),Ol:=fun idx a ha hm hp i hi=>?_,Om:=fun idx a ha hx _ _ i hi=>?_,tok:=fun _ idx a ha hx=>.inl fun i hi=>?_,said:=fun idx a ha hl _=>?_,len:=Nat.le_refl _,known:=fun i a y _ ha hy=>hP.known i a y ha hy,over:=fun i g _ hg aY hc=>hP.over i g hg aY hc,Of:=fun i op hi ho=>(by have:=lt_size_of_getElem? ho;omega),norel:=fun i hi ha=>(by have:=lt_of_act? ha;omega),rV:=fun i hi ha=>(by have:=lt_of_act? ha;omega),OZ:=fun i a y hi ha=>?_}
  ·rw[UD i hi];exact eD idx a b.X ha (UX _ hm) (by rw[hX];simp)
  ·rw[UD i hi];exact eD idx a b.X ha hx (by rw[hX];simp)
  ·rw[UD i hi];exact eD idx a b.B ha hx (by rw[hB];simp)
  ·exact eD idx a b.W ha (by rw[hl];rfl) (by rw[hW];simp)
  ·obtain⟨x,hx,_⟩:=touch_of ha;have:=lt_size_of_getElem? hx;omega
 ·exact hs _ _ _ hX
end Go.Mz
