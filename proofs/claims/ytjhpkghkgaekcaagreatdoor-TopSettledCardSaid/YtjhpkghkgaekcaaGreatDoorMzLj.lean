/- Lemmas on which the claim leans. -/
import Derived.Test.YtjhpkghkgaekcaaGreatDoorMzLi
import Derived.Conc.TokenWalk
set_option maxRecDepth 100000
namespace Go.Mz
open Go.Conc Go.ConcN Go.Proofs
open Go.ConcR (KK wgBlock WgAt stA smA rd wr mk)
noncomputable def nD:Frame:={(default:Frame) with fn:=Tryz.prog.funcs.size,defers:=[],mode:=.panicking [goexitEntry]}
theorem Jw(f:FuncId)(T:Array Value)(k:List Item){fn:Func}(hf:Tryz.prog.funcs[f]?=some fn)(hr:fn.results=#[]):QuitsD Tryz.prog 2 0 (G (Fr f T k [] .returning .deferred none) [nD]):=by
 refine QuitsD.ctl (g':=G nD []) rfl (fun w=>?_) ?_
 ·simp[G,stepG,unwind,doReturn,results,Fr,nD,hf,hr,seen,GStep.after,goexitEntry]
 refine QuitsD.ctl (g':={G nD [] with status:=.finished}) rfl (fun w=>?_) ⟨rfl,rfl⟩;simp[G,stepG,unwind,nD,goexitEntry,Frame.catches]
 rfl
theorem FC{g:FuncId}{fn:Func}{f1 f2:Array Value}{bd:Code}(hf:Tryz.prog.funcs[g]?=some fn)(hn:(fn.name== "runtime.NumGoroutine")=false)(hb:fn.body=some bd)(w:World):
  stepG Tryz.prog false (born Tryz.prog ⟨.fn (.func g) f2,f1⟩) w=.go (G (Frame.enter Tryz.prog g (f1++f2) .deferred) [nD]) w:=by
 have h4:¬fn.name= "runtime.NumGoroutine":=by simpa using hn
 simp[born,G,stepG,unwind,callDeferred,invoke,callFunc,hf,h4,hb,GStep.after,seen_none,nD,goexitEntry]
variable {z:GZ}
theorem TU(T:Array Value)(k:List Item):z.z.b.Ot (G (Fr 210 T k [dcall 153 #[pt z.W]] .returning .deferred none) [nD]):=by
 refine⟨41,fun w ⟨hw,hh⟩=>?_⟩;have hK:WgLive 284 z.W w∧Has z.X 0 z.z.b.v0 w:=⟨hw,hh⟩;refine Goes.step rfl fun lS h₁=>?_;replace hK:=Go.ConcN.Gen.kn_rely hK h₁;have hA:=@Go.ConcN.Gen.doneN acO lnk Tryz.prog To xr xr z.W z.X 1 0 1 z.z.b.v0 (Fr 210 T k [] .returning .deferred none) [nD] 2 rfl (Jw 210 T k Tryz.func210 rfl) lS hK;have hB:=@ME Tryz.prog lnk To z.W z.X 1 0 1 z.z.b.v0 (Fr 210 T k [] .returning .deferred none) [nD] lS hK;have hj:=MY (fun w=>RW.refl w) (fun a b c h1 h2=>h1.trans h2) hA hB;have hs:=stepG_unwind_enter (P:=Tryz.prog) (main:=false) (b:=baseD 210) (a:=⟨T,[dcall 153 #[pt z.W]]⟩) (ds:=[]) (todo:=k) (cs:=[nD]) (w:=lS) rfl Tryz.func153 (by kernel_rfl) rfl;have iA:stepG Tryz.prog false (G (Fr 210 T k [dcall 153 #[pt z.W]] .returning .deferred none) [nD]) lS=_:=hs;show(stepG Tryz.prog false _ lS).goes _;rw[iA];simp only[goes_go];exact⟨⟨rfl,rfl⟩,hj⟩
theorem Uc(f l:Nat)(J:Option Nat)(L:LH)(hJ:∀i,J=some i→z.z.keep i=false)(hl:z.fl.length+z.n<1000000000):
  jO (LZ z.z f ⟨.idle,{pc:=.out,left:=l},J⟩) 211 [pt z.N,.int .i64 1] L (fun Y v L'=>L'=L∧∃f' c:Nat,f=f'+1∧v=.int .i64 ((c:Int)+1)∧((c<z.fl.length∧Y=LZ z.z f' ⟨.idle,{pc:=.out,left:=l+1},some c⟩)∨(z.fl.length≤c∧c≤z.fl.length+z.n∧Y=LZ z.z f' ⟨.done,{pc:=.out,left:=l},none⟩))):=by
 refine jO.enter (n:=10) Tryz.func211 rfl rfl rfl rfl fun C hX hf aG r=>?_;have aM:C.kd≠.early:=by rcases r.kd with e | e <;> rw[e] <;> decide
 obtain⟨X0,f0,BI,pf,Bq,Be,Bf⟩:=C;obtain rfl:X0=_:=hX;refine W.go 99 rfl ?_;refine W.Ys (b:=z.z.b) (T:={pc:=.out,left:=l}) (J:=J) uQ.func uQ.name uQ.body uQ.next uQ.find rfl hJ hl r.ro aM rfl rfl rfl rfl rfl (fun f1 c qn hc=>?_) (fun f1 c qn hc nk=>?_)
 ·refine W.go 99 rfl ?_;exact W.iy (r.to _) (.inr ⟨_,rfl⟩) rfl rfl ⟨rfl,f1,c,qn,rfl,.inl ⟨hc,rfl⟩⟩
 ·refine W.go 99 rfl ?_;exact W.iy (r.to _) (.inr ⟨_,rfl⟩) rfl rfl ⟨rfl,f1,c,qn,rfl,.inr ⟨hc,nk,rfl⟩⟩
theorem Eu{i:Nat}(hi:i<z.fl.length):(z.kx i).1∈z.fl:=by
 unfold GZ.kx;simp only;rw[List.getD_eq_getElem?_getD,List.getElem?_eq_getElem hi];exact List.getElem_mem hi
theorem Rz(ok:gj z.ro){i:Nat}(hi:i<z.fl.length):∀j,0≤(z.kx i).1.getD j 0∧(z.kx i).1.getD j 0≤3:=fun j=>by
 obtain⟨_,h2⟩:=js (Eu hi);rw[List.getD_eq_getElem?_getD];cases hj:(z.kx i).1[j]? with
 | none=>exact⟨by simp,by simp⟩
 | some x=>
  obtain⟨g,hg,h3⟩:=h2 j x hj;have:=ok.gl g (List.mem_of_getElem? hg);unfold eo at h3;simp only[Option.getD_some];omega
theorem Z6(ok:gj z.ro){i:Nat}(hi:i<z.fl.length):∀j,j≠i→fb (z.kx j).1≠fb (z.kx i).1:=fun j hj e=>by
 have h4:=ok.g4
 by_cases yw:j<z.fl.length
 ·have e2:=rR ((js (Eu yw)).1.trans (js (Eu hi)).1.symm) (by rw[(js (Eu yw)).1];exact h4) e;unfold GZ.kx at e2;simp only at e2;rw[List.getD_eq_getElem?_getD,List.getElem?_eq_getElem yw,List.getD_eq_getElem?_getD,List.getElem?_eq_getElem hi] at e2;exact hj ((List.getElem_inj (pE _)).1 e2)
 ·have h0:=Rz ok hi 0;have e0:(z.kx j).1=[-1]:=by
   unfold GZ.kx;simp only;rw[List.getD_eq_getElem?_getD,List.getElem?_eq_none (by omega)];rfl
  rw[e0] at e;unfold fb at e;simp only[List.cons.injEq] at e;have h1:(-1:Int)=(z.kx i).1.getD 0 0:=e.1;omega
theorem Uv(ok:gj z.ro):z.fl.length≤256:=by
 refine Nat.le_trans (pD fun g hg=>?_) ?_
 ·have:=ok.gl g hg;omega
 ·exact Nat.pow_le_pow_right (n:=4) (by decide) ok.g4
structure Dw(z:GZ)(ba bx br:Nat)(la:Option Addr)(lc:Nat)(R:LH):Prop where
 h2:R.cell? ⟨ba,0,none⟩=some (.slice la z.fl.length lc)
 la:aX R la 4 cL z.fl
 h3:R.cell? ⟨bx,0,none⟩=some (pt z.X)
 h4:R.cell? ⟨br,4,none⟩=some (.slice z.p.a4 z.ro.ak.length z.p.c4)
 ro:fD R z.ro z.p
theorem Dw.le{ba bx br:Nat}{la:Option Addr}{lc:Nat}{R R':LH}(h:Dw z ba bx br la lc R)(hl:Le R R'):Dw z ba bx br la lc R':=⟨hl.cell h.h2,h.la.le hl,hl.cell h.h3,hl.cell h.h4,h.ro.le hl⟩
noncomputable def wkC:Code:=match Tryz.f210.body with | some (.seq _ (.block _ (.loop c)))=>c | _=>.skip
theorem Og{C:Cx Tryz.prog}{ba bx br:Nat}{la:Option Addr}{lc:Nat}(ok:gj z.ro)(hn:z.n≤6)(hf:C.f=210)(aM:C.kd=.deferred)(bE:C.ro=none)(il:C.cs=[nD]):∀(f l:Nat) (J:Option Nat) (L:LH),(∀i,J=some i→z.z.keep i=false)→Dw z ba bx br la lc L→
  W (C.to (LZ z.z f ⟨.idle,{pc:=.out,left:=l},J⟩)) 27 [dcall 153 #[pt z.W]] [.code wkC,.inLoop wkC,.inBlock 0] [(0,.v (pt z.W)),(1,.v (pt z.N)),(2,.v (pt ba)),(3,.v (pt bx)),(4,.v (pt br))] [] L:=by
 have yo:=Uv ok;intro f
 induction f using Nat.strongRecOn with
 | _ f ih=>
 intro l J L hJ hw;have Zt:C.kd≠.early:=by rw[aM];decide
 refine W.go 99 rfl ?_;refine W.kN (args:=[pt z.N,.int .i64 1]) rfl rfl rfl rfl (Uc f l J L hJ (by omega)) ?_;rintro Y v L1 ⟨rfl,f1,c,qn,rfl,⟨hc,rfl⟩ | ⟨hc,nk,rfl⟩⟩
 ·have e1:IntKind.i64.wrap ((c:Int)+1 - 1)=(c:Int):=by rw[show(c:Int)+1 - 1=(c:Int) by omega];exact wrap64_in _ (by omega) (by omega)
  have yj:=Rz ok hc;have Zv:z.fl[c]?=some (z.kx c).1:=by
   unfold GZ.kx;simp only;rw[List.getD_eq_getElem?_getD,List.getElem?_eq_getElem hc];rfl
  refine W.go 99 rfl ?_;refine W.vf rfl rfl rfl rfl (Vf.load rfl rfl rfl (hw.h2)) ?_;refine W.go 99 rfl ?_;rw[e1];refine W.split rfl rfl rfl (fun d1=>?_) (fun d1=>?_)
  ·exfalso;simp at d1;omega
  refine W.go 99 rfl ?_;have hg:=F1 (X:=LZ z.z f1 ⟨.idle,{pc:=.out,left:=l+1},some c⟩) (b:=z.X) (z.kx c).1 z.p.a4 z.p.c4 z.ro.ak L1 ok ⟨Jb (.inl ⟨by decide,rfl⟩),Jb (.inl ⟨by decide,rfl⟩)⟩ hw.ro.h0 hw.ro.h3 yj hw.ro.h4 ok.si (by have:=ok.s8;omega);obtain⟨a,rfl⟩:=hw.la.addr hc;refine W.drawn (by kernel_rfl) _ (Le.refl _) ?_;refine DD.vf 0 rfl rfl rfl rfl rfl (Vf.load rfl rfl rfl (hw.h3)) ?_;refine DD.vf 1 rfl rfl rfl rfl rfl (Vf.load rfl rfl rfl (hw.h2)) ?_;refine DD.run' [2] rfl ?_;refine DD.vf 3 rfl rfl rfl rfl rfl (Vf.idx rfl rfl rfl rfl rfl rfl (hc)) ?_;refine DD.vf 4 rfl rfl rfl rfl rfl (Vf.cO rfl rfl rfl (hw.la.whole Zv rfl)) ?_;refine DD.run' [5] rfl ?_;refine DD.vf 6 rfl rfl rfl rfl rfl (Vf.load rfl rfl rfl (hw.h4)) ?_;refine DD.run' [8] rfl ?_;refine DD.act 7 rfl rfl rfl rfl rfl (Ef.call rfl (hg)) ((by rintro _ _ _ ⟨_,rfl,rfl,rfl,hl⟩;exact⟨hl,rfl,.inl rfl⟩)) ?_;rintro _ _ _ ⟨_,rfl,rfl,rfl,hle⟩;refine DD.act 9 rfl rfl rfl rfl rfl (Ef.ui rfl) (by rintro _ _ _ ⟨rfl,rfl,rfl⟩;exact⟨hle,rfl,.inr rfl⟩) ?_;rintro _ _ _ ⟨rfl,rfl,rfl⟩;refine .fin rfl ?_;refine W.go 99 rfl ?_;refine W.split rfl rfl rfl (fun d2=>?_) (fun d2=>?_)
  ·refine W.go 99 rfl ?_;refine W.vf rfl rfl rfl rfl (Vf.load rfl rfl rfl ((hw.le hle).h3)) ?_;refine W.go 99 rfl ?_;refine W.kN (args:=[pt z.X,.agg (cF (z.kx c).1 (z.kx c).2 (bz (z.kx c).2)).toArray]) rfl rfl rfl rfl (Vl c (l+1) f1 _ (by omega) d2 (Z6 ok hc)) ?_;rintro Y v _ ⟨f2,jT,rfl,rfl,rfl⟩;refine W.go 3 rfl ?_;refine W.dJ ?_;refine W.cG (E':=[(0,.v (pt z.W)),(1,.v (pt z.N)),(2,.v (pt ba)),(3,.v (pt bx)),(4,.v (pt br))]) (B':=[]) (by exact⟨rfl,rfl,rfl,rfl,rfl,trivial⟩) (by exact trivial) ?_;exact ih f2 (by omega) l none _ (fun i hi=>by cases hi) (hw.le hle)
  ·refine W.go 3 rfl ?_;refine W.dJ ?_;refine W.cG (E':=[(0,.v (pt z.W)),(1,.v (pt z.N)),(2,.v (pt ba)),(3,.v (pt bx)),(4,.v (pt br))]) (B':=[]) (by exact⟨rfl,rfl,rfl,rfl,rfl,trivial⟩) (by exact trivial) ?_;exact ih f1 (by omega) (l+1) (some c) _ (fun i hi=>by obtain rfl:=Option.some.inj hi;exact d2) (hw.le hle)
 ·have e1:IntKind.i64.wrap ((c:Int)+1 - 1)=(c:Int):=by rw[show(c:Int)+1 - 1=(c:Int) by omega];exact wrap64_in _ (by omega) (by omega)
  refine W.go 99 rfl ?_;refine W.vf rfl rfl rfl rfl (Vf.load rfl rfl rfl (hw.h2)) ?_;refine W.go 99 rfl ?_;rw[e1];refine W.split rfl rfl rfl (fun d1=>?_) (fun d1=>?_)
  ·refine W.go 99 rfl ?_;refine W.out bE (.inr .ret) ?_;intro T R β k hT hE hH;have hg:=TU (z:=z) T k;rw[hf,aM,bE,il];cases f1 with
   | zero=>exact Way.stop trivial
   | succ f1=>exact Way.stop ⟨rfl,hg⟩
  ·exfalso;simp at d1;omega
theorem HL{ba bx br:Nat}{la:Option Addr}{lc:Nat}{R:LH}(ok:gj z.ro)(hn:z.n≤6)(hw:Dw z ba bx br la lc R)(f:Nat):Way Tryz.prog false (z.z.b.Φ 353) (nW z.z.b 353 f Ke) (born Tryz.prog ⟨.fn (.func 210) #[pt z.W,pt z.N,pt ba,pt bx,pt br],#[]⟩) R:=by
 refine(LZ z.z f Ke).quiet rfl (FC Tryz.func210 (by kernel_rfl) rfl) ?_;refine W.start (n:=27) (args:=[pt z.W,pt z.N,pt ba,pt bx,pt br]) Tryz.func210 rfl rfl rfl ?_;refine W.go 99 rfl ?_;refine W.DX rfl rfl rfl rfl ?_;refine W.go 3 rfl ?_;refine W.kW ?_;refine W.cG (E':=[(0,.v (pt z.W)),(1,.v (pt z.N)),(2,.v (pt ba)),(3,.v (pt bx)),(4,.v (pt br))]) (B':=[]) (by exact⟨rfl,rfl,rfl,rfl,rfl,trivial⟩) (by exact trivial) ?_;exact Og (C:=⟨LZ z.z f Ke,210,.deferred,none,[nD],R,R⟩) ok hn rfl rfl rfl rfl f 0 none R (fun i hi=>by cases hi) hw
def D4(m:Nat):Code→List Code→Option (Code×List Code)
 | .block l b,k=>if Nat.beq l m then some (b,k) else none
 | .seq a b,k=>match D4 m a (b::k) with
  | some r=>some r
  | none=>D4 m b k
 | _,_=>none
theorem Dm.wk{L L':LH}(h:Dm L L'){z:GZ}{ba bx br:Nat}{la:Option Addr}{lc:Nat}(hw:Dw z ba bx br la lc L):Dw z ba bx br la lc L':=⟨h.cell hw.h2,h.sl hw.la,h.cell hw.h3,h.cell hw.h4,h.ro hw.ro⟩
structure MZ where
 z:GZ
 ba:Nat
 bx:Nat
 br:Nat
 d:Nat
 la:Option Addr
 lc:Nat
 L0:LH
 R0:LH
 kd:CallKind
 c:Frame
 cs:List Frame
 Post:Value→World→Prop
 W0:World
abbrev MZ.wk(m:MZ)(L:LH):Prop:=Dw m.z m.ba m.bx m.br m.la m.lc L
def TB(m:MZ)(b:Nat):Prop:=(m.L0 b=none∧m.R0 b≠none)∨b=m.d
open Classical in
noncomputable def Ac (m:MZ)(R:LH):LH:=fun b=>if TB m b then none else R b
theorem Vz(m:MZ)(R:LH):Le (Ac m R) R:=fun b x hx=>by
 unfold Ac at hx
 split at hx
 ·cases hx
 ·exact hx
theorem NL{m:MZ}{R R':LH}(h:Le R R'):Le (Ac m R) (Ac m R'):=fun b x hx=>by
 unfold Ac at hx ⊢
 split at hx
 ·cases hx
 ·rename_i hf;rw[if_neg hf];exact h b x hx
structure sD(m:MZ)(R:LH):Prop where
 at_:m.wk (Ac m R)
 keep:∀b x,m.L0 b=none→m.R0 b=some x→R b=some x
 gP:∀b o wr,m.L0 b=some (o,wr)→∃ep,R b=some (o,ep)
 dd:R m.d=some (.deferred (some []),true)
theorem sD.le{m:MZ}{R R':LH}(h:sD m R)(hl:Le R R'):sD m R':=
 ⟨(Dm.of_le (NL hl)).wk h.at_,fun b x h1 h2=>hl _ _ (h.keep b x h1 h2),fun b o wr hb=>let⟨w1,h1⟩:=h.gP b o wr hb;⟨w1,hl _ _ h1⟩,hl _ _ h.dd⟩
theorem sD.wk{m:MZ}{R:LH}(h:sD m R):m.wk R:=(Dm.of_le (Vz m R)).wk h.at_
open Classical in
noncomputable def y6 (m:MZ)(R:LH):LH:=fun b=>if TB m b then R b else(R b).map fun x=>(x.1,false)
open Classical in
noncomputable def Dk (m:MZ)(R:LH):LH:=fun b=>if TB m b then none else(R b).map fun x=>(x.1,false)
section
variable {m:MZ}{R Rs:LH}
theorem yN{x:Option (Obj×Bool)}{o:Obj}{wr:Bool}(h:(x.map fun x=>(x.1,false))=some (o,wr)):wr=false∧∃ep,x=some (o,ep):=by
 cases x with
 | none=>cases h
 | some y=>obtain⟨o',w'⟩:=y;cases h;exact⟨rfl,_,rfl⟩
theorem OG{b:Nat}{o:Obj}{wr:Bool}(h:y6 m R b=some (o,wr)):∃ep,R b=some (o,ep)∧(wr=true→ep=true):=by
 unfold y6 at h
 split at h
 ·exact⟨wr,h,id⟩
 ·obtain⟨rfl,w',h'⟩:=yN h;exact⟨w',h',fun e=>by cases e⟩
theorem OE{b:Nat}{o:Obj}{wr:Bool}(h:Dk m R b=some (o,wr)):∃ep,R b=some (o,ep)∧(wr=true→ep=true):=by
 unfold Dk at h
 split at h
 ·cases h
 ·obtain⟨rfl,w',h'⟩:=yN h;exact⟨w',h',fun e=>by cases e⟩
theorem Lz1{b:Nat}{o:Obj}(h:y6 m R b=some (o,true)):Dk m R b=none:=by
 unfold y6 at h;unfold Dk
 split at h
 ·rename_i h2;rw[if_pos h2]
 ·have:=(yN h).1;cases this
theorem Lz2{b:Nat}{o:Obj}(h:Dk m R b=some (o,true)):y6 m R b=none:=by
 unfold Dk at h
 split at h
 ·cases h
 ·have:=(yN h).1;cases this
theorem TF(hl:Le Rs R):Dm (Ac m Rs) (Dk m R):=fun b o wr hb=>by
 unfold Ac at hb
 split at hb
 ·cases hb
 ·rename_i hf;unfold Dk;rw[if_neg hf,hl _ _ hb];exact⟨false,rfl⟩
theorem OF(h:sD m Rs)(hl:Le Rs R):sD m (y6 m R):=by
 refine⟨Dm.wk (fun b o wr hb=>?_) h.at_,fun b x h1 h2=>?_,fun b o wr hb=>?_,?_⟩
 ·unfold Ac at hb ⊢
  split at hb
  ·cases hb
  ·rename_i hf;rw[if_neg hf];unfold y6;rw[if_neg hf,hl _ _ hb];exact⟨false,rfl⟩
 ·have h3:=h.keep b x h1 h2;unfold y6;rw[if_pos (.inl ⟨h1,by rw[h2];simp⟩)];exact hl _ _ h3
 ·obtain⟨w1,h1⟩:=h.gP b o wr hb;unfold y6
  split
  ·exact⟨w1,hl _ _ h1⟩
  ·rw[hl _ _ h1];exact⟨false,rfl⟩
 ·unfold y6;rw[if_pos (.inr rfl)];exact hl _ _ h.dd
end
section
variable {b:aQ}{nt:Nat}{Post:Value→World→Prop}{W0:World}{Anch:Goroutine→LH→Prop}
theorem Ic(z:GZ):∀w,z.z.b.Φ 353 w→WgLive 284 z.W w:=fun _ h=>h.1
theorem OS(z:GZ)(Nx:Goroutine→LH→Prop):Oq (z.z.b.Φ 353) z.W (fun g L=>g.status=.running∧Ox z.z.b 353 Nx g L) (fun g L=>g.status=.running∧Ou z.z.b 353 Nx g L) (fun g L=>g.status=.running∧XV z.z.b 353 Nx g L) (fun g L=>g.status=.running∧Tx z.z.b 353 Nx g L) (fun g L=>g.status=.running∧Ow z.z.b 353 Nx g L) where
 h1:=fun g g' L h1 h2 h3=>⟨h1,g',h2,h3⟩
 h2:=fun g L h1 h2=>⟨h1,h2⟩
 h3:=fun g g' L h1 h2 h3=>⟨h1,g',h2,h3⟩
 h4:=fun g g' L h1 h2 h3=>⟨h1,g',h2,h3⟩
theorem OV{mn:Bool}{Φ:World→Prop}{V:Nat}{Y:ax Tryz.prog}{g:Goroutine}{R:LH}(h:LS mn Φ V Y g R):g.status=.running:=by
 obtain⟨T,kd,c,cs,_,_,_,rfl,_⟩:=h
 rfl
noncomputable abbrev yW (z:GZ)(Post:Value→World→Prop)(W0:World)(hxb:z.X≠z.B):Goroutine→LH→Prop:=LS true (z.z.b.Φ 353) z.W (X1 z.z.b Post W0 hxb)
theorem Dg(z:GZ)(hxb:z.X≠z.B):sY true (z.z.b.Φ 353) z.W (fun g L=>g.status=.running∧Kh z.z.b 353 Post W0 (yW z Post W0 hxb) g L) (fun g L=>g.status=.running∧LV z.z.b 353 Post W0 (yW z Post W0 hxb) g L) (fun vs g L=>g.status=.running∧Ov z.z.b 353 Post W0 (yW z Post W0 hxb) vs g L)
  (fun g L=>g.status=.running∧HP z.z.b 353 Post W0 g L) (fun g L=>g.status=.running∧Kj z.z.b 353 Post W0 g L) (fun g L=>g.status=.running∧XU z.z.b 353 Post W0 g L) (fun g L=>g.status=.running∧Ki z.z.b 353 Post W0 g L) (fun g L=>g.status=.running∧Kg z.z.b Post W0 g L) (X1 z.z.b Post W0 hxb) (yW z Post W0 hxb) where
 h1:=fun g g' L h1 h2 h3=>⟨h1,g',h2,h3⟩
 h2:=fun g L h1 h2 h3=>⟨h1,h2,h3⟩
 h3:=fun vs g L h1 h2 h3=>⟨h1,h2,let⟨g',a,b⟩:=h3;⟨g',a,b.bind fun g L ha=>.stop ⟨OV ha,ha⟩⟩⟩
 h4:=fun g g' L h1 h2 h3=>⟨h1,g',h2,h3⟩
 h5:=fun g L h1 h2 h3 h4=>⟨h1,h1,h2,h3,h4⟩
 h6:=fun g L h1 h2=>⟨h1,h2⟩
 h7:=fun g g' L h1 h2 h3=>⟨h1,g',h2,h3⟩
 h8:=fun g g' L h1 h2 h3=>⟨h1,g',h2,fun K st sm hK=>h3 K st sm hK⟩
end
noncomputable def XL:Code×List Code:=((Tryz.f161.body.bind (D4 2 · [])).getD (.skip,[]))
noncomputable def nrC:Code:=match XL.1 with | .loop c=>c | _=>.skip
noncomputable def nrK:List Item:=.inBlock 2::XL.2.map .code
structure Wz(m:MZ):Prop where
 ok:gj m.z.ro
 n4:m.z.n=4
 xb:m.z.X≠m.z.B
 kd:m.kd=.normal∨m.kd=.wrapped
 ret:∀R R' K st sm,m.z.z.b.OD K→sD m R→R m.z.X=none→R m.z.B=none→Le ((((R.put m.z.X (m.z.z.b.xo st sm)).put m.z.B (m.z.z.b.ob K))).put m.d (.deferred none)) R'→nV Tryz.prog m.Post m.W0 (G (m.c.finish (pt m.z.X)) m.cs) R'
section
variable {m:MZ}
noncomputable def X8 (m:MZ)(An:Goroutine→LH→Prop):Nat→ax Tryz.prog
 | 0=>gy Tryz.prog true (m.z.z.b.Φ 353) (fun g L=>g.status=.running∧Kh m.z.z.b 353 m.Post m.W0 An g L)
 | r+1=>gy Tryz.prog true (m.z.z.b.Φ 353) (fun g L=>g.status=.running∧Ox m.z.z.b 353 (sT m.z.z.b 353 m.Post m.W0 An r) g L)
theorem Ko(m:MZ)(An:Goroutine→LH→Prop)(r:Nat):(X8 m An r).Go=sT m.z.z.b 353 m.Post m.W0 An r:=by cases r <;> rfl
def eZ(m:MZ)(k:Nat):Env:=[(1,.v (pt m.br)),(3,.v (pt m.bx)),(4,.v (pt m.ba)),(6,.v (pt m.z.N)),(7,.v (pt m.z.W)),(19,.v (.int .i64 k))]
theorem R3(hz:Wz m):∀(r k:Nat),k+r=4→∀R,sD m R→W (⟨X8 m (yW m.z m.Post m.W0 hz.xb) r,161,m.kd,none,m.c::m.cs,R,R⟩:Cx Tryz.prog) 26 [⟨.collected m.d,#[]⟩] (.code nrC::.inLoop nrC::nrK) (eZ m k) [] R:=by
 have aM:m.kd≠.early:=by rcases hz.kd with e | e <;> rw[e] <;> decide
 intro r
 induction r with
 | zero=>
  intro k hk R hR;obtain rfl:k=4:=by omega
  unfold eZ;refine W.go 99 rfl ?_;refine W.split rfl rfl rfl (fun c=>absurd c (by decide)) (fun c=>?_);refine W.go 99 rfl ?_;refine W.kN (args:=[iB (stA m.z.W)]) rfl rfl rfl rfl (Tk (Ic m.z) (Dg (Post:=m.Post) (W0:=m.W0) m.z hz.xb) R) ?_;rintro Y v _ ⟨rfl,rfl,rfl⟩;refine W.go 3 rfl ?_;refine W.cG (E':=[(3,.v (pt m.bx))]) (B':=[]) (by exact⟨rfl,trivial⟩) (by exact trivial) ?_;refine W.join (b:=m.z.z.b) (hxb:=hz.xb) rfl rfl fun R1 K st sm hle hK hx hb=>?_;have h1:=hR.le hle;have hxb:m.z.X≠m.z.B:=hz.xb;have Ct:Le R1 ((R1.put m.z.X (m.z.z.b.xo st sm)).put m.z.B (m.z.z.b.ob K)):=(Le.put hx _).trans (Le.put (by rw[au _ _ hxb.symm];exact hb) _);refine W.go 99 rfl ?_;refine W.vf rfl rfl rfl rfl (Vf.load rfl rfl rfl (Ct.cell h1.wk.h3)) ?_;refine W.go 99 rfl ?_;refine W.out rfl (.inr .ret) (WM.collected rfl (Ct _ _ h1.dd) ?_);exact WM.ret (Q:=fun v L'=>v=pt m.z.X∧L'=(((R1.put m.z.X (m.z.z.b.xo st sm)).put m.z.B (m.z.z.b.ob K))).put m.d (.deferred none)) (H:=fun _ _=>False) ⟨Tryz.func161,rfl,hz.kd,m.c,m.cs,rfl,fun v R' L' hq hp=>by
   obtain⟨rfl,rfl⟩:=hq;exact hz.ret R1 R' K st sm hK h1 hx hb hp.le,fun _ _ _ (h:False) _=>h.elim⟩ rfl rfl ⟨rfl,rfl⟩
 | succ r ih=>
  intro k hk R hR;unfold eZ;refine W.go 99 rfl ?_;refine W.split rfl rfl rfl (fun e=>?_) (fun e=>absurd (Int.ofNat_lt.2 (show k<4 by omega)) (of_decide_eq_false e));refine W.go 99 rfl ?_;refine W.kN (args:=[iB (stA m.z.W),.int .i64 1]) rfl rfl rfl rfl (TP (Ic m.z) (OS m.z (sT m.z.z.b 353 m.Post m.W0 (yW m.z m.Post m.W0 hz.xb) r)) R) ?_;rintro Y v L1 ⟨rfl,rfl,rfl⟩;refine W.go 99 rfl ?_;refine W.cG (E':=eZ m k++[(22,.f (.func 210) [] [.v (pt m.z.W),.v (pt m.z.N),.v (pt m.ba),.v (pt m.bx),.v (pt m.br)])]) (B':=[]) (by exact⟨rfl,rfl,rfl,rfl,rfl,rfl,rfl,trivial⟩) (by exact trivial) ?_;unfold eZ;refine W.V6 (mn:=true) (Φ:=m.z.z.b.Φ 353) (S1:=fun g L=>g.status=.running∧Ow m.z.z.b 353 (sT m.z.z.b 353 m.Post m.W0 (yW m.z m.Post m.W0 hz.xb) r) g L) rfl rfl aM rfl rfl rfl rfl rfl fun R2 g0 g' cx jX hle cont=>?_;refine⟨cx,g',_,y6 m R2,Dk m R2,fun w _=>jX w,fun b o wr h=>OG h,fun b o wr h=>OE h,fun b o h=>Lz1 h,fun b o h=>Lz2 h,fun f=>HL hz.ok (by rw[hz.n4];decide) ((TF hle).wk hR.at_) f,?_⟩;have hL:=OF hR hle;rw[←Ko];refine cont (X8 m (yW m.z m.Post m.W0 hz.xb) r) _ ?_;refine W.go 99 rfl ?_;refine W.dJ (W.again (ih (k+1) (by omega) _ hL) ?_ (by exact trivial));exact⟨rfl,rfl,rfl,rfl,rfl,congrArg some (bu (by omega)),trivial⟩
end
end Go.Mz
set_option maxRecDepth 100000
namespace Go.Mz
open Go.Conc Go.Proofs
variable {X:ax Tryz.prog}
structure TH(bb bc:Nat)(ro:Ro)(p:BP)(L:LH):Prop where
 c:L.cell? ⟨bc,0,none⟩=some (pt bb)
 g:L.cell? ⟨bb,0,none⟩=some (.slice p.a0 ro.ai.length p.c0)
 at_:aX L p.a0 4 eY ro.ai
theorem TH.le{bb bc:Nat}{ro:Ro}{p:BP}{L L':LH}(h:TH bb bc ro p L)(hl:Le L L'):TH bb bc ro p L':=⟨hl.cell h.c,hl.cell h.g,h.at_.le hl⟩
abbrev Yt(f:List Int):List Value:=[.agg (cL f).toArray]
theorem Sj{f:List Int}{i:Nat}(hi:i<f.length)(h4:f.length≤4)(x:Int):sQ ((cL f).map SV.v) (0+i * 1) [.v (.int .i64 x)]=(cL (f.set i x)).map SV.v:=by
 rcases f with _ | ⟨a,_ | ⟨b,_ | ⟨c,_ | ⟨d,_ | ⟨e,f⟩⟩⟩⟩⟩ <;> simp only[List.length_cons,List.length_nil] at hi h4 <;> rcases i with _ | _ | _ | _ | i <;> first | rfl | omega
theorem WO(f:List Int){i:Nat}(hi:i<4):nth ((cL f).map SV.v) (0+i * 1)=some (.v (.int .i64 (f.getD i 0))):=by
 match i,hi with
 | 0,_=>rfl
 | 1,_=>rfl
 | 2,_=>rfl
 | 3,_=>rfl
theorem Uf(n:Nat):cL (List.replicate n 0)=cL []:=by
 have h:∀i,(List.replicate n (0:Int)).getD i 0=0:=fun i=>by
  rw[List.getD_eq_getElem?_getD,List.getElem?_replicate]
  split <;> rfl
 unfold cL fb;rw[h,h,h,h];rfl
theorem Ab:∀{l:List Gl} {f:List Int},f.length=l.length→(eM l f).length=l.length
 | [],[],_=>rfl
 | g::l,x::f,h=>by
  unfold eM
  split
  ·simpa using h
  ·rw[List.length_cons,Ab (by simpa using h),List.length_cons]
theorem CK{bb bc:Nat}{ro:Ro}{p:BP}(ok:gj ro):Iter X 232 [pt bc] Yt (aS ro.ai) (TH bb bc ro p):=by
 intro yv J Z L hY hJ;obtain⟨yf,yt,yc,rfl⟩:=hY.fn;have hJ0:=Md.zero hJ;have g1:=ok.g1;have g4:=ok.g4;have Ek:=hY.inv _ _ hJ;obtain⟨a0,a1,a2,a3,a4,k0,k1,k2,k3,k4⟩:=p;obtain⟨a,ha⟩:=Ek.at_.addr (show 0<ro.ai.length by omega);obtain rfl:a0=some a:=ha;have pI:∀i (hi:i<ro.ai.length),(dp ro.ai)[i]?=some ro.ai[i].bI.lo:=fun i hi=>by unfold dp;rw[List.getElem?_map,List.getElem?_eq_getElem hi];rfl
 have nm:(dp ro.ai).length=ro.ai.length:=by unfold dp;simp
 refine Sp.enter (n:=63) Tryz.func232 rfl rfl rfl rfl fun C hX _ aG r=>?_;refine W.go 99 rfl ?_;refine W.vf rfl rfl rfl rfl (Vf.load rfl rfl rfl (Ek.c)) ?_;refine W.go 99 rfl ?_;refine W.vf rfl rfl rfl rfl (Vf.load rfl rfl rfl (Ek.g)) ?_;refine W.go 99 rfl ?_;refine W.loop (fun m' E B L'=>∃i:Nat,m'=ro.ai.length - i∧i≤ro.ai.length∧L'=L∧
   E=[(0,.v (.func yf yt yc)),(1,.v (pt bc)),(3,.p 0 0),(13,.v (.slice (some a) ro.ai.length k0)),(14,.v (.int .i64 ro.ai.length)),(15,.v (.int .i64 i))]∧B=[some ⟨(cL ((dp ro.ai).take i++List.replicate (ro.ai.length - i) 0)).map .v,236⟩])
  ⟨0,rfl,by omega,rfl,rfl,rfl⟩ (by exact⟨rfl,rfl,rfl,rfl,rfl,rfl,trivial⟩) (by rw[show cL ((dp ro.ai).take 0++List.replicate (ro.ai.length - 0) 0)=cL [] by rw[List.take_zero,List.nil_append];exact Uf _];exact⟨rfl,trivial⟩) ?_ rfl (gX _ _ rfl)
 rintro _ _ _ L1 ⟨i,rfl,hi,rfl,rfl,rfl⟩ again;refine W.go 99 rfl ?_;refine W.split rfl rfl rfl (fun d1=>?_) (fun d1=>?_)
 ·have hi:i<ro.ai.length:=by simpa using d1
  refine W.go 99 rfl ?_;have hx:=List.getElem?_eq_getElem hi;refine W.vf rfl rfl rfl rfl (Vf.idx rfl rfl rfl rfl rfl rfl (hi)) ?_;refine W.go 99 rfl ?_;refine W.vf rfl rfl rfl rfl (Vf.cO rfl rfl rfl (Ek.at_.whole hx rfl)) ?_;refine W.go 99 rfl ?_;refine W.vf rfl rfl rfl rfl (Vf.oX rfl rfl rfl rfl rfl rfl (show i<4 by omega)) ?_;have hl:((dp ro.ai).take i++List.replicate (ro.ai.length - i) (0:Int)).length=ro.ai.length:=by simp;omega
  refine W.dY rfl rfl (Ef.Hx rfl rfl rfl rfl rfl (by exact rfl) (by exact(show 0+i * 1+1≤4 by omega)) (by exact rfl) (by exact(Sj (f:=(dp ro.ai).take i++List.replicate (ro.ai.length - i) 0) (i:=i) (by omega) (by omega) _))) ?_;rintro _ _ _ ⟨rfl,rfl,rfl⟩;refine W.go 99 rfl ?_;have hF:((dp ro.ai).take i++List.replicate (ro.ai.length - i) (0:Int)).set i ro.ai[i].bI.lo=(dp ro.ai).take (i+1)++List.replicate (ro.ai.length - (i+1)) 0:=by
   refine List.ext_getElem? fun j=>?_;rw[List.getElem?_set,hl,List.getElem?_append,List.getElem?_append,List.getElem?_take,List.getElem?_take,List.getElem?_replicate,List.getElem?_replicate,List.length_take,List.length_take,nm,Nat.min_eq_left (by omega),Nat.min_eq_left (by omega)]
   by_cases e:i=j
   ·subst e;rw[if_pos rfl,if_pos hi,if_pos (by omega:i<i+1),if_pos (by omega:i<i+1),pI i hi]
   ·rw[if_neg e]
    by_cases h1:j<i
    ·rw[if_pos h1,if_pos h1,if_pos (by omega:j<i+1),if_pos (by omega:j<i+1)]
    ·rw[if_neg h1,if_neg (by omega:¬j<i+1)]
     by_cases h2:j<ro.ai.length
     ·rw[if_pos (by omega:j - i<ro.ai.length - i),if_pos (by omega:j - (i+1)<ro.ai.length - (i+1))]
     ·rw[if_neg (by omega:¬j - i<ro.ai.length - i),if_neg (by omega:¬j - (i+1)<ro.ai.length - (i+1))]
  exact W.again (again _ _ _ _ (by omega) ⟨i+1,rfl,by omega,rfl,rfl,rfl⟩) (by exact⟨rfl,rfl,rfl,rfl,rfl,congrArg some (bu (by omega)),trivial⟩) (by exact⟨congrArg (fun f=>some (⟨(cL f).map SV.v,236⟩:Bx)) hF,trivial⟩) rfl (gX _ _ rfl)
 ·have iZ:i=ro.ai.length:=by simp at d1;omega
  subst iZ;clear again;rw[Nat.sub_self,List.replicate_zero,List.append_nil,←nm,List.take_length,nm];refine W.go 10 rfl ?_;obtain⟨abI,hhd,Xy⟩:=zC (l:=ro.ai) fun g hg=>by have:=ok.gl g hg;omega
  have fZ:=pE ro.ai;refine W.pt (fun m' E B L'=>∃(k:Nat) (f:List Int),m'=(aS ro.ai).length - k∧(aS ro.ai)[k]?=some f∧Md J oY ((aS ro.ai).take k) L'∧
    E=[(0,.v (.func yf yt yc)),(1,.v (pt bc)),(3,.p 0 0),(6,.p 1 0)]∧B=[some ⟨(cL f).map .v,236⟩,some ⟨(cL (dp ro.ai)).map .v,236⟩])
   ⟨0,dp ro.ai,rfl,by rw[←List.head?_eq_getElem?];exact hhd,hJ0,rfl,rfl⟩ (by exact⟨rfl,rfl,rfl,rfl,trivial⟩) (by exact⟨rfl,rfl,trivial⟩) ?_ rfl (gX _ _ (gX _ _ rfl))
  rintro _ _ _ L2 ⟨k,f,rfl,hk,hJk,rfl,rfl⟩ again;have UR:=(List.getElem?_eq_some_iff.1 hk).1;obtain⟨yo,hfm⟩:=js (List.mem_of_getElem? hk);have jX:aS ro.ai=(aS ro.ai).take k++f::(aS ro.ai).drop (k+1):=by
   rw[←(List.getElem?_eq_some_iff.1 hk).2,List.getElem_cons_drop,List.take_append_drop]
  refine W.go 99 rfl ?_;have hYF:=hY.frame (fun _ _ hl h=>h.le hl) oY;have hy:=hYF.yl _ _ _ L2 jX hJk;rw[←hX] at hy;refine W.aB rfl rfl rfl (Ef.DN rfl rfl rfl hy) ?_;rintro _ _ _ ⟨_,rfl,rfl,hq⟩;rcases hq with⟨rfl,hq⟩ | ⟨rfl,hq⟩
  ·have eI:(aS ro.ai).take k++[f]=(aS ro.ai).take (k+1):=by
    rw[List.take_add_one,hk];rfl
   rw[eI] at hq;have lK:=(hYF.inv _ _ hq).1;refine W.go 99 rfl ?_;refine W.split rfl rfl rfl (fun c=>absurd c (by decide)) (fun c=>?_);refine W.go 99 rfl ?_;refine W.vf rfl rfl rfl rfl (Vf.load rfl rfl rfl (lK.c)) ?_;refine W.go 99 rfl ?_;refine W.vf rfl rfl rfl rfl (Vf.load rfl rfl rfl (lK.g)) ?_;refine W.go 99 rfl ?_;rename_i L3;refine W.KA (fun E' B' L'=>∃f',f'=eM ro.ai f∧L'=L3∧gk E' [(0,.v (.func yf yt yc)),(1,.v (pt bc)),(3,.p 0 0),(6,.p 1 0)]∧oD B' [some ⟨(cL f').map .v,236⟩,some ⟨(cL (dp ro.ai)).map .v,236⟩]) ?_ ?_
   ·rintro E' B' _ ⟨f',rfl,rfl,lH,YF⟩;refine W.cG lH YF ?_ rfl (gX _ _ (gX _ _ rfl));refine W.go 99 rfl ?_;refine W.vf rfl rfl rfl rfl (Vf.eqS (xs:=fb (eM ro.ai f)) (ys:=fb (dp ro.ai)) (.inr rfl) rfl rfl rfl rfl (by kernel_rfl) (fun n Q H R=>rO (d:=n+1) Tryz.underlying236 Tryz.underlying3 xe BT rfl rfl)) ?_;have oo:(eM ro.ai f).length=ro.ai.length:=Ab yo
    by_cases tM:k+1<(aS ro.ai).length
    ·have hn:=abI.get k f _ hk (List.getElem?_eq_getElem tM);have aY:eM ro.ai f≠dp ro.ai:=fun e=>by
      rw[←hn] at e;have h0:(aS ro.ai)[0]?=some (dp ro.ai):=by rw[←List.head?_eq_getElem?];exact hhd
      obtain⟨h00,h01⟩:=List.getElem?_eq_some_iff.1 h0;have:=(List.getElem_inj fZ (h₀:=tM) (h₁:=h00)).1 (e.trans h01.symm);omega
     rw[show yg .neq (decide (fb (eM ro.ai f)=fb (dp ro.ai)))=true by
      rw[decide_eq_false (fun e=>aY (rR (oo.trans nm.symm) (by omega) e))];rfl]
     refine W.go 99 rfl ?_;refine W.split rfl rfl rfl (fun c=>?_) (fun c=>absurd c (by decide));refine W.go 1 rfl ?_;refine W.goto rfl ?_;refine W.go 2 rfl ?_;exact W.again (again _ _ _ _ (by omega) ⟨k+1,eM ro.ai f,rfl,by rw[List.getElem?_eq_getElem tM,hn],hq,rfl,rfl⟩) ⟨rfl,rfl,rfl,rfl,trivial⟩ ⟨rfl,rfl,trivial⟩ rfl (gX _ _ (gX _ _ rfl))
    ·have Zt:k+1=(aS ro.ai).length:=by omega
     have hfh:f=KU ro.ai:=by
      rw[List.getLast?_eq_getElem?,←Zt,Nat.add_sub_cancel,hk] at Xy;exact Option.some.inj Xy
     have he:eM ro.ai f=dp ro.ai:=by rw[hfh];exact Aa _
     rw[he];rw[show yg .neq (decide (fb (dp ro.ai)=fb (dp ro.ai)))=false by rw[decide_eq_true rfl];rfl];refine W.go 99 rfl ?_;refine W.split rfl rfl rfl (fun c=>absurd c (by decide)) (fun c=>?_);refine W.go 99 rfl ?_;rw[Zt,List.take_length] at hq;exact W.lP r rfl rfl ⟨rfl,.inl hq⟩
   ·intro back;refine W.loop (fun m' E B L'=>∃i:Nat,m'=ro.ai.length - i∧i≤ro.ai.length∧L'=L3∧eM ro.ai f=(dp ro.ai).take i++eM (ro.ai.drop i) (f.drop i)∧
      E=[(0,.v (.func yf yt yc)),(1,.v (pt bc)),(3,.p 0 0),(6,.p 1 0),(35,.v (.slice (some a) ro.ai.length k0)),(36,.v (.int .i64 ro.ai.length)),(37,.v (.int .i64 i))]∧B=[some ⟨(cL ((dp ro.ai).take i++f.drop i)).map .v,236⟩,some ⟨(cL (dp ro.ai)).map .v,236⟩])
     ⟨0,rfl,by omega,rfl,by simp,rfl,rfl⟩ (by exact⟨rfl,rfl,rfl,rfl,rfl,rfl,rfl,trivial⟩) (by exact⟨rfl,rfl,trivial⟩) ?_ rfl (gX _ _ (gX _ _ rfl))
    rintro _ _ _ _ ⟨i,rfl,hi,rfl,jf,rfl,rfl⟩ TQ;refine W.go 99 rfl ?_;refine W.split rfl rfl rfl (fun d2=>?_) (fun d2=>?_)
    ·have hi:i<ro.ai.length:=by simpa using d2
     refine W.go 99 rfl ?_;have hx:=List.getElem?_eq_getElem hi;have UP:i<f.length:=by omega
     have hgm:=ok.gl _ (List.getElem_mem hi);have IM:=hfm i _ (List.getElem?_eq_getElem UP);obtain⟨g,fe,oS⟩:=IM;rw[hx] at fe;obtain rfl:=Option.some.inj fe;unfold eo at oS;have hdg:ro.ai.drop i=ro.ai[i]::ro.ai.drop (i+1):=List.drop_eq_getElem_cons hi;have fF:f.drop i=f[i]::f.drop (i+1):=List.drop_eq_getElem_cons UP;have ec:((dp ro.ai).take i++f.drop i).length=ro.ai.length:=by rw[List.length_append,List.length_take,List.length_drop,nm,yo];omega
     have aU:((dp ro.ai).take i).length=i:=by rw[List.length_take,nm];omega
     have Gc:((dp ro.ai).take i++f.drop i).getD i 0=f[i]:=by
      rw[fF,List.getD_eq_getElem?_getD,List.getElem?_append_right (by omega),aU,Nat.sub_self];rfl
     have sM:∀x:Int,((dp ro.ai).take i++f.drop i).set i x=(dp ro.ai).take i++x::f.drop (i+1):=fun x=>by
      rw[List.set_append_right _ _ (by omega),aU,Nat.sub_self,fF];rfl
     refine W.vf rfl rfl rfl rfl (Vf.idx rfl rfl rfl rfl rfl rfl (hi)) ?_;refine W.go 99 rfl ?_;refine W.vf rfl rfl rfl rfl (Vf.cO rfl rfl rfl (lK.at_.whole hx rfl)) ?_;refine W.go 99 rfl ?_;refine W.vf rfl rfl rfl rfl (Vf.oX rfl rfl rfl rfl rfl rfl (show i<4 by omega)) ?_;refine W.vf rfl rfl rfl rfl (Vf.zW rfl rfl rfl rfl (WO ((dp ro.ai).take i++f.drop i) (show i<4 by omega))) ?_;refine W.go 99 rfl ?_;rw[Gc,wrap64_in (f[i]+1) (by omega) (by omega)];refine W.vf rfl rfl rfl rfl (Vf.oX rfl rfl rfl rfl rfl rfl (show i<4 by omega)) ?_;refine W.dY rfl rfl (Ef.Hx rfl rfl rfl rfl rfl (by exact rfl) (by exact(show 0+i * 1+1≤4 by omega)) (by exact rfl) (by exact(Sj (f:=(dp ro.ai).take i++f.drop i) (i:=i) (by omega) (by omega) _))) ?_;rintro _ _ _ ⟨rfl,rfl,rfl⟩;rw[sM];refine W.go 99 rfl ?_;have bZ:((dp ro.ai).take i++(f[i]+1)::f.drop (i+1)).length=ro.ai.length:=by rw[←sM,List.length_set,ec]
     have Zn:((dp ro.ai).take i++(f[i]+1)::f.drop (i+1)).getD i 0=f[i]+1:=by
      rw[List.getD_eq_getElem?_getD,List.getElem?_append_right (by omega),aU,Nat.sub_self];rfl
     have ZV:∀x:Int,((dp ro.ai).take i++(f[i]+1)::f.drop (i+1)).set i x=(dp ro.ai).take i++x::f.drop (i+1):=fun x=>by
      rw[List.set_append_right _ _ (by omega),aU,Nat.sub_self];rfl
     refine W.drawn (by kernel_rfl) _ (Le.refl _) ?_;refine DD.run' [0] rfl ?_;refine DD.vf 1 rfl rfl rfl rfl rfl (Vf.oX rfl rfl rfl rfl rfl rfl ((show i<4 by omega))) ?_;refine DD.vf 2 rfl rfl rfl rfl rfl (Vf.zW rfl rfl rfl rfl ((WO ((dp ro.ai).take i++(f[i]+1)::f.drop (i+1)) (show i<4 by omega)))) ?_;refine DD.run' [3,4,5,6] rfl ?_;refine .fin rfl ?_;rw[Zn];refine W.split rfl rfl rfl (fun d3=>?_) (fun d3=>?_)
     ·refine W.go 2 rfl ?_;have hn:eM ro.ai f=(dp ro.ai).take i++(f[i]+1)::f.drop (i+1):=by
       rw[jf,hdg,fF];show _++(if f[i]+1≤ro.ai[i].bI.hi then _ else _)=_;rw[if_pos (by simpa using d3)]
      exact back _ _ _ ⟨_,rfl,rfl,⟨rfl,rfl,rfl,rfl,trivial⟩,by rw[hn];exact⟨rfl,rfl,trivial⟩⟩
     ·refine W.go 99 rfl ?_;refine W.vf rfl rfl rfl rfl (Vf.oX rfl rfl rfl rfl rfl rfl (show i<4 by omega)) ?_;refine W.dY rfl rfl (Ef.Hx rfl rfl rfl rfl rfl (by exact rfl) (by exact(show 0+i * 1+1≤4 by omega)) (by exact rfl) (by exact(Sj (f:=(dp ro.ai).take i++(f[i]+1)::f.drop (i+1)) (i:=i) (by omega) (by omega) _))) ?_;rintro _ _ _ ⟨rfl,rfl,rfl⟩;rw[ZV];refine W.go 99 rfl ?_;have hn:eM ro.ai f=(dp ro.ai).take (i+1)++eM (ro.ai.drop (i+1)) (f.drop (i+1)):=by
       rw[jf,hdg,fF];show _++(if f[i]+1≤ro.ai[i].bI.hi then _ else ro.ai[i].bI.lo::eM _ _)=_;rw[if_neg (by simpa using d3),List.take_add_one,pI i hi];simp
      have hB:(dp ro.ai).take i++ro.ai[i].bI.lo::f.drop (i+1)=(dp ro.ai).take (i+1)++f.drop (i+1):=by
       rw[List.take_add_one,pI i hi];simp
      exact W.again (TQ _ _ _ _ (by omega) ⟨i+1,rfl,by omega,rfl,hn,rfl,rfl⟩) (by exact⟨rfl,rfl,rfl,rfl,rfl,rfl,congrArg some (bu (by omega)),trivial⟩) (by exact⟨congrArg (fun f=>some (⟨(cL f).map SV.v,236⟩:Bx)) hB,rfl,trivial⟩) rfl (gX _ _ (gX _ _ rfl))
    ·have iZ:i=ro.ai.length:=by simp at d2;omega
     subst iZ;refine W.go 2 rfl ?_;have hn:eM ro.ai f=(dp ro.ai).take ro.ai.length++f.drop ro.ai.length:=by
      rw[jf,List.drop_of_length_le (Nat.le_refl _),List.drop_of_length_le (by omega)];rfl
     exact back _ _ _ ⟨_,rfl,rfl,⟨rfl,rfl,rfl,rfl,trivial⟩,by rw[hn];exact⟨rfl,rfl,trivial⟩⟩
  ·refine W.go 99 rfl ?_;refine W.split rfl rfl rfl (fun c=>?_) (fun c=>absurd c (by decide));refine W.go 99 rfl ?_;refine W.ret r rfl rfl ?_;exact⟨rfl,.inr hq⟩
end Go.Mz
set_option maxRecDepth 100000
namespace Go.Mz
open Go.Conc Go.ConcN Go.Proofs
open Go.ConcR (KK wgBlock WgAt stA smA rd wr mk)
theorem B6(f:List Int):(cL f).length=4:=rfl
theorem Po(f:List Int):∀u∈cL f,single u=true:=fun u hu=>by
 obtain⟨z,_,rfl⟩:=List.mem_map.1 hu;rfl
theorem GL{X:ax Tryz.prog}(bb:Nat)(L:LH):Sp X 209 [pt bb] L (fun v L'=>∃bc,v=.func (.func 232) #[] #[pt bc]∧L' bc=some (.cells #[pt bb] 173 (0,0),true)∧L bc=none∧Le L L'):=by
 refine Sp.enter (n:=4) Tryz.func209 rfl rfl rfl rfl fun C hX _ aG r=>?_;refine W.dv [2] 99 rfl ?_;refine W.cw 1 (.inl ⟨_,rfl⟩) rfl rfl ?_;intro bc Qf _;refine W.go 99 rfl ?_;refine W.ret r rfl rfl ?_;exact⟨bc,rfl,aj _ _ _,Qf,Le.put Qf _⟩
abbrev Lt(ro:Ro)(p:BP)(mb:Nat)(st sm:Int):List Value:=fT ro p++[Value.int .i32 st,Value.int .u32 sm,Value.map (some mb)]
def VA(L:LH)(ro:Ro)(p:BP)(br:Nat):LH:=L.put br (.cells (fT ro p).toArray 48)
def VB(L:LH)(ro:Ro)(p:BP)(br mb:Nat):LH:=(VA L ro p br).put mb (.map #[] 0)
def VC(L:LH)(ro:Ro)(p:BP)(br mb bb:Nat):LH:=(VB L ro p br mb).put bb (.cells (Lt ro p mb 0 0).toArray 232)
def VD(L:LH)(ro:Ro)(p:BP)(br mb bb bx:Nat):LH:=(VC L ro p br mb bb).put bx (.cells #[pt bb] 173)
def VE(L:LH)(ro:Ro)(p:BP)(br mb bb bx ba:Nat):LH:=(VD L ro p br mb bb bx).put ba (.cells #[.slice none 0 0] 348)
structure NrF(L L5:LH)(ro:Ro)(p:BP)(br mb bb bx ba:Nat):Prop where
 f1:L5 br=some (.cells (fT ro p).toArray 48 (0,0),true)
 f2:L5 mb=some (.map #[] 0,true)
 f3:L5 bb=some (.cells (Lt ro p mb 0 0).toArray 232 (0,0),true)
 f4:L5 bx=some (.cells #[pt bb] 173 (0,0),true)
 f5:L5 ba=some (.cells #[.slice none 0 0] 348 (0,0),true)
 le:Le L L5
 n1:L br=none
 n2:L mb=none
 n3:L bb=none
 n4:L bx=none
 n5:L ba=none
theorem aap{L:LH}{ro:Ro}{p:BP}{br mb bb bx ba:Nat}(h1:L br=none)(h2:VA L ro p br mb=none)(h3:VB L ro p br mb bb=none)(h4:VC L ro p br mb bb bx=none)(h5:VD L ro p br mb bb bx ba=none):NrF L (VE L ro p br mb bb bx ba) ro p br mb bb bx ba:=by
 have e1:Le L (VA L ro p br):=Le.put h1 _;have e2:Le (VA L ro p br) (VB L ro p br mb):=Le.put h2 _;have e3:Le (VB L ro p br mb) (VC L ro p br mb bb):=Le.put h3 _;have e4:Le (VC L ro p br mb bb) (VD L ro p br mb bb bx):=Le.put h4 _;have e5:Le (VD L ro p br mb bb bx) (VE L ro p br mb bb bx ba):=Le.put h5 _;exact⟨e5 _ _ (e4 _ _ (e3 _ _ (e2 _ _ (aj _ _ _)))),e5 _ _ (e4 _ _ (e3 _ _ (aj _ _ _))),e5 _ _ (e4 _ _ (aj _ _ _)),e5 _ _ (aj _ _ _),aj _ _ _,e1.trans (e2.trans (e3.trans (e4.trans e5))),h1,aP e1 h2,aP (e1.trans e2) h3,aP (e1.trans (e2.trans e3)) h4,aP (e1.trans (e2.trans (e3.trans e4))) h5⟩
structure jD(L:LH)(bb mb:Nat)(ro:Ro)(p:BP)(ks:List FG):Prop where
 row:∃st sm,L bb=some (.cells (Lt ro p mb st sm).toArray 232 (0,0),true)
 mp:L mb=some (.map (fh ks) ks.length,true)
 at_:fD L ro p
 pm:ks.Perm (aT ro ro.ak)
theorem GD{ro:Ro}{K:List Nat}{kx:Nat→FG}(Zv:∀i,i<(aS ro.ai).length→kx i=((aS ro.ai).getD i [-1],aI ro ((aS ro.ai).getD i [-1]) ro.ak))(hn:K.Nodup)(hi:∀i,i∈K↔i<(aS ro.ai).length∧decide (0<bz (kx i).2)=true):(K.map kx).Perm (aT ro ro.ak):=by
 have h1:K.Perm ((List.range (aS ro.ai).length).filter fun i=>decide (0<bz (kx i).2)):=by
  rw[List.perm_ext_iff_of_nodup hn (List.nodup_range.filter _)];intro i;rw[hi,List.mem_filter,List.mem_range]
 have h2:aT ro ro.ak=((List.range (aS ro.ai).length).filter fun i=>decide (0<bz (kx i).2)).map kx:=by
  unfold aT;have e:(aS ro.ai).map (fun f=>(f,aI ro f ro.ak))=(List.range (aS ro.ai).length).map kx:=by
   refine List.ext_getElem? fun i=>?_;rw[List.getElem?_map,List.getElem?_map]
   by_cases h:i<(aS ro.ai).length
   ·rw[List.getElem?_range h,List.getElem?_eq_getElem h];show some _=some _;rw[Zv i h,List.getD_eq_getElem?_getD,List.getElem?_eq_getElem h];rfl
   ·rw[List.getElem?_eq_none (by omega),List.getElem?_eq_none (by simp;omega)];rfl
  rw[e,List.filter_map]
  rfl
 rw[h2];exact h1.map kx
theorem NK{Post:Value→World→Prop}{W0:World}(ro:Ro)(p:BP)(L:LH)(cA:fD L ro p)(ok:gj ro):Sp (kG Tryz.prog Post W0) 161 [qy ro p] L (fun v L'=>∃bb mb ks,v=pt bb∧jD L' bb mb ro p ks∧Dm L L'∧L bb=none∧L mb=none):=by
 have yo:(aS ro.ai).length≤256:=by
  refine Nat.le_trans (pD fun g hg=>?_) (Nat.pow_le_pow_right (n:=4) (by decide) ok.g4);have:=ok.gl g hg;omega
 refine Sp.enter (n:=26) Tryz.func161 rfl rfl rfl rfl fun C hX _ aG r=>?_;refine W.dv [2] 99 rfl ?_;refine W.cw 1 (.inl ⟨_,rfl⟩) rfl rfl ?_;intro br Y3 _;refine W.go 99 rfl ?_;refine W.vf rfl rfl rfl rfl (Vf.cO rfl rfl rfl (gN (vs:=fT ro p) (aj _ _ _) rfl)) ?_;refine W.aB rfl rfl rfl (Ef.makeMap) ?_;rintro _ _ _ ⟨mb,rfl,rfl,QS,rfl⟩;refine W.dv [3] 99 rfl ?_;refine W.cw 11 (.inl ⟨_,rfl⟩) rfl rfl ?_;intro bb wE _;refine W.dv [12] 99 rfl ?_;refine W.cw 3 (.inl ⟨_,rfl⟩) rfl rfl ?_;intro bx hbx _;refine W.cw 4 (.inl ⟨_,rfl⟩) rfl rfl ?_;intro ba hba _;have F:=aap (ro:=ro) (p:=p) Y3 QS wE hbx hba
 change W _ _ _ _ _ _ (VE L ro p br mb bb bx ba)
 generalize VE L ro p br mb bb bx ba=L5 at F ⊢;clear QS wE hbx hba;refine W.go 99 rfl ?_;refine W.vf rfl rfl rfl rfl (Vf.load rfl rfl rfl (ay F.f4 rfl)) ?_;refine W.go 99 rfl ?_;refine W.aB rfl rfl rfl (Ef.call rfl (GL bb L5)) ?_;rintro _ _ _ ⟨_,rfl,rfl,bc,rfl,g1,n6,g2⟩;rename_i L6;have abD:=g2 _ _ F.f5;have sz:bc≠ba:=fun e=>by subst e;rw[F.f5] at n6;cases n6
 have QY:bb≠ba:=fun e=>by have h1:=F.f3;have h2:=F.f5;subst e;rw[h1] at h2;exact absurd h2 (by simp)
 have n8:Le L (L6.cD ba):=fun b x hx=>by rw[dg (fun e=>by subst e;rw[F.n5] at hx;cases hx)];exact g2 _ _ (F.le _ _ hx)
 refine W.go 3 rfl ?_;refine W.iter (L6.cD ba) (jo _ _) (fun pre L'=>∃v ob,L' ba=some (.cells #[v] 348 (0,0),true)∧dt L' 4 236 v pre.length (pre.flatMap cL) ob∧∀b,ob=some b→L6.cD ba b=none) (fun _ _=>False)
  (CK (bb:=bb) (bc:=bc) (p:=p) ok) ⟨_,rfl,rfl,rfl⟩ (by rw[r.ro]) [(13,.v (.func (.func 232) #[] #[pt bc])),(4,.v (pt ba))] (by exact⟨rfl,rfl,trivial⟩) rfl rfl rfl
  ?_ (fun _ _ _ _ h=>h) ?_ ?_ rfl (fun _=>rfl) ?_ ?_ ?_
 ·rintro pre L1 L2 hl ⟨v,ob,q1,q2,q3⟩;exact⟨v,ob,hl _ _ q1,q2.le hl,q3⟩
 ·rintro pre L' hl _;have bZ:=n8.trans hl;exact⟨hl.cell (ay (by rw[dg sz];exact g1) rfl),hl.cell (ay (by rw[dg QY];exact g2 _ _ F.f3) rfl),cA.h0.le bZ⟩
 ·exact⟨.slice none 0 0,none,jG abD,dt.nil,fun b hb=>by cases hb⟩
 ·rintro d l pre x post L' q lb hx oT ⟨v,ob,q1,q2,q3⟩ oo fZ acg c1 c2 C' d1 d2 Qg IJ -;refine W.go 99 rfl ?_;refine Qg _ _ _ fun L2 r1 r0=>?_;have r2:L2 d=some (.deferred (some []),true):=by rw[r0 _ acg.symm];exact c2
  have bZ:Le (L6.cD ba) L2:=fun b o ho=>by rw[r0 _ (fun e=>by subst e;rw[oo] at ho;cases ho)];exact oT _ _ ho
  have nlb:l≠ba:=fun e=>by rw[e,q1] at c1;cases c1
  have VL:L2 ba=some (.cells #[v] 348 (0,0),true):=by rw[r0 _ nlb.symm];exact q1
  have nlo:∀b,ob=some b→b≠l:=fun b hb e=>by
   obtain⟨cp,cc,_,w2,_⟩:dt L' 4 236 v pre.length (pre.flatMap cL) (some b):=hb▸q2;rw[e,c1] at w2;cases w2
  have q2':dt L2 4 236 v pre.length (pre.flatMap cL) ob:=q2.keep fun b hb=>r0 _ (nlo b hb);have nbo:∀b,ob=some b→b≠ba:=fun b hb e=>by
   obtain⟨cp,cc,_,w2,_⟩:dt L2 4 236 v pre.length (pre.flatMap cL) (some b):=hb▸q2';rw[e,VL] at w2;exact absurd w2 (by simp)
  refine W.go 99 rfl ?_;refine W.vf rfl rfl rfl rfl (Vf.load rfl rfl rfl (ay VL rfl)) ?_;refine W.go 99 rfl ?_;have hgr:bM (L2.less ob.toList) 4 236 cL L2 v pre:=⟨GG _ _,ob,q2',fun b hb=>zV (by rw[hb];simp)⟩;have hlen:pre.length+1≤1073741824:=by
   have h1:=congrArg List.length hx;rw[List.length_append,List.length_cons] at h1;omega
  refine W.aB rfl rfl rfl (Ef.grow rfl rfl rfl rfl rfl rfl rfl rfl rfl B6 Po hgr (ls:=[x]) (.own rfl rfl rfl rfl) hlen) ?_;rintro _ _ L4 ⟨v',rfl,rfl,hg,adJ⟩;obtain⟨fe,nu,bO,yx⟩:=hg;have mz:ba∉ob.toList:=fun hm=>nbo ba (Option.mem_toList.1 hm) rfl;have g4:L4 ba=some (.cells #[v] 348 (0,0),true):=fe _ _ (by rw[iQ mz];exact VL);have ho4:∀b,nu=some b→b≠ba:=fun b hb e=>by
   obtain⟨cp,cc,_,w2,_⟩:dt L4 4 236 v' (pre++[x]).length ((pre++[x]).flatMap cL) (some b):=hb▸bO;rw[e,g4] at w2;exact absurd w2 (by simp)
  obtain⟨av,cv,rfl,hcv⟩:=bO.slice;refine W.dY rfl rfl (Ef.gn rfl ⟨_,rfl,rfl⟩ rfl g4 rfl (Nat.le_refl _) (bY rfl)) ?_;rintro _ _ _ ⟨rfl,rfl,rfl⟩;refine W.go 99 rfl ?_;have pI:l∉ob.toList:=fun hm=>nlo l (Option.mem_toList.1 hm) rfl;have mU:d∉ob.toList:=fun hm=>by
   obtain⟨cp,cc,_,w2,_⟩:dt L2 4 236 v pre.length (pre.flatMap cL) (some d):=(Option.mem_toList.1 hm)▸q2';rw[r2] at w2;cases w2
  have hdz:d≠ba:=fun e=>by rw[e,VL] at r2;cases r2
  have QO:Le (L6.cD ba) L4:=fun b o ho=>fe b o (by
   rw[iQ (fun hm=>by rw[q3 b (Option.mem_toList.1 hm)] at ho;cases ho)];exact bZ _ _ ho)
  refine IJ _ _ _ _ .nil (by rw[au _ _ nlb];exact fe _ _ (by rw[iQ pI];exact r1)) (by rw[au _ _ hdz];exact fe _ _ (by rw[iQ mU];exact r2))
   (aC QO (by unfold LH.cD;rw[if_pos rfl]) _) ⟨_,nu,jG (aj _ _ _),(bO.keep fun b hb=>au _ _ (ho4 b hb)).calm,fun b hb=>?_⟩
  have:=yx b hb;unfold LH.less at this
  split at this
  ·rename_i hm;exact q3 b (Option.mem_toList.1 hm)
  ·exact aP bZ this
 ·rintro d l L' oT oo fZ ⟨v,ob,q1,q2,q3⟩ hd;obtain⟨la,lc,rfl,US⟩:=q2.slice;refine W.dv [19] 99 rfl ?_;refine W.cw 6 (.inl ⟨_,rfl⟩) rfl rfl ?_;intro bn oP _;refine W.cw 7 (.inl ⟨_,rfl⟩) rfl rfl ?_;intro bw hbw _;have f6:Le L' (L'.put bn (.cells #[.int .i64 0] 353)):=Le.put oP _;have f7:Le (L'.put bn (.cells #[.int .i64 0] 353)) ((L'.put bn (.cells #[.int .i64 0] 353)).put bw (.cells #[.int .u64 0,.int .u32 0] 284)):=Le.put hbw _;have k6:=f7 _ _ (aj L' bn (.cells #[.int .i64 0] 353));have k7:=aj (L'.put bn (.cells #[.int .i64 0] 353)) bw (.cells #[.int .u64 0,.int .u32 0] 284);have f67:=f6.trans f7;have WY:=aP f6 hbw
  change W _ _ _ _ _ _ ((L'.put bn (.cells #[.int .i64 0] 353)).put bw (.cells #[.int .u64 0,.int .u32 0] 284))
  generalize(L'.put bn (.cells #[.int .i64 0] 353)).put bw (.cells #[.int .u64 0,.int .u32 0] 284)=L7 at k6 k7 f67 ⊢;clear f6 f7;refine W.go 99 rfl ?_;refine W.cG (E':=[(1,.v (pt br)),(3,.v (pt bx)),(4,.v (pt ba)),(6,.v (pt bn)),(7,.v (pt bw)),(19,.v (.int .i64 (0:Nat)))]) (B':=[]) (by exact⟨rfl,rfl,rfl,rfl,rfl,rfl,trivial⟩) (by exact trivial) ?_
  -- ade adv in N6 heap
  have uZ:∀{b:Nat} {x:Obj×Bool},L5 b=some x→b≠ba→L' b=some x:=fun h h1=>oT _ _ (by rw[dg h1];exact g2 _ _ h);have nbr:br≠ba:=fun e=>by have h1:=F.f1;have h2:=F.f5;subst e;rw[h1] at h2;exact absurd h2 (by simp)
  have nbx:bx≠ba:=fun e=>by have h1:=F.f4;have h2:=F.f5;subst e;rw[h1] at h2;exact absurd h2 (by simp)
  have nmb:mb≠ba:=fun e=>by have h1:=F.f2;have h2:=F.f5;subst e;rw[h1] at h2;cases h2
  have xb:bb≠mb:=fun e=>by have h1:=F.f3;have h2:=F.f2;subst e;rw[h1] at h2;cases h2
  have v1:=uZ F.f1 nbr;have v2:=uZ F.f2 nmb;have v3:=uZ F.f3 QY;have v4:=uZ F.f4 nbx;have Br:Le L L':=n8.trans oT;have m1:=f67 _ _ v1;have m2:=f67 _ _ v2;have m3:=f67 _ _ v3;have m4:=f67 _ _ v4;have m5:=f67 _ _ q1;have md:=f67 _ _ hd;have nwn:bw≠bn:=fun e=>by subst e;rw[k6] at k7;exact absurd k7 (by simp)
  have ne:∀{b:Nat} {x:Obj×Bool},L' b=some x→b≠bw∧b≠bn:=fun h=>⟨fun e=>(by subst e;rw[WY] at h;cases h),fun e=>(by subst e;rw[oP] at h;cases h)⟩;have w3:=ne v3;have w2:=ne v2;have wd:=ne hd;have d3:d≠bb:=fun e=>by subst e;rw[v3] at hd;cases hd
  have d2:d≠mb:=fun e=>by subst e;rw[v2] at hd;cases hd
  have M6:L d=none:=aP n8 fZ;have P9:∀b,b∈[bw,bb,bn,mb,d]→L b=none:=fun b hb=>by
   simp only[List.mem_cons,List.not_mem_nil,or_false] at hb;rcases hb with rfl | rfl | rfl | rfl | rfl
   ·exact aP Br WY
   ·exact F.n3
   ·exact aP Br oP
   ·exact F.n2
   ·exact M6
  have wT:∀{b:Nat} {x:Obj×Bool},L' b=some x→b≠bb→b≠mb→b≠d→b∉[bw,bb,bn,mb,d]:=fun h h1 h2 h3 hm=>by
   have:=ne h;simp only[List.mem_cons,List.not_mem_nil,or_false] at hm;rcases hm with e | e | e | e | e
   ·exact this.1 e
   ·exact h1 e
   ·exact this.2 e
   ·exact h2 e
   ·exact h3 e
  have i1:=wT v1 (fun e=>by subst e;rw[v1] at v3;exact absurd v3 (by simp)) (fun e=>by subst e;rw[v1] at v2;cases v2) (fun e=>by subst e;rw[v1] at hd;cases hd);have i4:=wT v4 (fun e=>by subst e;rw[v4] at v3;exact absurd v3 (by simp)) (fun e=>by subst e;rw[v4] at v2;cases v2) (fun e=>by subst e;rw[v4] at hd;cases hd);have i5:=wT q1 (fun e=>QY e.symm) (fun e=>nmb e.symm) (fun e=>by subst e;rw[q1] at hd;cases hd);have ZH:dt (L7.less [bw,bb,bn,mb,d]) 4 236 (.slice la (aS ro.ai).length lc) (aS ro.ai).length ((aS ro.ai).flatMap cL) ob:=by
   refine q2.keep fun b hb=>?_;obtain⟨cp,cc,_,u2,_⟩:dt L' 4 236 (.slice la (aS ro.ai).length lc) (aS ro.ai).length ((aS ro.ai).flatMap cL) (some b):=hb▸q2;have gr:=wT u2 (fun e=>by subst e;rw[u2] at v3;exact absurd v3 (by simp)) (fun e=>by subst e;rw[u2] at v2;cases v2) (fun e=>by subst e;rw[u2] at hd;cases hd);rw[iQ gr,f67 _ _ u2,u2]
  have hLk:Le L (L7.less [bw,bb,bn,mb,d]):=RB (Br.trans f67) P9
  let z0:Nat→GZ:=fun k=>{W:=bw,X:=bb,N:=bn,B:=mb,ro:=ro,p:=p,n:=4,base:=k}
  have Gy:∀k,Dw (z0 k) ba bx br la lc (L7.less [bw,bb,bn,mb,d]):=fun k=>by
   refine⟨ay ((iQ i5).trans m5) rfl,ZH.at B6,ay ((iQ i4).trans m4) rfl,ay ((iQ i1).trans m1) rfl,cA.le hLk⟩
  intro T R β hT hE hH;have Zi:C.f=161:=by assumption
  obtain⟨hf,bE,aM,cf,cs,il,XC,-⟩:=r;rw[hX] at XC
  let mm:Nat→MZ:=fun k=>{z:=z0 k,ba:=ba,bx:=bx,br:=br,d:=d,la:=la,lc:=lc,L0:=C.L0,R0:=C.R0,kd:=C.kd,c:=cf,cs:=cs,Post:=Post,W0:=W0}
  have hnF:∀k b,L7 b≠none→b≠d→¬TB (mm k) b:=fun k b hb se h=>by
   rcases h with⟨h1,h2⟩ | h1
   ·exact(hH.fresh b hb).elim (fun h=>h h1) h2
   ·exact se h1
  have nw:∀{b:Nat},L7 b≠none→L b=none→C.R0 b=none:=fun h h'=>(hH.fresh _ h).resolve_left (fun h2=>h2 (by rw[aG];exact h'));have r3:C.R0 bb=none:=nw (by rw[m3];simp) F.n3;have r2:C.R0 mb=none:=nw (by rw[m2];simp) F.n2;have rd':C.R0 d=none:=nw (by rw[md];simp) M6;have rw':C.R0 bw=none:=nw (by rw[k7];simp) (P9 bw (by simp));have rn:C.R0 bn=none:=nw (by rw[k6];simp) (P9 bn (by simp));obtain⟨Rw,hRw⟩:∃Rw:LH,Rw=fun y=>if y=bw∨y=bb∨y=bn∨y=mb then none else R y:=⟨_,rfl⟩;have UE:∀{b:Nat},b≠bw→b≠bb→b≠bn→b≠mb→Rw b=R b:=fun h1 h2 h3 h4=>by rw[hRw];simp only;rw[if_neg (by simp[h1,h2,h3,h4])]
  have ab6:∀k,Le (L7.less [bw,bb,bn,mb,d]) (Ac (mm k) Rw):=fun k b y hy=>by
   have gr:b∉[bw,bb,bn,mb,d]:=fun h=>by rw[zV h] at hy;cases hy
   have hy7:=GG _ _ _ _ hy;simp only[List.mem_cons,List.not_mem_nil,or_false,not_or] at gr;obtain⟨a1,a2,a3,a4,a5⟩:=gr;unfold Ac;rw[if_neg (hnF k b (by rw[hy7];simp) a5),UE a1 a2 a3 a4];exact hH.le _ _ hy7
  have F3:∀k,sD (mm k) Rw:=fun k=>by
   refine⟨(Dm.of_le (ab6 k)).wk (Gy k),fun b y h1 h2=>?_,fun b o wr hb=>?_,?_⟩
   ·have kF:∀{b':Nat},C.R0 b'=none→b≠b':=fun h e=>by subst e;exact absurd (h2.symm.trans h) (by simp)
    rw[UE (kF rw') (kF r3) (kF rn) (kF r2)];exact hH.keep b y h1 h2
   ·have bG:L b=some (o,wr):=by rw[←aG];exact hb
    have kF:∀{b':Nat},L b'=none→b≠b':=fun h e=>by subst e;rw[h] at bG;cases bG
    rw[UE (kF (P9 bw (by simp))) (kF F.n3) (kF (P9 bn (by simp))) (kF F.n2)];exact⟨wr,hH.le _ _ (f67 _ _ (Br _ _ bG))⟩
   ·exact(UE wd.1 d3 wd.2 d2).trans (hH.le _ _ md)
  have hz:∀k,Wz (mm k):=fun k=>by
   refine⟨ok,rfl,xb,aM,fun R1 R' K st sm hK h1 hx hb hle=>?_⟩
   let Lz:LH:=fun b=>open Classical in if C.L0 b≠none∨C.R0 b=none then R' b else none
   have YR:∀{b:Nat},(C.L0 b≠none∨C.R0 b=none)→Lz b=R' b:=fun h=>if_pos h;have hzL:Le Lz R':=fun b y hy=>by
    have:(open Classical in if C.L0 b≠none∨C.R0 b=none then R' b else none)=some y:=hy
    split at this
    ·exact this
    ·cases this
   have e3:R' bb=some (.cells (Lt ro p mb st sm).toArray 232 (0,0),true):=hle _ _ (by
    show(((R1.put bb _).put mb _).put d _) bb=_;rw[au _ _ (Ne.symm d3),au _ _ xb,aj])
   have e2:R' mb=some (.map (fh (K.map (z0 k).kx)) K.length,true):=hle _ _ (by
    show(((R1.put bb _).put mb _).put d _) mb=_;rw[au _ _ (Ne.symm d2),aj])
   have other:∀{b:Nat} {y:Obj×Bool},b≠bb→b≠mb→b≠d→R1 b=some y→R' b=some y:=fun h1 h2 h3 h4=>hle _ _ (by
    show(((R1.put bb _).put mb _).put d _) _=_;rw[au _ _ h3,au _ _ h2,au _ _ h1];exact h4)
   have kD:Dm L Lz:=fun b o wr hb=>by
    have Qd:C.L0 b=some (o,wr):=by rw[aG];exact hb
    obtain⟨w1,h2⟩:=h1.gP b o wr Qd;have kF:∀{b':Nat},L b'=none→b≠b':=fun h e=>by subst e;rw[h] at hb;cases hb
    exact⟨w1,(YR (.inl (by rw[Qd];simp))).trans (other (kF F.n3) (kF F.n2) (kF M6) h2)⟩
   refine XC _ R' Lz ⟨bb,mb,K.map (z0 k).kx,rfl,⟨⟨st,sm,(YR (.inr r3)).trans e3⟩,?_,kD.ro cA,GD (fun i hi=>rfl) hK.1 hK.2⟩,kD,F.n3,F.n2⟩ ⟨hzL,fun b x h2 h3=>?_,fun b eR=>?_,fun b eR=>?_⟩
   ·rw[List.length_map];exact(YR (.inr r2)).trans e2
   ·have kF:∀{b':Nat},C.R0 b'=none→b≠b':=fun h e=>by subst e;exact absurd (h3.symm.trans h) (by simp)
    exact other (kF r3) (kF r2) (kF rd') (h1.keep b x h2 h3)
   ·by_cases h2:C.L0 b≠none∨C.R0 b=none
    ·exact h2
    ·exact absurd (show(open Classical in if C.L0 b≠none∨C.R0 b=none then R' b else none)=none from if_neg h2) eR
   ·rw[aG] at eR;cases qx:L b with
    | none=>exact absurd qx eR
    | some y=>
     obtain⟨w1,h2⟩:=kD b y.1 y.2 qx;rw[h2];simp
  rw[hX,bE,il,Zi];refine nV.aba (nt:=353) (Anch:=yW (z0 0) Post W0 xb) (z0 0).z.b (show 1≤4 by decide) (show 4≤6 by decide) (fun S0 h1 h2=>⟨nwn,fun e=>w3.1 e.symm,fun e=>w2.1 e.symm,fun e=>w3.2 e.symm,fun e=>w2.2 e.symm,xb,rfl,rfl,h1,h2,fun st sm=>⟨_,_,_,rfl,rfl,rfl,rfl,rfl,rfl,show 2≤8 by decide⟩⟩)
   (hH.le _ _ k7) (hH.le _ _ m3) (hH.le _ _ k6) (hH.le _ _ m2) (fun k g L h=>?_) (fun k q hq=>?_)
  ·exact OW (Ic (z0 k)) (Dg (z0 k) xb) g L h
  ·obtain rfl:4=q:=hq;show sT (z0 k).z.b 353 Post W0 (yW (z0 k) Post W0 xb) 4 _ _;have e:(fun y=>if y=bw∨y=bb∨y=bn∨y=mb then none else R y)=Rw:=hRw.symm;show sT (z0 k).z.b 353 Post W0 (yW (z0 k) Post W0 xb) 4 _ (fun y=>if y=bw∨y=bb∨y=bn∨y=mb then none else R y);rw[e,←Ko (mm k)];exact W.kW (R3 (hz k) 4 0 rfl _ (F3 k)) T _ dr hT (hE.acV (by exact⟨rfl,rfl,rfl,rfl,rfl,rfl,trivial⟩) rfl) (aF.all _)
 ·rintro d l j L' oT oo fZ h;exact h.elim
end Go.Mz
set_option maxRecDepth 100000
namespace Go.Mz
open Go.Conc Go.Proofs
section
variable {X:ax Tryz.prog}
def xw(ro:Ro):Option Int→Bool
 | some n=>bq n 0 ((ro.samples.length:Int) - 1)
 | none=>true
def Fx:Option Int→Bool
 | some n=>bq n 0 60
 | none=>true
def iV(ro:Ro)(x:Option Int)(y:Option Int):Int:=match xw ro x,Fx y with
 | false,_=>3
 | true,false=>1
 | true,true=>0
def qj(x:Option Int):List Int:=x.toList
def Oo:Option (Addr×Int)→Value
 | some (a,_)=>.pointer (some a)
 | none=>.pointer none
structure yY(L:LH)(b0 b1 b2 b3 b4:Nat)(ro:Ro)(p:BP)(sa:Option Addr)(sc:Nat)(x:Option Int)(y:Option (Addr×Int)):Prop where
 h0:L.cell? ⟨b0,0,none⟩=some (.slice sa (qj x).length sc)
 h1:L.cell? ⟨b1,0,none⟩=some (.slice none 0 0)
 h2:L.cell? ⟨b2,0,none⟩=some (.slice none 0 0)
 h3:∀(i:Nat) (v:Value),(fT ro p)[i]?=some v→L.cell? ⟨b3,i,none⟩=some v
 h4:L.cell? ⟨b4,0,none⟩=some (Oo y)
 hx:aN L sa (qj x)
 hy:∀a n,y=some (a,n)→L.cell? a=some (.int .i64 n)
theorem yY.le{L L':LH}{b0 b1 b2 b3 b4:Nat}{ro:Ro}{p:BP}{sa:Option Addr}{sc:Nat}{x:Option Int}{y:Option (Addr×Int)}(h:yY L b0 b1 b2 b3 b4 ro p sa sc x y)(hl:Le L L'):yY L' b0 b1 b2 b3 b4 ro p sa sc x y:=
 ⟨hl.cell h.h0,hl.cell h.h1,hl.cell h.h2,fun i v hv=>hl.cell (h.h3 i v hv),hl.cell h.h4,h.hx.le hl,fun a n e=>hl.cell (h.hy a n e)⟩
theorem R6{b0 b1 b2 b3 b4:Nat}{ro:Ro}{p:BP}{sa:Option Addr}{sc:Nat}{x:Option Int}{y:Option (Addr×Int)}(L:LH)(h:yY L b0 b1 b2 b3 b4 ro p sa sc x y)(ok:gj ro):Sp X 158 [pt b0,pt b1,pt b2,pt b3,pt b4] L (HY (iV ro x (y.map (·.2))) L) (HX (iV ro x (y.map (·.2))) L):=by
 have Nq:=ok.p2;refine Sp.enter (n:=70) Tryz.func158 rfl rfl rfl rfl fun C hX _ aG r=>?_;refine W.go 99 rfl ?_;refine W.vf rfl rfl rfl rfl (Vf.load rfl rfl rfl (h.h0)) ?_;refine W.go 99 rfl ?_;refine W.vf rfl rfl rfl rfl (Vf.load rfl rfl rfl (h.h1)) ?_;refine W.go 99 rfl ?_;refine W.vf rfl rfl rfl rfl (Vf.load rfl rfl rfl (h.h2)) ?_;refine W.go 99 rfl ?_;refine W.kW ?_;refine W.go 99 rfl ?_;refine W.split rfl rfl rfl (fun c=>?_) (fun c=>absurd c (by decide));refine W.go 99 rfl ?_;refine W.vf rfl rfl rfl rfl (Vf.gC (i:=0) rfl rfl rfl rfl rfl rfl (by decide)) ?_;refine W.go 99 rfl ?_;refine W.KA (fun E' B' L'=>xw ro x=true∧Le L L'∧
   gk E' [(0,.v (pt b0)),(1,.v (pt b1)),(2,.v (pt b2)),(3,.v (pt b3)),(4,.v (pt b4)),(14,.sl 0 0 3 3),(15,.v (.int .i64 (3:Nat))),(16,.v (.int .i64 0))]∧oD B' [some ⟨[.v (.slice sa (qj x).length sc),.v (.slice none 0 0),.v (.slice none 0 0)],22⟩]) ?_ ?_
 ·rintro E' B' L' ⟨hx,hl,lH,YF⟩;refine W.cG lH YF ?_ rfl rfl;have h':=h.le hl;refine W.go 99 rfl ?_;refine W.dJ ?_;refine W.go 99 rfl ?_;refine W.split rfl rfl rfl (fun c=>?_) (fun c=>absurd c (by decide));refine W.go 99 rfl ?_;refine W.vf rfl rfl rfl rfl (Vf.gC (i:=1) rfl rfl rfl rfl rfl rfl (by decide)) ?_;refine W.go 99 rfl ?_;refine W.kW ?_;refine W.go 99 rfl ?_;refine W.split rfl rfl rfl (fun c=>absurd c (by decide)) (fun c=>?_);refine W.go 99 rfl ?_;refine W.dJ ?_;refine W.go 99 rfl ?_;refine W.split rfl rfl rfl (fun c=>?_) (fun c=>absurd c (by decide));refine W.go 99 rfl ?_;refine W.vf rfl rfl rfl rfl (Vf.gC (i:=2) rfl rfl rfl rfl rfl rfl (by decide)) ?_;refine W.go 99 rfl ?_;refine W.kW ?_;refine W.go 99 rfl ?_;refine W.split rfl rfl rfl (fun c=>absurd c (by decide)) (fun c=>?_);refine W.go 99 rfl ?_;refine W.dJ ?_;refine W.go 99 rfl ?_;refine W.split rfl rfl rfl (fun c=>absurd c (by decide)) (fun c=>?_);refine W.go 99 rfl ?_;refine W.vf rfl rfl rfl rfl (Vf.load rfl rfl rfl (h'.h4)) ?_;cases y with
  | none=>
   have hv:Oo none=.pointer none:=rfl;rw[hv];have ha:iV ro x (Option.map (·.2) (none:Option (Addr×Int)))=0:=by unfold iV;rw[hx];rfl
   rw[ha] at r;refine W.go 99 rfl ?_;refine W.split rfl rfl rfl (fun c=>?_) (fun c=>absurd c (by decide));refine W.go 99 rfl ?_;exact W.ret r rfl rfl ⟨rfl,rfl,hl⟩
  | some q=>
   obtain⟨ya,yn⟩:=q;have hv:Oo (some (ya,yn))=.pointer (some ya):=rfl;rw[hv];have oW:=h'.hy ya yn rfl;rw[show Option.map (·.2) (some (ya,yn))=some yn from rfl] at r;refine W.go 99 rfl ?_;refine W.split rfl rfl rfl (fun c=>Bool.noConfusion (show false=true from c)) (fun c=>?_);refine W.go 99 rfl ?_;refine W.vf rfl rfl rfl rfl (Vf.load rfl rfl rfl (h'.h4)) ?_;refine W.go 99 rfl ?_;refine W.vf rfl rfl rfl rfl (Vf.load rfl rfl rfl (oW)) ?_;refine W.go 99 rfl ?_;refine W.aB rfl rfl rfl (Ef.call rfl (fK _ _ _ _)) ?_;rintro _ _ _ ⟨_,rfl,rfl,rfl,rfl⟩;refine W.go 99 rfl ?_;refine W.dQ rfl rfl rfl rfl (eC _ _ _) ?_ ?_
   ·rintro _ _ ⟨rfl,hc,rfl⟩;have ha:iV ro x (some yn)=0:=by unfold iV;rw[hx,show Fx (some yn)=true from hc]
    rw[ha] at r;refine W.go 99 rfl ?_;refine W.vf rfl rfl rfl rfl (Vf.load rfl rfl rfl (h'.h1)) ?_;refine W.go 99 rfl ?_;refine W.kW ?_;refine W.go 99 rfl ?_;refine W.split rfl rfl rfl (fun c=>absurd c (by decide)) (fun c=>?_);refine W.go 99 rfl ?_;exact W.lP r rfl rfl ⟨rfl,rfl,hl⟩
   ·rintro _ _ ⟨hc,rfl,rfl⟩;have ha:iV ro x (some yn)=1:=by unfold iV;rw[hx,show Fx (some yn)=false from hc]
    rw[ha] at r;exact WM.raise r ⟨by decide,rfl,hl⟩
 ·intro back;cases x with
  | none=>
   refine W.kW ?_;refine W.go 99 rfl ?_;refine W.split rfl rfl rfl (fun c=>absurd c (by decide)) (fun c=>?_);refine W.go 2 rfl ?_;exact back _ _ _ ⟨rfl,Le.refl _,⟨rfl,rfl,rfl,rfl,rfl,rfl,rfl,rfl,trivial⟩,⟨rfl,trivial⟩⟩
  | some n=>
   refine W.kW ?_;refine W.go 99 rfl ?_;refine W.split rfl rfl rfl (fun c=>?_) (fun c=>Bool.noConfusion (show true=false from c));refine W.go 99 rfl ?_;obtain⟨a,rfl⟩:=h.hx.addr (show 0<(qj (some n)).length by exact Nat.one_pos);refine W.vf rfl rfl rfl rfl (Vf.aW rfl rfl rfl rfl rfl rfl rfl ((show 0<(qj (some n)).length by exact Nat.one_pos))) ?_;refine W.go 99 rfl ?_;refine W.vf rfl rfl rfl rfl (Vf.load rfl rfl rfl (h.hx.int (show(qj (some n))[0]?=some n from rfl))) ?_;refine W.go 99 rfl ?_;refine W.vf rfl rfl rfl rfl (Vf.load rfl rfl rfl (h.h3 3 _ rfl)) ?_;refine W.go 99 rfl ?_;refine W.vf rfl rfl rfl rfl (Vf.load rfl rfl rfl (h.h3 0 _ rfl)) ?_;refine W.go 99 rfl ?_;refine W.vf rfl rfl rfl rfl (Vf.load rfl rfl rfl (h.h3 2 _ rfl)) ?_;refine W.go 99 rfl ?_;refine W.vf rfl rfl rfl rfl (Vf.index (i:=0) rfl rfl rfl Tryz.underlying142 xe BT (by decide) rfl) ?_;refine W.go 99 rfl ?_;rw[w1 (show ro.samples.length≤1000000 by omega)];refine W.aB rfl rfl rfl (Ef.call rfl (fK _ _ _ _)) ?_;rintro _ _ _ ⟨_,rfl,rfl,rfl,rfl⟩;refine W.go 99 rfl ?_;refine W.dQ rfl rfl rfl rfl (eC _ _ _) ?_ ?_
   ·rintro _ _ ⟨rfl,hc,rfl⟩;refine W.go 99 rfl ?_;refine W.dJ ?_;refine W.go 99 rfl ?_;refine W.split rfl rfl rfl (fun c=>Bool.noConfusion (show false=true from c)) (fun c=>?_);refine W.go 2 rfl ?_;exact back _ _ _ ⟨hc,Le.refl _,⟨rfl,rfl,rfl,rfl,rfl,rfl,rfl,rfl,trivial⟩,⟨rfl,trivial⟩⟩
   ·rintro _ _ ⟨hc,rfl,rfl⟩;have ha:iV ro (some n) (y.map (·.2))=3:=by unfold iV;rw[show xw ro (some n)=false from hc]
    rw[ha] at r;exact WM.raise r ⟨by decide,rfl,Le.refl _⟩
end
variable {Post:Value→World→Prop}{W0:World}
def uf(ro:Ro)(x y:Option Int):Int:=if dK ro≠0 then dK ro else iV ro x y
def OpQ(ro:Ro)(p:BP)(e:Int)(L:LH)(v:Value)(L':LH):Prop:=
 (e≠0∧v=.tuple #[.pointer none,.int .i64 e]∧Le L L')∨(e=0∧gj ro∧∃bb mb ks,v=.tuple #[pt bb,.int .i64 0]∧jD L' bb mb ro p ks∧Dm L L')
theorem acQ{L:LH}{b1 b2 b3 b4 b5:Nat}{o1 o2 o3 o4 o5:Obj}(h1:L b1=none)(h2:(L.put b1 o1) b2=none)(h3:((L.put b1 o1).put b2 o2) b3=none)(h4:(((L.put b1 o1).put b2 o2).put b3 o3) b4=none)(h5:((((L.put b1 o1).put b2 o2).put b3 o3).put b4 o4) b5=none):
  ∃L5,L5=((((L.put b1 o1).put b2 o2).put b3 o3).put b4 o4).put b5 o5∧L5 b1=some (o1,true)∧L5 b2=some (o2,true)∧L5 b3=some (o3,true)∧L5 b4=some (o4,true)∧L5 b5=some (o5,true)∧Le L L5:=by
 have e1:Le L (L.put b1 o1):=Le.put h1 _;have e2:Le (L.put b1 o1) ((L.put b1 o1).put b2 o2):=Le.put h2 _;have e3:Le ((L.put b1 o1).put b2 o2) (((L.put b1 o1).put b2 o2).put b3 o3):=Le.put h3 _;have e4:Le (((L.put b1 o1).put b2 o2).put b3 o3) ((((L.put b1 o1).put b2 o2).put b3 o3).put b4 o4):=Le.put h4 _;have e5:Le ((((L.put b1 o1).put b2 o2).put b3 o3).put b4 o4) (((((L.put b1 o1).put b2 o2).put b3 o3).put b4 o4).put b5 o5):=Le.put h5 _;exact⟨_,rfl,e5 _ _ (e4 _ _ (e3 _ _ (e2 _ _ (aj _ _ _)))),e5 _ _ (e4 _ _ (e3 _ _ (aj _ _ _))),e5 _ _ (e4 _ _ (aj _ _ _)),e5 _ _ (aj _ _ _),aj _ _ _,e1.trans (e2.trans (e3.trans (e4.trans e5)))⟩
theorem Lk(ro:Ro)(p:BP)(sa:Option Addr)(sc:Nat)(x:Option Int)(y:Option (Addr×Int))(L:LH)(cA:fD L ro p)(hx:aN L sa (qj x))(hy:∀a n,y=some (a,n)→L.cell? a=some (.int .i64 n)):
  Sp (kG Tryz.prog Post W0) 120 [qy ro p,.slice sa (qj x).length sc,.slice none 0 0,.slice none 0 0,Oo y] L (OpQ ro p (uf ro x (y.map (·.2))) L):=by
 obtain⟨pv,hpv⟩:∃pv,Oo y=.pointer pv:=by
  cases y with
  | none=>exact⟨_,rfl⟩
  | some q=>obtain⟨a,n⟩:=q;exact⟨_,rfl⟩
 rw[hpv];refine Sp.enter (n:=26) Tryz.func120 rfl rfl rfl rfl fun C hX _ aG r=>?_;refine W.dv [14] 99 rfl ?_;refine W.cw 5 (.inl ⟨_,rfl⟩) rfl rfl ?_;intro b5 h5 _;refine W.cw 6 (.inl ⟨_,rfl⟩) rfl rfl ?_;intro b6 h6 _;refine W.cw 7 (.inl ⟨_,rfl⟩) rfl rfl ?_;intro b7 h7 _;refine W.cw 8 (.inl ⟨_,rfl⟩) rfl rfl ?_;intro b8 h8 _;refine W.cw 9 (.inl ⟨_,rfl⟩) rfl rfl ?_;intro b9 h9 _;obtain⟨L5,hL5,k5,k6,k7,k8,k9,hle⟩:=acQ (o1:=.cells (fT ro p).toArray 48) (o2:=.cells #[.slice sa (qj x).length sc] 22) (o3:=.cells #[.slice none 0 0] 22) (o4:=.cells #[.slice none 0 0] 22) (o5:=.cells #[.pointer pv] 176) h5 h6 h7 h8 h9
 change W _ _ _ _ _ _ (((((L.put b5 (.cells (fT ro p).toArray 48)).put b6 (.cells #[.slice sa (qj x).length sc] 22)).put b7 (.cells #[.slice none 0 0] 22)).put b8 (.cells #[.slice none 0 0] 22)).put b9 (.cells #[.pointer pv] 176))
 rw[←hL5];clear h5 h6 h7 h8 h9 hL5;refine W.vf rfl rfl rfl rfl (Vf.cO rfl rfl rfl (gN (vs:=fT ro p) k5 rfl)) ?_;refine W.aB rfl rfl rfl (Ef.call rfl (xp ro p _ (cA.le hle))) ?_;rintro _ _ _ ⟨_,rfl,rfl,rfl,ec⟩;rename_i L6;have qt:=hle.trans ec;have key:yY L6 b6 b7 b8 b5 b9 ro p sa sc x y:=⟨ay (ec _ _ k6) rfl,ay (ec _ _ k7) rfl,ay (ec _ _ k8) rfl,fun i v hv=>ay (ec _ _ k5) (by rw[List.getElem?_toArray];exact hv),by rw[hpv];exact ay (ec _ _ k9) rfl,hx.le qt,fun a n e=>qt.cell (hy a n e)⟩;refine W.go 99 rfl ?_
 by_cases h0:dK ro=0
 ·have ok:=Sq h0;have aZ:uf ro x (y.map (·.2))=iV ro x (y.map (·.2)):=by unfold uf;rw[if_neg (by simpa using h0)]
  rw[aZ] at r;rw[h0];refine W.split rfl rfl rfl (fun c=>Bool.noConfusion (show false=true from c)) (fun c=>?_);refine W.go 99 rfl ?_;refine W.aB rfl rfl rfl (Ef.call rfl (zA 158 [pt b6,pt b7,pt b8,pt b5,pt b9] (iV ro x (y.map (·.2))) L6 (fun L1 hl=>R6 L1 (key.le hl) ok))) ?_;rintro _ _ _ ⟨_,rfl,rfl,rfl,bZ⟩;rename_i L7;refine W.go 99 rfl ?_
  by_cases h1:iV ro x (y.map (·.2))=0
  ·rw[h1] at r ⊢;refine W.split rfl rfl rfl (fun c=>Bool.noConfusion (show false=true from c)) (fun c=>?_);refine W.go 99 rfl ?_;refine W.vf rfl rfl rfl rfl (Vf.cO rfl rfl rfl (gN (vs:=fT ro p) (bZ _ _ (ec _ _ k5)) rfl)) ?_;have hnr:=NK (Post:=Post) (W0:=W0) ro p L7 (cA.le (qt.trans bZ)) ok;rw[←hX] at hnr;refine W.aB rfl rfl rfl (Ef.call rfl (hnr)) ?_;rintro _ _ _ ⟨_,rfl,rfl,bb,mb,ks,rfl,nq,kD,-,-⟩;refine W.go 99 rfl ?_;refine W.ret r rfl rfl ?_;exact .inr ⟨rfl,ok,bb,mb,ks,rfl,nq,(Dm.of_le (qt.trans bZ)).trans kD⟩
  ·refine W.split rfl rfl rfl (fun _=>?_) (fun e=>absurd e (by simpa using h1));refine W.go 99 rfl ?_;refine W.ret r rfl rfl ?_;exact .inl ⟨h1,rfl,qt.trans bZ⟩
 ·have aZ:uf ro x (y.map (·.2))=dK ro:=by unfold uf;rw[if_pos h0]
  rw[aZ] at r;refine W.split rfl rfl rfl (fun _=>?_) (fun e=>absurd e (by simpa using h0));refine W.go 99 rfl ?_;refine W.ret r rfl rfl ?_;exact .inl ⟨h0,rfl,qt⟩
theorem jD.len{L:LH}{bb mb:Nat}{ro:Ro}{p:BP}{ks:List FG}(h:jD L bb mb ro p ks):ks.length=0↔aT ro ro.ak=[]:=by
 rw[h.pm.length_eq,List.length_eq_zero_iff]
theorem jD.m7{L:LH}{bb mb:Nat}{ro:Ro}{p:BP}{ks:List FG}(h:jD L bb mb ro p ks):L.cell? ⟨bb,7,none⟩=some (.map (some mb)):=by
 obtain⟨st,sm,h1⟩:=h.row;exact ay h1 rfl
theorem jD.D5{L:LH}{bb mb:Nat}{ro:Ro}{p:BP}{ks:List FG}(h:jD L bb mb ro p ks)(i:Nat)(v:Value)(hi:i<5)(hv:(fT ro p)[i]?=some v):L.cell? ⟨bb,i,none⟩=some v:=by
 obtain⟨st,sm,h1⟩:=h.row;refine ay h1 ?_
 match i,hi,hv with
 | 0,_,hv=>exact hv
 | 1,_,hv=>exact hv
 | 2,_,hv=>exact hv
 | 3,_,hv=>exact hv
 | 4,_,hv=>exact hv
theorem jD.le{L L':LH}{bb mb:Nat}{ro:Ro}{p:BP}{ks:List FG}(h:jD L bb mb ro p ks)(hl:Le L L'):jD L' bb mb ro p ks:=⟨let⟨st,sm,h1⟩:=h.row;⟨st,sm,hl _ _ h1⟩,hl _ _ h.mp,h.at_.le hl,h.pm⟩
def qZ(ro:Ro)(x y:Option Int):Int:=if uf ro x y≠0 then uf ro x y else if aT ro ro.ak=[] then 9 else 0
def KnQ(ro:Ro)(p:BP)(e:Int)(L:LH)(v:Value)(L':LH):Prop:=
 (e≠0∧v=.tuple #[.pointer none,.int .i64 e]∧Dm L L')∨(e=0∧gj ro∧aT ro ro.ak≠[]∧∃bb mb ks,v=.tuple #[pt bb,.int .i64 0]∧jD L' bb mb ro p ks∧Dm L L')
theorem GC(ro:Ro)(p:BP)(sa:Option Addr)(sc:Nat)(x:Option Int)(y:Option (Addr×Int))(L:LH)(cA:fD L ro p)(hx:aN L sa (qj x))(hy:∀a n,y=some (a,n)→L.cell? a=some (.int .i64 n)):
  Sp (kG Tryz.prog Post W0) 83 [qy ro p,.slice sa (qj x).length sc,.slice none 0 0,.slice none 0 0,Oo y] L (KnQ ro p (qZ ro x (y.map (·.2))) L):=by
 have aZ:=Lk (Post:=Post) (W0:=W0) ro p sa sc x y L cA hx hy;refine Sp.enter (n:=35) Tryz.func83 rfl rfl rfl rfl fun C hX _ aG r=>?_;refine W.go 99 rfl ?_;rw[←hX] at aZ;refine W.aB rfl rfl rfl (Ef.call rfl (aZ)) ?_;rintro _ _ _ ⟨_,rfl,rfl,hq⟩;rcases hq with⟨he,rfl,hl⟩ | ⟨he,ok,bb,mb,ks,rfl,nq,kD⟩
 ·have hk:qZ ro x (y.map (·.2))=uf ro x (y.map (·.2)):=by unfold qZ;rw[if_pos he]
  rw[hk] at r;generalize uf ro x (y.map (·.2))=e at he r;refine W.go 99 rfl ?_;have h0:(e==0)=false:=by simpa using he
  rw[h0];refine W.cY 25 (p:=false) rfl rfl ?_;refine W.go 99 rfl ?_;refine W.ret r rfl rfl ?_;exact .inl ⟨he,rfl,Dm.of_le hl⟩
 ·have hk:qZ ro x (y.map (·.2))=if aT ro ro.ak=[] then 9 else 0:=by unfold qZ;rw[if_neg (by simpa using he)]
  rw[hk] at r;refine W.go 99 rfl ?_;refine W.cY 25 (p:=true) rfl rfl ?_;refine W.go 99 rfl ?_;refine W.vf rfl rfl rfl rfl (Vf.load rfl rfl rfl (nq.m7)) ?_;refine W.go 99 rfl ?_;refine W.vf rfl rfl rfl rfl (Vf.yL rfl Tryz.underlying230 nq.mp) ?_;have ed:(fh ks).size=ks.length:=by unfold fh;simp
  rw[ed];refine W.go 99 rfl ?_
  by_cases h0:ks.length=0
  ·have e1:(((ks.length:Nat):Int)==0)=true:=by simp[h0]
   rw[e1];refine W.split rfl rfl rfl (fun c=>?_) (fun c=>Bool.noConfusion (show true=false from c));refine W.go 99 rfl ?_;rw[if_pos (nq.len.1 h0)] at r;refine W.ret r rfl rfl ?_;exact .inl ⟨by decide,rfl,kD⟩
  ·have e1:(((ks.length:Nat):Int)==0)=false:=by simpa using fun e=>h0 (by rw[e];rfl)
   rw[e1];refine W.split rfl rfl rfl (fun c=>Bool.noConfusion (show false=true from c)) (fun c=>?_);refine W.go 99 rfl ?_;rw[if_neg (fun e=>h0 (nq.len.2 e))] at r;refine W.ret r rfl rfl ?_;exact .inr ⟨rfl,ok,fun e=>h0 (nq.len.2 e),bb,mb,ks,rfl,nq,kD⟩
end Go.Mz
set_option maxRecDepth 100000
namespace Go.Mz
open Go.Conc Go.Proofs
variable {X:ax Tryz.prog}
theorem Vf.abw{P:Program}{E:a8}{B:List (Option Bx)}{L:LH}{t:TypeId}{x:Operand}{i:Nat}{sv:SV}{cs:Array Value}{fs:Array Field}{fl:Field}{v:Value}(hx:aL E x=some sv)(hd:den dr sv=some (.agg cs))(hu:P.underlying t=some (.struct fs))(hf:fs[i]?=some fl)(ha:eV P fl.type=some false)(hv:cs[fl.offset]?=some v):
  Vf P (.field t x i) E B L (.v v):=fun T R β hE _ _=>by
 have ex:ev T x=.agg cs:=Option.some.inj ((hE.val hx).symm.trans (cP hd β));refine⟨_,rfl,fun ty dst pos af gd Q H hq=>?_⟩;simp only[execOp,ex];rw[ae];unfold Instr.field;rw[ae,ao hu];simp only[hf];rw[ae];show az P _ _ (Go.part fl.type cs fl.offset) R;rw[pX ha hv];exact hq
theorem xJ{ro:Ro}{ss:List Sg}:aT ro ss=[]↔∀f∈aS ro.ai,¬0<bz (aI ro f ss):=by
 unfold aT;rw[List.filter_eq_nil_iff]
 constructor
 ·intro h f hf;have:=h _ (List.mem_map.2 ⟨f,hf,rfl⟩)
  simpa using this
 ·intro h a ha;obtain⟨f,hf,rfl⟩:=List.mem_map.1 ha
  simpa using h f hf
theorem It{ro:Ro}(ok:gj ro){f:List Int}(hf:f∈aS ro.ai):∀j,0≤f.getD j 0∧f.getD j 0≤3:=fun j=>by
 obtain⟨_,h2⟩:=js hf;rw[List.getD_eq_getElem?_getD];cases hj:f[j]? with
 | none=>exact⟨by simp,by simp⟩
 | some x=>
  obtain⟨g,hg,h3⟩:=h2 j x hj;have:=ok.gl g (List.mem_of_getElem? hg);unfold eo at h3;simp only[Option.getD_some];omega
theorem G2{bb mb:Nat}{ro:Ro}{p:BP}{ks:List FG}(sa:Option Addr)(sc:Nat)(ss:List Sg)(L:LH)(h:jD L bb mb ro p ks)(ok:gj ro)(iO:aX L sa 4 fE ss)(BE:∀s∈ss,zb ro s)(jg:ss.length≤1000):
  Sp X 251 [pt bb,.slice sa ss.length sc] L (fun v L'=>v=.bool (!(aT ro ss).isEmpty)∧Le L L'):=by
 refine Sp.enter (n:=15) Tryz.func251 rfl rfl rfl rfl fun C hX _ aG r=>?_;refine W.dv [6] 99 rfl ?_;refine W.cw 2 (.inl ⟨_,rfl⟩) rfl rfl ?_;intro b2 h2 _;refine W.cw 3 (.inl ⟨_,rfl⟩) rfl rfl ?_;intro b3 h3 _;refine W.cw 4 (.inl ⟨_,rfl⟩) rfl rfl ?_;intro b4 h4 _;have e2:Le L (L.put b2 (.cells #[pt bb] 173)):=Le.put h2 _;have e3:Le (L.put b2 (.cells #[pt bb] 173)) ((L.put b2 (.cells #[pt bb] 173)).put b3 (.cells #[.slice sa ss.length sc] 46)):=Le.put h3 _;have e4:Le ((L.put b2 (.cells #[pt bb] 173)).put b3 (.cells #[.slice sa ss.length sc] 46)) (((L.put b2 (.cells #[pt bb] 173)).put b3 (.cells #[.slice sa ss.length sc] 46)).put b4 (.cells #[.bool false] 4)):=Le.put h4 _;have k2:=e4 _ _ (e3 _ _ (aj L b2 (.cells #[pt bb] 173)));have k3:=e4 _ _ (aj (L.put b2 (.cells #[pt bb] 173)) b3 (.cells #[.slice sa ss.length sc] 46));have k4:=aj ((L.put b2 (.cells #[pt bb] 173)).put b3 (.cells #[.slice sa ss.length sc] 46)) b4 (.cells #[.bool false] 4);have hle:=e2.trans (e3.trans e4);have n4:=aP (e2.trans e3) h4
 change W _ _ _ _ _ _ (((L.put b2 (.cells #[pt bb] 173)).put b3 (.cells #[.slice sa ss.length sc] 46)).put b4 (.cells #[.bool false] 4))
 generalize((L.put b2 (.cells #[pt bb] 173)).put b3 (.cells #[.slice sa ss.length sc] 46)).put b4 (.cells #[.bool false] 4)=L1 at k2 k3 k4 hle ⊢;clear e2 e3 e4 h2 h3 h4;refine W.go 99 rfl ?_;refine W.vf rfl rfl rfl rfl (Vf.load rfl rfl rfl (ay k2 rfl)) ?_;refine W.go 99 rfl ?_;refine W.aB rfl rfl rfl (Ef.call rfl (GL bb L1)) ?_;rintro _ _ _ ⟨_,rfl,rfl,bc,rfl,g1,n6,g2⟩;rename_i L2;have Bu:=g2 _ _ k4;have acd:b2≠b4:=fun e=>by subst e;rw[k2] at k4;exact absurd k4 (by simp)
 have ace:b3≠b4:=fun e=>by subst e;rw[k3] at k4;exact absurd k4 (by simp)
 have acf:bc≠b4:=fun e=>by subst e;rw[k4] at n6;cases n6
 have n8:Le L (L2.cD b4):=fun b x hx=>by rw[dg (fun e=>by subst e;rw[n4] at hx;cases hx)];exact g2 _ _ (hle _ _ hx)
 have nq:=h.le n8;refine W.go 3 rfl ?_;refine W.iter (L2.cD b4) (jo _ _) (fun pre L'=>(∀f∈pre,¬0<bz (aI ro f ss))∧L' b4=some (.cells #[.bool false] 4 (0,0),true)) (fun j L'=>j=.ret∧aT ro ss≠[]∧L' b4=some (.cells #[.bool true] 4 (0,0),true)) (CK (bb:=bb) (bc:=bc) (p:=p) ok) ⟨_,rfl,rfl,rfl⟩ (by rw[r.ro]) [(7,.v (.func (.func 232) #[] #[pt bc])),(2,.v (pt b2)),(3,.v (pt b3)),(4,.v (pt b4))] (by exact⟨rfl,rfl,rfl,rfl,trivial⟩) rfl rfl rfl
  (fun _ _ _ hl h=>⟨h.1,hl _ _ h.2⟩) (fun _ _ _ hl h=>⟨h.1,h.2.1,hl _ _ h.2.2⟩) (fun _ L' hl _=>⟨hl.cell (ay (by rw[dg acf];exact g1) rfl),(nq.le hl).D5 0 _ (by decide) rfl,(nq.le hl).at_.h0⟩) ⟨fun _ hf=>(by cases hf),jG Bu⟩ rfl (fun _=>rfl) ?_ ?_ ?_
 ·rintro d l pre x post L' q lb hx oT ⟨hp,hb⟩ oo fZ QZ c1 c2 C' d1 d2 Qg IJ abF;have Bw:b4≠l:=fun e=>by subst e;rw[c1] at hb;cases hb
  have IK:b4≠d:=fun e=>by subst e;rw[c2] at hb;cases hb
  have vm:x∈aS ro.ai:=by rw[hx];simp
  refine W.go 99 rfl ?_;refine Qg _ _ _ fun L3 r1 r2=>?_;have jV:Le (L2.cD b4) L3:=fun b' y hy=>by rw[r2 _ (fun e=>by subst e;rw[oo] at hy;cases hy)];exact oT _ _ hy
  have tC:L3 b4=some (.cells #[.bool false] 4 (0,0),true):=by rw[r2 _ Bw];exact hb
  have hrd:L3 d=some (.deferred (some []),true):=by rw[r2 _ QZ.symm];exact c2
  have zO:=nq.le jV;refine W.go 99 rfl ?_;refine W.vf rfl rfl rfl rfl (Vf.load rfl rfl rfl (ay (jV _ _ (by rw[dg acd];exact g2 _ _ k2)) rfl)) ?_;refine W.go 99 rfl ?_;refine W.vf rfl rfl rfl rfl (Vf.load rfl rfl rfl (ay (jV _ _ (by rw[dg ace];exact g2 _ _ k3)) rfl)) ?_;refine W.go 99 rfl ?_;have Nd:=F1 (X:=C'.X) (b:=bb) (p:=p) x sa sc ss L3 ok ⟨.inr (zO.D5 0 _ (by decide) rfl),.inr (zO.D5 3 _ (by decide) rfl)⟩ zO.at_.h0 zO.at_.h3 (It ok vm) (iO.le (n8.trans jV)) BE jg;refine W.aB rfl rfl rfl (Ef.call rfl (Nd)) ?_;rintro _ _ _ ⟨_,rfl,rfl,rfl,sL⟩;rename_i L4;refine W.vf rfl rfl rfl rfl (Vf.abw rfl rfl Tryz.underlying239 rfl BT (show(cF x (aI ro x ss) (bz (aI ro x ss))).toArray[8]?=some (.int .i64 (bz (aI ro x ss))) from rfl)) ?_;refine W.go 99 rfl ?_
  by_cases hs:0<bz (aI ro x ss)
  ·rw[decide_eq_true hs];refine W.split rfl rfl rfl (fun c=>?_) (fun c=>absurd c (by decide));refine W.go 99 rfl ?_;refine W.dY rfl rfl (Ef.gn rfl ⟨_,rfl,rfl⟩ rfl (sL _ _ tC) rfl (Nat.le_refl _) (bY rfl)) ?_;rintro _ _ _ ⟨rfl,rfl,rfl⟩;refine W.go 99 rfl ?_;refine abF _ _ _ _ _ .ret (by rw[au _ _ (Ne.symm Bw)];exact sL _ _ r1) (by rw[au _ _ (Ne.symm IK)];exact sL _ _ hrd) (aC (jV.trans sL) (by unfold LH.cD;rw[if_pos rfl]) _) ⟨rfl,fun e=>(xJ.1 e x vm) hs,jG (aj _ _ _)⟩
  ·rw[decide_eq_false hs];refine W.split rfl rfl rfl (fun c=>absurd c (by decide)) (fun c=>?_);refine W.go 99 rfl ?_;refine IJ _ _ _ _ .nil (sL _ _ r1) (sL _ _ hrd) (jV.trans sL) ⟨fun f hf=>?_,jG (sL _ _ tC)⟩;rcases List.mem_append.1 hf with hf | hf
   ·exact hp f hf
   ·rw[List.mem_singleton.1 hf];exact hs
 ·rintro d l L' oT - fZ ⟨hp,hb⟩ hd;refine W.go 99 rfl ?_;refine W.dY rfl rfl (Ef.gn rfl ⟨_,rfl,rfl⟩ rfl hb rfl (Nat.le_refl _) (bY rfl)) ?_;rintro _ _ _ ⟨rfl,rfl,rfl⟩;refine W.go 99 rfl ?_;have IK:d≠b4:=fun e=>by subst e;rw[hd] at hb;cases hb
  have acb:L2.cD b4 b4=none:=by unfold LH.cD;rw[if_pos rfl]
  refine W.out (by rw[r.ro]) (.inr .ret) (WM.collected rfl (by rw[au _ _ IK];exact hd) (WM.Lq r rfl rfl (vt rfl (ay (by rw[au _ _ IK.symm];exact aj _ _ _) rfl)) ⟨?_,n8.trans (aC (aC oT acb _) fZ _)⟩));show _=Value.bool (!(aT ro ss).isEmpty);rw[xJ.2 hp];rfl
 ·rintro d l j L' oT - fZ ⟨rfl,hp,hb⟩ hd;have IK:d≠b4:=fun e=>by subst e;rw[hd] at hb;cases hb
  refine W.out (by rw[r.ro]) (.inr .ret) (WM.collected rfl hd (WM.Lq r rfl rfl (vt rfl (ay (by rw[au _ _ IK.symm];exact hb) rfl)) ⟨?_,n8.trans (aC oT fZ _)⟩));show _=Value.bool (!(aT ro ss).isEmpty);cases hh:aT ro ss with
  | nil=>exact absurd hh hp
  | cons _ _=>rfl
end Go.Mz
set_option maxRecDepth 100000
namespace Go.Mz
open Go.Conc
theorem bM.vI{α:Type}{L I:LH}{b k:Nat}{e:TypeId}{enc:α→List Value}{t:List α}{c:Array Value}{ty:TypeId}{fz:Nat×Nat}{wr:Bool}{a:Option Addr}{len cp:Nat}(h:bM I k e enc L (.slice a len cp) t)(hk:∀x,(enc x).length=k)(hb:L b=some (.cells c ty fz,wr))(aY:ty≠e):len=t.length∧aX (L.cD b) a k enc t:=by
 obtain⟨hI,ob,ho,hn⟩:=h;refine bM.at (I:=fun _=>none) ⟨fun _ _ h=>by(cases h),ob,ho.keep fun b' bG=>?_,fun _ _=>rfl⟩ hk;subst bG;obtain⟨_,c',_,h2,_⟩:=ho;exact dg fun e=>by subst e;rw[hb] at h2;cases h2;exact aY rfl
end Go.Mz
set_option maxRecDepth 100000
namespace Go.Mz
open Go.Conc Go.Proofs
variable {Post:Value→World→Prop}{W0:World}
theorem yR(L:LH):fD L pf O4:=⟨Hr,Hr,Hr,Hr,Hr,by decide,by decide,by decide,by decide,by decide,by decide⟩
def RoQ(r:Ro)(e:Int)(L:LH)(v:Value)(L':LH):Prop:=∃p,v=.tuple #[qy r p,.int .i64 e]∧Dm L L'∧fD L' r p
theorem Tv{X:ax Tryz.prog}(b2 b3:Nat)(ro:Ro)(p:BP)(s:Sg)(L:LH)(h2:cH L ⟨b2,0,none⟩ 5 (fT ro p))(h3:cH L ⟨b3,0,none⟩ 4 (fE s))(cA:fD L ro p):Sp X 250 [pt b2,pt b3] L (HY (de ro s) L) (HX (de ro s) L):=by
 refine Sp.enter (n:=5) Tryz.func250 rfl rfl rfl rfl fun C hX _ aG r=>?_;refine W.go 99 rfl ?_;refine W.vf rfl rfl rfl rfl (Vf.cO rfl rfl rfl (h2)) ?_;refine W.go 99 rfl ?_;refine W.vf rfl rfl rfl rfl (Vf.cO rfl rfl rfl (h3)) ?_;refine W.go 99 rfl ?_;refine W.dQ rfl rfl rfl rfl (sI ro p s L cA) ?_ ?_
 ·rintro _ L1 ⟨rfl,h0,hl⟩;refine W.go 99 rfl ?_;exact W.lP r rfl rfl ⟨rfl,h0,hl⟩
 ·rintro _ L1 ⟨h0,rfl,hl⟩;exact WM.raise r ⟨h0,rfl,hl⟩
theorem VI(ro:Ro):uf ro none none=dK ro:=by
 unfold uf
 split
 ·rfl
 ·rename_i h;exact(by simpa using h:dK ro=0).symm▸rfl
theorem gE{A H:LH}{b:Nat}(h:Le A H)(hb:A b=none):Le A (H.cD b):=fun y x hx=>by rw[dg (fun e=>by subst e;rw[hb] at hx;cases hx)];exact h _ _ hx
theorem jF(H:LH)(b:Nat):H.cD b b=none:=by unfold LH.cD;rw[if_pos rfl]
structure OM(L L':LH)(b2 bn jH:Nat)(ro:Ro)(p:BP)(ss:List Sg)(C0:LH):Prop where
 le:Le C0 L'
 no:C0 b2=none
 at_:fD C0 ro p
 sl:aX C0 (some ⟨bn,0,none⟩) 4 fE ss
 dm:Dm L C0
 b2:L' b2=some (.cells (fT ro p).toArray 48 (0,0),true)
theorem Tw(ro:Ro)(p:BP)(s:Sg)(L:LH)(cA:fD L ro p):Sp (kG Tryz.prog Post W0) 224 [qy ro p,.agg (fE s).toArray] L (RoQ (iD ro s).1 (iD ro s).2 L):=by
 have Zs:=cA.k4;have n4:=cA.n4;have aZ:=Lk (Post:=Post) (W0:=W0) ro p none 0 none none L cA (fun i z hz=>by cases hz) (fun _ _ h=>by cases h);rw[show Option.map (·.2) (none:Option (Addr×Int))=none from rfl,VI] at aZ;refine Sp.enter (n:=78) Tryz.func224 rfl rfl rfl rfl fun C hX _ aG r=>?_;rw[←hX] at aZ;refine W.go 99 rfl ?_;refine W.aB rfl rfl rfl (Ef.call rfl (aZ)) ?_;rintro _ _ _ ⟨_,rfl,rfl,hq⟩;rcases hq with⟨he,rfl,hl⟩ | ⟨he,ok,bb,mb,ks,rfl,nq,kD⟩
 ·have hA:iD ro s=(pf,dK ro):=by unfold iD;rw[if_pos he]
  rw[hA] at r;generalize dK ro=e at he r;refine W.go 99 rfl ?_;have h0:(e !=0)=true:=by simpa using he
  rw[h0];refine W.split rfl rfl rfl (fun c=>?_) (fun c=>absurd c (by decide));refine W.go 99 rfl ?_;refine W.ret r rfl rfl ?_;exact⟨O4,rfl,Dm.of_le hl,yR _⟩
 ·have hA:iD ro s=if ro.ak.length=8 then(pf,6) else if de ro s≠0 then(pf,de ro s) else if aT ro ro.ak≠[]∧aT ro (ro.ak++[s])=[] then(pf,9) else({ro with ak:=ro.ak++[s]},0):=by unfold iD;rw[if_neg (by simpa using he)]
  rw[hA] at r;refine W.go 99 rfl ?_;refine W.split rfl rfl rfl (fun c=>absurd c (by decide)) (fun c=>?_);refine W.go 99 rfl ?_;refine W.split rfl rfl rfl (fun c1=>?_) (fun c1=>?_)
  ·have Yd:ro.ak.length=8:=by simp at c1;omega
   rw[if_pos Yd] at r;refine W.go 99 rfl ?_;refine W.ret r rfl rfl ?_;exact⟨O4,rfl,kD,yR _⟩
  have Yd:¬ro.ak.length=8:=by simp at c1;omega
  rw[if_neg Yd] at r;rename_i L1;refine W.dv [24] 99 rfl ?_;refine W.cw 2 (.inl ⟨_,rfl⟩) rfl rfl ?_;intro b2 h2 _;refine W.cw 3 (.inl ⟨_,rfl⟩) rfl rfl ?_;intro b3 h3 _;have e2:Le L1 (L1.put b2 (.cells (fT ro p).toArray 48)):=Le.put h2 _;have e3:Le (L1.put b2 (.cells (fT ro p).toArray 48)) ((L1.put b2 (.cells (fT ro p).toArray 48)).put b3 (.cells (fE s).toArray 126)):=Le.put h3 _;have k2:=e3 _ _ (aj L1 b2 (.cells (fT ro p).toArray 48));have k3:=aj (L1.put b2 (.cells (fT ro p).toArray 48)) b3 (.cells (fE s).toArray 126);have hle:=e2.trans e3
  change W _ _ _ _ _ _ ((L1.put b2 (.cells (fT ro p).toArray 48)).put b3 (.cells (fE s).toArray 126))
  generalize(L1.put b2 (.cells (fT ro p).toArray 48)).put b3 (.cells (fE s).toArray 126)=L2 at k2 k3 hle ⊢;clear e2 e3 h3;refine W.go 99 rfl ?_;refine W.aB rfl rfl rfl (Ef.call rfl (zA 250 [pt b2,pt b3] (de ro s) L2 (fun L3 hl=>Tv b2 b3 ro p s L3 (gN (hl _ _ k2) rfl) (gN (hl _ _ k3) rfl) (nq.at_.le (hle.trans hl))))) ?_;rintro _ _ _ ⟨_,rfl,rfl,rfl,jV⟩;rename_i L3;refine W.go 99 rfl ?_
  by_cases c2:de ro s=0
  ·rw[if_neg (by simpa using c2)] at r;rw[c2];refine W.split rfl rfl rfl (fun c=>absurd c (by decide)) (fun c=>?_);refine W.go 99 rfl ?_;have eR:=jV _ _ k2;have tC:=jV _ _ k3;have zO:=(nq.le hle).le jV;have F4:=zO.at_;have Xw:Le L1 L3:=hle.trans jV;have adI:=kD.trans (Dm.of_le Xw);refine W.cG (E':=[(2,.v (pt b2)),(3,.v (pt b3)),(4,.p 2 0),(6,.v (pt bb))]) (B':=[none,none,some ⟨nR.z.cells.toList.map .v,48⟩]) (by exact⟨rfl,rfl,rfl,rfl,trivial⟩) (by exact⟨rfl,rfl,rfl,trivial⟩) ?_;refine W.drawn (by kernel_rfl) _ (Le.refl _) ?_;refine DD.run' [0,2,5] rfl ?_;refine DD.vf 1 rfl rfl rfl rfl rfl (Vf.load rfl rfl rfl (ay eR rfl)) ?_;refine DD.vf 3 rfl rfl rfl rfl rfl (Vf.load rfl rfl rfl (ay eR rfl)) ?_;refine DD.vf 6 rfl rfl rfl rfl rfl (Vf.load rfl rfl rfl (ay eR rfl)) ?_;refine DD.run' [4,7] rfl ?_;refine DD.vf 8 rfl rfl rfl rfl rfl (Vf.slice3 rfl rfl rfl Tryz.underlying46 SD (Nat.le_refl _) Zs) ?_;refine DD.vf 9 rfl rfl rfl rfl rfl (Vf.cO rfl rfl rfl (gN tC rfl)) ?_;refine DD.run' [10] rfl ?_;refine DD.act 11 rfl rfl rfl rfl rfl (Ef.WB (enc:=fE) (l:=ro.ak) (ls:=[s]) rfl rfl rfl rfl rfl rfl rfl rfl rfl kO F4.h4 (.own rfl rfl rfl rfl) (by simp) (by simp;omega)) ((by rintro _ _ _ ⟨_,_,_,_,rfl,hb,rfl,_⟩;exact⟨Le.put hb _,rfl,.inl rfl⟩)) ?_;rintro _ _ _ ⟨bn,cn,jH,rfl,rfl,oP,rfl,nI⟩;refine DD.run' [12] rfl ?_;refine .fin rfl ?_;refine W.go 99 rfl ?_;have aca:bn≠b2:=fun e=>by subst e;rw[oP] at eR;cases eR
   have Y5:(ro.ak++[s]).length≤jH:=by
    obtain⟨_,_,g1,g2⟩:=nI.slice;cases g1;exact g2
   have BE:∀q∈ro.ak++[s],zb ro q:=fun q hq=>by
    rcases List.mem_append.1 hq with hq | hq
    ·exact ok.si q hq
    ·rw[List.mem_singleton.1 hq];exact C8 c2
   have s8:=ok.s8;have KV:Le L3 (L3.put bn (.cells cn 126)):=Le.put oP _;have hT:OM L (L3.put bn (.cells cn 126)) b2 bn jH ro p (ro.ak++[s]) ((L3.put bn (.cells cn 126)).cD b2):=by
    have Xx:Le L1 ((L3.put bn (.cells cn 126)).cD b2):=gE (Xw.trans KV) h2;refine⟨jo _ _,jF _ _,nq.at_.le Xx,dt.at (nI.keep fun b hb=>?_) kO,kD.trans (Dm.of_le Xx),KV _ _ eR⟩;obtain rfl:=Option.some.inj hb;exact dg aca
   have CB:=zO.le KV;have hpn:aX (L3.put bn (.cells cn 126)) (some ⟨bn,0,none⟩) 4 fE (ro.ak++[s]):=nI.at kO
   change W _ _ _ _ _ _ (L3.put bn (.cells cn 126))
   generalize L3.put bn (.cells cn 126)=L4 at KV hT CB hpn ⊢;refine W.vf rfl rfl rfl rfl (Vf.load rfl rfl rfl (CB.m7)) ?_;refine W.go 99 rfl ?_;refine W.vf rfl rfl rfl rfl (Vf.yL rfl Tryz.underlying230 CB.mp) ?_;have ed:(fh ks).size=ks.length:=by unfold fh;simp
   rw[ed];refine W.KA (fun E B L'=>(¬(aT ro ro.ak≠[]∧aT ro (ro.ak++[s])=[]))∧(∃C0,OM L L' b2 bn jH ro p (ro.ak++[s]) C0)∧
    gk E [(2,.v (pt b2)),(4,.p 2 0),(9,.v (.slice (some ⟨bn,0,none⟩) (ro.ak++[s]).length jH))]∧oD B [none,none,some ⟨nR.z.cells.toList.map .v,48⟩]) ?_ ?_
   ·rintro E B L' ⟨kF,⟨C0,hT⟩,hE,hB⟩;rw[if_neg kF] at r;refine W.cG hE hB ?_;have Np:=hT.at_;have q0:=Np.n0;have q1:=Np.n1;have q2:=Np.n2;have q3:=Np.n3;have zL:=hT.le;have kR:=hT.no;have Qd:=hT.b2;have Rc:=hT.sl;have ym:=hT.dm;clear hT
    -- ai
    refine W.dv [56] 99 rfl ?_;refine W.cw 55 (.inr ⟨_,_,_,rfl⟩) rfl rfl ?_;intro u1 Rj _;refine W.go 99 rfl ?_;refine W.vf rfl rfl rfl rfl (Vf.load rfl rfl rfl (ay ((Le.put Rj _) _ _ Qd) rfl)) ?_;refine W.go 99 rfl ?_;refine W.aB rfl rfl rfl (Ef.grow rfl rfl rfl rfl rfl rfl rfl rfl rfl mT B7 (bM.new (Le.put Rj _) (aj _ _ _) Rj) (ls:=ro.ai) (YC.sl ((Np.h0.le zL).le (Le.put Rj _)) mT rfl) ((by simp;omega))) ?_;rintro _ _ _ ⟨v1,rfl,rfl,fe,U9⟩;rename_i M1;obtain⟨gM,dM,rfl,adw⟩:=fe.slice;refine W.go 99 rfl ?_;have WT:=fe.1 _ _ Qd;have acu:aX (M1.cD b2) gM 4 eY ro.ai:=(bM.vI fe mT WT (by decide)).2;have Qr:=gE (zL.trans fe.1) kR;refine W.dY rfl rfl (Ef.gn rfl ⟨_,rfl,rfl⟩ rfl WT rfl (by show 0+1≤5;decide) (bY rfl)) ?_;rintro _ _ _ ⟨rfl,rfl,rfl⟩;have dN:=aj M1 b2 (.cells #[.slice gM ro.ai.length dM,.slice p.a1 ro.steps.length p.c1,.slice p.a2 ro.aA.length p.c2,.slice p.a3 ro.samples.length p.c3,.slice p.a4 ro.ak.length p.c4] 48);have iL:Le (M1.cD b2) (M1.put b2 (.cells #[.slice gM ro.ai.length dM,.slice p.a1 ro.steps.length p.c1,.slice p.a2 ro.aA.length p.c2,.slice p.a3 ro.samples.length p.c3,.slice p.a4 ro.ak.length p.c4] 48)):=qI;have BC:=jF M1 b2;have IY:=Np.le Qr;have yz:=Rc.le Qr;have oQ:=ym.trans (Dm.of_le Qr)
    change W _ _ _ _ _ _ (M1.put b2 (.cells #[.slice gM ro.ai.length dM,.slice p.a1 ro.steps.length p.c1,.slice p.a2 ro.aA.length p.c2,.slice p.a3 ro.samples.length p.c3,.slice p.a4 ro.ak.length p.c4] 48))
    generalize M1.put b2 (.cells #[.slice gM ro.ai.length dM,.slice p.a1 ro.steps.length p.c1,.slice p.a2 ro.aA.length p.c2,.slice p.a3 ro.samples.length p.c3,.slice p.a4 ro.ak.length p.c4] 48)=H1 at dN iL ⊢;refine W.cG (E':=[(2,.v (pt b2)),(4,.p 2 0),(9,.v (.slice (some ⟨bn,0,none⟩) (ro.ak++[s]).length jH))]) (B':=[none,none,some ⟨nR.z.cells.toList.map .v,48⟩]) (by exact⟨rfl,rfl,rfl,trivial⟩) (by exact⟨rfl,rfl,rfl,trivial⟩) ?_
    -- steps
    refine W.dv [61] 99 rfl ?_;refine W.cw 60 (.inr ⟨_,_,_,rfl⟩) rfl rfl ?_;intro u2 Ns _;refine W.go 99 rfl ?_;refine W.vf rfl rfl rfl rfl (Vf.load rfl rfl rfl (ay ((Le.put Ns _) _ _ dN) rfl)) ?_;refine W.go 99 rfl ?_;refine W.aB rfl rfl rfl (Ef.grow rfl rfl rfl rfl rfl rfl rfl rfl rfl aV iF (bM.new (Le.put Ns _) (aj _ _ _) Ns) (ls:=ro.steps) (YC.sl ((IY.h1.le iL).le (Le.put Ns _)) aV rfl) ((by simp;omega))) ?_;rintro _ _ _ ⟨v2,rfl,rfl,oS,qx⟩;rename_i M2;obtain⟨py,kI,rfl,adx⟩:=oS.slice;refine W.go 99 rfl ?_;have WU:=oS.1 _ _ dN;have acv:aX (M2.cD b2) py 1 cj ro.steps:=(bM.vI oS aV WU (by decide)).2;have KR:=gE (iL.trans oS.1) BC;refine W.dY rfl rfl (Ef.gn rfl ⟨_,rfl,rfl⟩ rfl WU rfl (by show 1+1≤5;decide) (bY rfl)) ?_;rintro _ _ _ ⟨rfl,rfl,rfl⟩;have eR:=aj M2 b2 (.cells #[.slice gM ro.ai.length dM,.slice py ro.steps.length kI,.slice p.a2 ro.aA.length p.c2,.slice p.a3 ro.samples.length p.c3,.slice p.a4 ro.ak.length p.c4] 48);have nk:Le (M2.cD b2) (M2.put b2 (.cells #[.slice gM ro.ai.length dM,.slice py ro.steps.length kI,.slice p.a2 ro.aA.length p.c2,.slice p.a3 ro.samples.length p.c3,.slice p.a4 ro.ak.length p.c4] 48)):=qI;have El:=jF M2 b2;have vk:=IY.le KR;have Nq:=yz.le KR;have iM:=oQ.trans (Dm.of_le KR)
    change W _ _ _ _ _ _ (M2.put b2 (.cells #[.slice gM ro.ai.length dM,.slice py ro.steps.length kI,.slice p.a2 ro.aA.length p.c2,.slice p.a3 ro.samples.length p.c3,.slice p.a4 ro.ak.length p.c4] 48))
    generalize M2.put b2 (.cells #[.slice gM ro.ai.length dM,.slice py ro.steps.length kI,.slice p.a2 ro.aA.length p.c2,.slice p.a3 ro.samples.length p.c3,.slice p.a4 ro.ak.length p.c4] 48)=H2 at eR nk ⊢;refine W.cG (E':=[(2,.v (pt b2)),(4,.p 2 0),(9,.v (.slice (some ⟨bn,0,none⟩) (ro.ak++[s]).length jH))]) (B':=[none,none,some ⟨nR.z.cells.toList.map .v,48⟩]) (by exact⟨rfl,rfl,rfl,trivial⟩) (by exact⟨rfl,rfl,rfl,trivial⟩) ?_
    -- aA
    refine W.dv [66] 99 rfl ?_;refine W.cw 65 (.inr ⟨_,_,_,rfl⟩) rfl rfl ?_;intro u3 U4 _;refine W.go 99 rfl ?_;refine W.vf rfl rfl rfl rfl (Vf.load rfl rfl rfl (ay ((Le.put U4 _) _ _ eR) rfl)) ?_;refine W.go 99 rfl ?_;refine W.aB rfl rfl rfl (Ef.grow rfl rfl rfl rfl rfl rfl rfl rfl rfl aV iF (bM.new (Le.put U4 _) (aj _ _ _) U4) (ls:=ro.aA) (YC.sl ((vk.h2.le nk).le (Le.put U4 _)) aV rfl) ((by simp;omega))) ?_;rintro _ _ _ ⟨v3,rfl,rfl,Gb,hx3⟩;rename_i M3;obtain⟨s5,nE,rfl,ady⟩:=Gb.slice;refine W.go 99 rfl ?_;have WV:=Gb.1 _ _ eR;have acw:aX (M3.cD b2) s5 1 cj ro.aA:=(bM.vI Gb aV WV (by decide)).2;have F7:=gE (nk.trans Gb.1) El;refine W.dY rfl rfl (Ef.gn rfl ⟨_,rfl,rfl⟩ rfl WV rfl (by show 2+1≤5;decide) (bY rfl)) ?_;rintro _ _ _ ⟨rfl,rfl,rfl⟩;have tC:=aj M3 b2 (.cells #[.slice gM ro.ai.length dM,.slice py ro.steps.length kI,.slice s5 ro.aA.length nE,.slice p.a3 ro.samples.length p.c3,.slice p.a4 ro.ak.length p.c4] 48);have Y4:Le (M3.cD b2) (M3.put b2 (.cells #[.slice gM ro.ai.length dM,.slice py ro.steps.length kI,.slice s5 ro.aA.length nE,.slice p.a3 ro.samples.length p.c3,.slice p.a4 ro.ak.length p.c4] 48)):=qI;have hn3:=jF M3 b2;have hr3:=vk.le F7;have ZT:=Nq.le F7;have Y9:=iM.trans (Dm.of_le F7)
    change W _ _ _ _ _ _ (M3.put b2 (.cells #[.slice gM ro.ai.length dM,.slice py ro.steps.length kI,.slice s5 ro.aA.length nE,.slice p.a3 ro.samples.length p.c3,.slice p.a4 ro.ak.length p.c4] 48))
    generalize M3.put b2 (.cells #[.slice gM ro.ai.length dM,.slice py ro.steps.length kI,.slice s5 ro.aA.length nE,.slice p.a3 ro.samples.length p.c3,.slice p.a4 ro.ak.length p.c4] 48)=H3 at tC Y4 ⊢;refine W.cG (E':=[(2,.v (pt b2)),(4,.p 2 0),(9,.v (.slice (some ⟨bn,0,none⟩) (ro.ak++[s]).length jH))]) (B':=[none,none,some ⟨nR.z.cells.toList.map .v,48⟩]) (by exact⟨rfl,rfl,rfl,trivial⟩) (by exact⟨rfl,rfl,rfl,trivial⟩) ?_
    -- samples
    refine W.dv [71] 99 rfl ?_;refine W.cw 70 (.inr ⟨_,_,_,rfl⟩) rfl rfl ?_;intro u4 U5 _;refine W.go 99 rfl ?_;refine W.vf rfl rfl rfl rfl (Vf.load rfl rfl rfl (ay ((Le.put U5 _) _ _ tC) rfl)) ?_;refine W.go 99 rfl ?_;refine W.aB rfl rfl rfl (Ef.grow rfl rfl rfl rfl rfl rfl rfl rfl rfl gQ oJ (bM.new (Le.put U5 _) (aj _ _ _) U5) (ls:=ro.samples) (YC.sl ((hr3.h3.le Y4).le (Le.put U5 _)) gQ rfl) ((by simp;omega))) ?_;rintro _ _ _ ⟨v4,rfl,rfl,yp,hx4⟩;rename_i M4;obtain⟨ze,sH,rfl,adz⟩:=yp.slice;refine W.go 99 rfl ?_;have WW:=yp.1 _ _ tC;have acx:aX (M4.cD b2) ze 2 di ro.samples:=(bM.vI yp gQ WW (by decide)).2;have Cq:=gE (Y4.trans yp.1) hn3;refine W.dY rfl rfl (Ef.gn rfl ⟨_,rfl,rfl⟩ rfl WW rfl (by show 3+1≤5;decide) (bY rfl)) ?_;rintro _ _ _ ⟨rfl,rfl,rfl⟩;have Bu:=aj M4 b2 (.cells #[.slice gM ro.ai.length dM,.slice py ro.steps.length kI,.slice s5 ro.aA.length nE,.slice ze ro.samples.length sH,.slice p.a4 ro.ak.length p.c4] 48);have II:Le (M4.cD b2) (M4.put b2 (.cells #[.slice gM ro.ai.length dM,.slice py ro.steps.length kI,.slice s5 ro.aA.length nE,.slice ze ro.samples.length sH,.slice p.a4 ro.ak.length p.c4] 48)):=qI;have hn4:=jF M4 b2;have hr4:=hr3.le Cq;have ZU:=ZT.le Cq;have hd4:=Y9.trans (Dm.of_le Cq)
    change W _ _ _ _ _ _ (M4.put b2 (.cells #[.slice gM ro.ai.length dM,.slice py ro.steps.length kI,.slice s5 ro.aA.length nE,.slice ze ro.samples.length sH,.slice p.a4 ro.ak.length p.c4] 48))
    generalize M4.put b2 (.cells #[.slice gM ro.ai.length dM,.slice py ro.steps.length kI,.slice s5 ro.aA.length nE,.slice ze ro.samples.length sH,.slice p.a4 ro.ak.length p.c4] 48)=H4 at Bu II ⊢;refine W.cG (E':=[(2,.v (pt b2)),(4,.p 2 0),(9,.v (.slice (some ⟨bn,0,none⟩) (ro.ak++[s]).length jH))]) (B':=[none,none,some ⟨nR.z.cells.toList.map .v,48⟩]) (by exact⟨rfl,rfl,rfl,trivial⟩) (by exact⟨rfl,rfl,rfl,trivial⟩) ?_;refine W.go 99 rfl ?_;refine W.dY rfl rfl (Ef.gn rfl ⟨_,rfl,rfl⟩ rfl Bu rfl (by show 4+1≤5;decide) (bY rfl)) ?_;rintro _ _ _ ⟨rfl,rfl,rfl⟩;have tD:=aj H4 b2 (.cells #[.slice gM ro.ai.length dM,.slice py ro.steps.length kI,.slice s5 ro.aA.length nE,.slice ze ro.samples.length sH,.slice (some ⟨bn,0,none⟩) (ro.ak++[s]).length jH] 48);have hc5:Le (H4.cD b2) (H4.put b2 (.cells #[.slice gM ro.ai.length dM,.slice py ro.steps.length kI,.slice s5 ro.aA.length nE,.slice ze ro.samples.length sH,.slice (some ⟨bn,0,none⟩) (ro.ak++[s]).length jH] 48)):=qI;have abH:=gE II hn4
    change W _ _ _ _ _ _ (H4.put b2 (.cells #[.slice gM ro.ai.length dM,.slice py ro.steps.length kI,.slice s5 ro.aA.length nE,.slice ze ro.samples.length sH,.slice (some ⟨bn,0,none⟩) (ro.ak++[s]).length jH] 48))
    generalize H4.put b2 (.cells #[.slice gM ro.ai.length dM,.slice py ro.steps.length kI,.slice s5 ro.aA.length nE,.slice ze ro.samples.length sH,.slice (some ⟨bn,0,none⟩) (ro.ak++[s]).length jH] 48)=H5 at tD hc5 ⊢;refine W.go 99 rfl ?_;refine W.vf rfl rfl rfl rfl (Vf.cO rfl rfl rfl (gN (vs:=[.slice gM ro.ai.length dM,.slice py ro.steps.length kI,.slice s5 ro.aA.length nE,.slice ze ro.samples.length sH,.slice (some ⟨bn,0,none⟩) (ro.ak++[s]).length jH]) tD rfl)) ?_;refine W.go 99 rfl ?_;refine W.ret r rfl rfl ?_;have np:(ro.ak++[s]).length≤1000000:=by simp;omega
    have M0:=abH.trans hc5;exact⟨⟨gM,py,s5,ze,some ⟨bn,0,none⟩,dM,kI,nE,sH,jH⟩,rfl,hd4.trans (Dm.of_le M0),⟨((acu.le KR).le F7).le (Cq.trans M0),(acv.le F7).le (Cq.trans M0),acw.le (Cq.trans M0),acx.le M0,ZU.le M0,q0,q1,q2,q3,np,Y5⟩⟩
   ·intro rest
    by_cases hz:ks.length=0
    ·have Cw:=CB.len.1 hz;rw[show(((ks.length:Nat):Int))=0 by omega];refine W.go 99 rfl ?_;refine W.cY 48 (p:=false) rfl rfl ?_;refine W.go 8 rfl ?_;exact rest _ _ _ ⟨fun h=>h.1 Cw,⟨_,hT⟩,⟨rfl,rfl,rfl,trivial⟩,⟨rfl,rfl,rfl,trivial⟩⟩
    ·have aY:aT ro ro.ak≠[]:=fun e=>hz (CB.len.2 e);refine W.go 99 rfl ?_;refine W.cY 48 (p:=true) rfl (congrArg some (decide_eq_true (by omega))) ?_;refine W.go 99 rfl ?_;have wI:=G2 (X:=kG Tryz.prog Post W0) (some ⟨bn,0,none⟩) jH (ro.ak++[s]) L4 CB ok hpn BE (by simp;omega);rw[←hX] at wI;refine W.aB rfl rfl rfl (Ef.call rfl (wI)) ?_;rintro _ _ _ ⟨_,rfl,rfl,rfl,QP⟩
     by_cases Cw:aT ro (ro.ak++[s])=[]
     ·rw[if_pos ⟨aY,Cw⟩] at r;rw[Cw];refine W.go 99 rfl ?_;refine W.split rfl rfl rfl (fun c=>?_) (fun c=>absurd c (by decide));refine W.go 99 rfl ?_;refine W.ret r rfl rfl ?_;exact⟨O4,rfl,(hT.dm.trans (Dm.of_le hT.le)).trans (Dm.of_le QP),yR _⟩
     ·have he:(aT ro (ro.ak++[s])).isEmpty=false:=by
       cases hh:aT ro (ro.ak++[s]) with
       | nil=>exact absurd hh Cw
       | cons _ _=>rfl
      rw[he];refine W.go 3 rfl ?_;refine W.split rfl rfl rfl (fun c=>absurd c (by decide)) (fun c=>?_);refine W.go 2 rfl ?_;exact rest _ _ _ ⟨fun h=>Cw h.2,⟨_,⟨hT.le.trans QP,hT.no,hT.at_,hT.sl,hT.dm,QP _ _ hT.b2⟩⟩,⟨rfl,rfl,rfl,trivial⟩,⟨rfl,rfl,rfl,trivial⟩⟩
  ·rw[if_pos c2] at r;refine W.split rfl rfl rfl (fun _=>?_) (fun e=>absurd e (by simpa using c2));refine W.go 99 rfl ?_;refine W.ret r rfl rfl ?_;exact⟨O4,rfl,kD.trans (Dm.of_le (hle.trans jV)),yR _⟩
end Go.Mz
set_option maxRecDepth 100000
namespace Go.Mz
open Go.Conc Go.Proofs
variable {X:ax Tryz.prog}
theorem OU{bb mb:Nat}{ro:Ro}{p:BP}{ks:List FG}(k:Nat)(L:LH)(h:jD L bb mb ro p ks)(ok:gj ro)(hk:k≤ro.steps.length):Sp X 310 [pt bb,.int .i64 k] L (fun v L'=>v=yD (bh ro k)∧L=L'):=by
 have t3:=ok.t3;have h1:=h.D5 1 _ (by decide) rfl;have cu:=h.at_.h1;obtain⟨a0,a1,a2,a3,a4,k0,k1,k2,k3,k4⟩:=p;obtain⟨a,ha⟩:=cu.addr (show 0<ro.steps.length by have:=ok.t1;omega);obtain rfl:a1=some a:=ha;refine Sp.enter (n:=38) Tryz.func310 rfl rfl rfl rfl fun C hX _ aG r=>?_;refine W.go 99 rfl ?_
 by_cases Ek:0<k
 ·have e1:IntKind.i64.wrap ((k:Int) - 1)=((k - 1:Nat):Int):=by rw[wrap64_in _ (by omega) (by omega)];omega
  have U9:ro.steps[k - 1]?=some (ro.steps.getD (k - 1) 0):=by rw[List.getD_eq_getElem?_getD,List.getElem?_eq_getElem (show k - 1<ro.steps.length by omega)];rfl
  rw[decide_eq_true (show(0:Int)<(k:Int) by omega)];refine W.split rfl rfl rfl (fun c=>?_) (fun c=>absurd c (by decide));refine W.go 99 rfl ?_;refine W.vf rfl rfl rfl rfl (Vf.load rfl rfl rfl (h1)) ?_;refine W.go 99 rfl ?_;rw[e1];refine W.vf rfl rfl rfl rfl (Vf.aW rfl rfl rfl rfl rfl rfl rfl ((show k - 1<ro.steps.length by omega))) ?_;refine W.go 99 rfl ?_;refine W.vf rfl rfl rfl rfl (Vf.load rfl rfl rfl (cu.int U9)) ?_;refine W.go 99 rfl ?_;refine W.vf rfl rfl rfl rfl (Vf.load rfl rfl rfl (h1)) ?_;refine W.go 99 rfl ?_
  by_cases lK:k<ro.steps.length
  ·have qx:ro.steps[k]?=some (ro.steps.getD k 0):=by rw[List.getD_eq_getElem?_getD,List.getElem?_eq_getElem lK];rfl
   have eR:=ok.st _ (List.mem_of_getElem? qx);rw[decide_eq_true (show(k:Int)<(ro.steps.length:Int) by omega)];refine W.split rfl rfl rfl (fun c=>?_) (fun c=>absurd c (by decide));refine W.go 99 rfl ?_;refine W.vf rfl rfl rfl rfl (Vf.load rfl rfl rfl (h1)) ?_;refine W.go 99 rfl ?_;refine W.vf rfl rfl rfl rfl (Vf.aW rfl rfl rfl rfl rfl rfl rfl (lK)) ?_;refine W.go 99 rfl ?_;refine W.vf rfl rfl rfl rfl (Vf.load rfl rfl rfl (cu.int qx)) ?_;refine W.go 99 rfl ?_;rw[wrap64_in (ro.steps.getD k 0 - 1) (by omega) (by omega)];have ha:bh ro k=⟨ro.steps.getD (k - 1) 0,ro.steps.getD k 0 - 1⟩:=by unfold bh;rw[if_pos Ek,if_pos lK]
   rw[ha] at r;exact W.ret r rfl rfl ⟨rfl,rfl⟩
  ·rw[decide_eq_false (show¬(k:Int)<(ro.steps.length:Int) by omega)];refine W.split rfl rfl rfl (fun c=>absurd c (by decide)) (fun c=>?_);refine W.go 99 rfl ?_;have ha:bh ro k=⟨ro.steps.getD (k - 1) 0,40⟩:=by unfold bh;rw[if_pos Ek,if_neg lK]
   rw[ha] at r;exact W.ret r rfl rfl ⟨rfl,rfl⟩
 ·rw[decide_eq_false (show¬(0:Int)<(k:Int) by omega)];refine W.split rfl rfl rfl (fun c=>absurd c (by decide)) (fun c=>?_);refine W.go 99 rfl ?_;refine W.vf rfl rfl rfl rfl (Vf.load rfl rfl rfl (h1)) ?_;refine W.go 99 rfl ?_
  by_cases lK:k<ro.steps.length
  ·have qx:ro.steps[k]?=some (ro.steps.getD k 0):=by rw[List.getD_eq_getElem?_getD,List.getElem?_eq_getElem lK];rfl
   have eR:=ok.st _ (List.mem_of_getElem? qx);rw[decide_eq_true (show(k:Int)<(ro.steps.length:Int) by omega)];refine W.split rfl rfl rfl (fun c=>?_) (fun c=>absurd c (by decide));refine W.go 99 rfl ?_;refine W.vf rfl rfl rfl rfl (Vf.load rfl rfl rfl (h1)) ?_;refine W.go 99 rfl ?_;refine W.vf rfl rfl rfl rfl (Vf.aW rfl rfl rfl rfl rfl rfl rfl (lK)) ?_;refine W.go 99 rfl ?_;refine W.vf rfl rfl rfl rfl (Vf.load rfl rfl rfl (cu.int qx)) ?_;refine W.go 99 rfl ?_;rw[wrap64_in (ro.steps.getD k 0 - 1) (by omega) (by omega)];have ha:bh ro k=⟨0,ro.steps.getD k 0 - 1⟩:=by unfold bh;rw[if_neg Ek,if_pos lK]
   rw[ha] at r;exact W.ret r rfl rfl ⟨rfl,rfl⟩
  ·rw[decide_eq_false (show¬(k:Int)<(ro.steps.length:Int) by omega)];refine W.split rfl rfl rfl (fun c=>absurd c (by decide)) (fun c=>?_);refine W.go 99 rfl ?_;have ha:bh ro k=⟨0,40⟩:=by unfold bh;rw[if_neg Ek,if_neg lK]
   rw[ha] at r;exact W.ret r rfl rfl ⟨rfl,rfl⟩
theorem N9(f:List Int)(g:List bV)(k:Nat)(s:bV)(L:LH)(hg:g.length≤2)(hk:k<g.length)(kT:∀x∈g,uh x)(hs:-1000≤s.lo∧s.lo≤1000∧-1000≤s.hi∧s.hi≤1000)(hp:0<bR (g.getD k ⟨0,0⟩))(hz:0≤bz g∧bz g≤1681):
  Sp X 309 [.agg (cF f g (bz g)).toArray,.int .i64 k,yD s] L (fun v L'=>v=.int .i64 (cW g k s)∧L=L'):=by
 rw[Kv];have QG:g[k]?=some (g.getD k ⟨0,0⟩):=by rw[List.getD_eq_getElem?_getD,List.getElem?_eq_getElem hk];rfl
 have hm:=kT _ (List.mem_of_getElem? QG);unfold uh at hm;have IU:0≤bR (dj (g.getD k ⟨0,0⟩) s)∧bR (dj (g.getD k ⟨0,0⟩) s)≤41:=by unfold bR dj;simp only;omega
 have sz:=rj (kT _ (List.mem_of_getElem? QG));have Q7:0≤(bz g).tdiv (bR (g.getD k ⟨0,0⟩)):=Int.tdiv_nonneg hz.1 (by omega);have Gs:(bz g).tdiv (bR (g.getD k ⟨0,0⟩))≤1681:=by
  have h1:(bz g).tdiv (bR (g.getD k ⟨0,0⟩))≤bz g:=by
   rw[Int.tdiv_eq_ediv_of_nonneg hz.1];exact Int.ediv_le_self _ hz.1
  omega
 have hw:IntKind.i64.wrap ((bz g).tdiv (bR (g.getD k ⟨0,0⟩)) *bR (dj (g.getD k ⟨0,0⟩) s))=cW g k s:=by
  have h1:=Int.mul_nonneg Q7 IU.1;have h2:(bz g).tdiv (bR (g.getD k ⟨0,0⟩)) *bR (dj (g.getD k ⟨0,0⟩) s)≤1681 * 41:=Int.mul_le_mul Gs IU.2 IU.1 (by decide);exact wrap64_in _ (by omega) (by omega)
 rcases(show k=0∨k=1 by omega) with rfl | rfl
 ·refine Sp.enter (n:=23) Tryz.func309 rfl rfl rfl rfl fun C hX _ aG r=>?_;refine W.go 99 rfl ?_;refine W.drawn (by kernel_rfl) _ (Le.refl _) ?_;refine DD.run' [0,1,2,3,8,9,12] rfl ?_;refine DD.vf 4 rfl rfl rfl rfl rfl (Vf.oX rfl rfl rfl rfl rfl rfl ((by decide))) ?_;refine DD.vf 10 rfl rfl rfl rfl rfl (Vf.oX rfl rfl rfl rfl rfl rfl ((by decide))) ?_;refine DD.run' [5,11] rfl ?_;refine DD.act 6 rfl rfl rfl rfl rfl (Ef.call rfl (mZ (g.getD 0 ⟨0,0⟩) _ (by omega))) (by rintro _ _ _ ⟨_,rfl,rfl,rfl,rfl⟩;exact⟨Le.refl _,rfl,.inl rfl⟩) ?_;rintro _ _ _ ⟨_,rfl,rfl,rfl,rfl⟩;refine DD.vf 7 rfl rfl rfl rfl rfl (Vf.quo rfl rfl (by omega)) ?_;rw[wrap64_in _ (by omega) (by omega)];refine DD.act 13 rfl rfl rfl rfl rfl (Ef.call rfl (Ey (g.getD 0 ⟨0,0⟩) s _)) (by rintro _ _ _ ⟨_,rfl,rfl,rfl,rfl⟩;exact⟨Le.refl _,rfl,.inl rfl⟩) ?_;rintro _ _ _ ⟨_,rfl,rfl,rfl,rfl⟩;refine DD.act 14 rfl rfl rfl rfl rfl (Ef.call rfl (mZ (dj (g.getD 0 ⟨0,0⟩) s) _ (by unfold dj;simp only;omega))) (by rintro _ _ _ ⟨_,rfl,rfl,rfl,rfl⟩;exact⟨Le.refl _,rfl,.inl rfl⟩) ?_;rintro _ _ _ ⟨_,rfl,rfl,rfl,rfl⟩;refine DD.run' [15,16] rfl ?_;refine .fin rfl ?_;refine W.go 99 rfl ?_;rw[hw];exact W.ret r rfl rfl ⟨rfl,rfl⟩
 ·refine Sp.enter (n:=23) Tryz.func309 rfl rfl rfl rfl fun C hX _ aG r=>?_;refine W.go 99 rfl ?_;refine W.drawn (by kernel_rfl) _ (Le.refl _) ?_;refine DD.run' [0,1,2,3,8,9,12] rfl ?_;refine DD.vf 4 rfl rfl rfl rfl rfl (Vf.oX rfl rfl rfl rfl rfl rfl ((by decide))) ?_;refine DD.vf 10 rfl rfl rfl rfl rfl (Vf.oX rfl rfl rfl rfl rfl rfl ((by decide))) ?_;refine DD.run' [5,11] rfl ?_;refine DD.act 6 rfl rfl rfl rfl rfl (Ef.call rfl (mZ (g.getD 1 ⟨0,0⟩) _ (by omega))) (by rintro _ _ _ ⟨_,rfl,rfl,rfl,rfl⟩;exact⟨Le.refl _,rfl,.inl rfl⟩) ?_;rintro _ _ _ ⟨_,rfl,rfl,rfl,rfl⟩;refine DD.vf 7 rfl rfl rfl rfl rfl (Vf.quo rfl rfl (by omega)) ?_;rw[wrap64_in _ (by omega) (by omega)];refine DD.act 13 rfl rfl rfl rfl rfl (Ef.call rfl (Ey (g.getD 1 ⟨0,0⟩) s _)) (by rintro _ _ _ ⟨_,rfl,rfl,rfl,rfl⟩;exact⟨Le.refl _,rfl,.inl rfl⟩) ?_;rintro _ _ _ ⟨_,rfl,rfl,rfl,rfl⟩;refine DD.act 14 rfl rfl rfl rfl rfl (Ef.call rfl (mZ (dj (g.getD 1 ⟨0,0⟩) s) _ (by unfold dj;simp only;omega))) (by rintro _ _ _ ⟨_,rfl,rfl,rfl,rfl⟩;exact⟨Le.refl _,rfl,.inl rfl⟩) ?_;rintro _ _ _ ⟨_,rfl,rfl,rfl,rfl⟩;refine DD.run' [15,16] rfl ?_;refine .fin rfl ?_;refine W.go 99 rfl ?_;rw[hw];exact W.ret r rfl rfl ⟨rfl,rfl⟩
end Go.Mz
