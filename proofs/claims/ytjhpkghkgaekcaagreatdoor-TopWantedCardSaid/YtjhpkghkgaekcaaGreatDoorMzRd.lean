/- Lemmas for the claim. -/
import Derived.Test.YtjhpkghkgaekcaaGreatDoorMzRc
import Derived.Conc.HoldsTime
set_option linter.defProp false
set_option maxRecDepth 100000
namespace Go.Mz
open Go.Conc
variable {P:aV}{α:Type}{n k m:Nat}{L R J:LH}{t e:bh}{w u:World}{h:α->List Value}{c:Int}{B:aX}{x:aW}{Y:Trace}{l:aH}{r:List α}{s:Sw}{q:aU}{Q:bC}{E:cK}{j:aR}{D:bt}{d:bA}{F:Env}{g:aT}{o:bD}{C:bH}{N:Nm}{K:bI}{z:SV}{I:cj}{H:ck}{X:aM Proofs.Tryz.prog}
section
open Go.ConcN Go.ConcM Go.Proofs Go.ChangeShapes Go.WideShapes Go.RowKit
theorem B4{enc:TypeId×Value->α}{C:Checked}{os:Os}{f:bO}{o:Func}{s:ChangeSpec}{n:List PathCond}{k:Bool}{X:World->Array Value->Prop}(q:World)(e:aK)(d:Nat)(c:q.os=os)
  (g:(q.forCall (λ_ _=>0) ⟨#[],e,[]⟩).variablesB C.prog=true)
  (b:((q.forCall (λ_ _=>0) ⟨#[],e,[]⟩).heap.toList.drop C.prog.globals.size).take ((begin C.prog (λ_ _=>0) default).world.heap.size - C.prog.globals.size)=
   (begin C.prog (λ_ _=>0) default).world.heap.toList.drop C.prog.globals.size)
  (v:Input.okWideB C.prog (q.forCall (λ_ _=>0) ⟨#[],e,[]⟩) f ⟨#[],e,[]⟩=true)
  (a:s.preB enc C.prog o n k (q.forCall (λ_ _=>0) ⟨#[],e,[]⟩).memory e d=true)
  (t:s.sizedB enc C.prog o k (q.forCall (λ_ _=>0) ⟨#[],e,[]⟩).memory e d=true)
  (u:X (q.forCall (λ_ _=>0) ⟨#[],e,[]⟩).memory e):
  ∃(w:World) (z:Tape) (i:Input),w.os=os/\(w.forCall z i).Shaped C.prog/\i.vars=[]/\Input.okWide C.prog (w.forCall z i) .any w.heap.size f i/\
   ((s.pre enc C.prog o n k (w.forCall z i).memory i.args/\X (w.forCall z i).memory i.args)/\sizedMet enc C.prog o (OpenSpec.ofChange s) k (w.forCall z i).memory i.args)/\({calm:=true}:Assume).holds C.prog (lone (Frame.enter C.prog f i.args .normal) [] (w.forCall z i)):=
 ⟨q,λ_ _=>0,⟨#[],e,[]⟩,c,World.shaped_of_B g b,(Input.okWide_of_okWideB (base:=0) v).1,(Input.okWide_of_okWideB v).2,⟨⟨ChangeSpec.pre_of_preB a,u⟩,sizedMet_of_sizedB t⟩,by
  simp only[Assume.holds];exact⟨U,λ_ _ _ _=>rfl,U,U,U⟩⟩
theorem wX{I:TypeId×Value->α}{a:Assume}{C:Checked}{E:Os}{f:bO}{q:Func}{s:ChangeSpec}{F:Stop.Interp}{n:List PathCond}{k J g:Bool}{X:World->Array Value->Prop}(hX:∀(w c:World) (d:aK),w.heap=c.heap->X w d->X c d)
  (y:ownKnob C.prog.godebug=none)(h:E.Started)(u1:C.prog.funcs[f]?=some q)
  (K:∃(w:World) (m:Tape) (i:Input),w.os=E/\(w.forCall m i).Shaped C.prog/\i.vars=[]/\Input.okWide C.prog (w.forCall m i) .any w.heap.size f i/\
   ((s.pre I C.prog q n k (w.forCall m i).memory i.args/\X (w.forCall m i).memory i.args)/\sizedMet I C.prog q (OpenSpec.ofChange s) k (w.forCall m i).memory i.args)/\a.holds C.prog (lone (Frame.enter C.prog f i.args .normal) [] (w.forCall m i)))
  (D:∀(W:World) (b:Nat) (d:aK) (T B:List (DataW α)) (l:List MemPlace),
   (∀(j:Nat) t v,q.params[j]?=some t->d[j]?=some v->Value.okWide C.prog W .any b t v)->
   DataW.Whole I C.prog q.params.toList s.vars k W d.toList T B l->
   (DataW.weightsEach C.prog (q.params.toList++s.plain.varTypes C.prog) (T++B)).all (·<=reachBytes)=true->X W d->
   fM C.prog (λv W'=>s.post I C.prog q k J g false W d v {W' with os:=W.os}/\OsLater W.os W'.os) (solo (G (Frame.enter C.prog f d .normal) []) W) #[]):
  ReturnsInLeavingWide a C E f .any (λw d=>(s.pre I C.prog q n k w d/\X w d)/\sizedMet I C.prog q (OpenSpec.ofChange s) k w d) ((OpenSpec.ofChange s).postWith I C.prog q F (outsideKept [.timePasses]) k J g):=by
 refine returnsInLeavingWide_of_good y h K ?_;intro w m i _ _ _ u2 H _;obtain⟨_,_,_,u3,Q,_,_,_,_,R⟩:=u2;have e:u3=q:=bR (Q.symm.trans u1);subst e;obtain⟨⟨⟨T,B,l,u,hc⟩,hx⟩,p⟩:=H;have u4:=DataW.Whole.of_heap (w':=w.forCall m i) (by rfl) u;obtain⟨ae,S,o,c,t',h1,z,r,x⟩:=D (w.forCall m i) w.heap.size i.args T B l R u4 (p.weights u) (hX _ _ _ (by rfl) hx);exact⟨ae,S,o,c,t',h1,z,r,x.mono λv hp=>postWith_blind (postWith_of_post hp.1 hp.2)⟩
theorem MY(a:Dm (mP u) L)(d:Sub L w)(v:mI u w):Below u.heap.size u {w with os:=u.os}:=by
 have j:∀k,k<u.heap.size->w.heap[k]?=u.heap[k]?:=λk f=>by
  have q:u.heap[k]?=some u.heap[k]:=Bw f;obtain⟨wr,z⟩:=a k u.heap[k] false (by unfold mP;rw[q];rfl);rw[d k _ wr z,q]
 refine⟨rfl,v.tape,v.out,?_,j⟩;rcases pU u.heap.size with h | h
 ·omega
 ·have:=j (u.heap.size - 1) M;rw[Bw (by omega:u.heap.size - 1<u.heap.size)] at this;have:=(iL.1 this).1;show u.heap.size<=w.heap.size;omega
theorem EP{z:List TypeId}{k:List (DataW α)}:∀{j:Nat} {t:bh} {d:DataW α},z[j]?=some t->k[j]?=some d->∀m∈d.weights P t,m∈DataW.weightsEach P z k:=by
 induction z generalizing k with
 | nil=>intro j t d s;simp at s
 | cons u z l=>
  intro j t d s hd m o;cases k with
  | nil=>simp at hd
  | cons g k=>
   unfold DataW.weightsEach;rw[fg];cases j with
   | zero=>cases s;cases hd;exact .inl o
   | succ j=>exact .inr (l Lh (by simpa using hd) m o)
end
end Go.Mz
