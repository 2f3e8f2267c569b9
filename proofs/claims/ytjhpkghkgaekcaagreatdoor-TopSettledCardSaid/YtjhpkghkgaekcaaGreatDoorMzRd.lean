/- Lemmas on which the claim leans. -/
import Derived.Test.YtjhpkghkgaekcaaGreatDoorMzRc
import Derived.Conc.HoldsTime
set_option maxRecDepth 100000
namespace Go.Mz
open Go.Conc Go.ConcN Go.ConcM Go.Proofs Go.ChangeShapes Go.WideShapes Go.RowKit
section
variable {H:Type}{enc:TypeId×Value→H}
theorem BO{C:Checked}{os:Os}{f:FuncId}{fn:Func}{s:ChangeSpec}{conds:List PathCond}{apart:Bool}{X:World→Array Value→Prop}(w0:World)(args:Array Value)(fuel:Nat)(hos:w0.os=os)
  (hv:(w0.forCall (fun _ _=>0) ⟨#[],args,[]⟩).variablesB C.prog=true)
  (hr:((w0.forCall (fun _ _=>0) ⟨#[],args,[]⟩).heap.toList.drop C.prog.globals.size).take ((begin C.prog (fun _ _=>0) default).world.heap.size - C.prog.globals.size)=
   (begin C.prog (fun _ _=>0) default).world.heap.toList.drop C.prog.globals.size)
  (dF:Input.okWideB C.prog (w0.forCall (fun _ _=>0) ⟨#[],args,[]⟩) f ⟨#[],args,[]⟩=true)
  (Q5:s.preB enc C.prog fn conds apart (w0.forCall (fun _ _=>0) ⟨#[],args,[]⟩).memory args fuel=true)
  (ed:s.sizedB enc C.prog fn apart (w0.forCall (fun _ _=>0) ⟨#[],args,[]⟩).memory args fuel=true)
  (hx:X (w0.forCall (fun _ _=>0) ⟨#[],args,[]⟩).memory args):
  ∃(w:World) (tape:Tape) (i:Input),w.os=os∧(w.forCall tape i).Shaped C.prog∧i.vars=[]∧Input.okWide C.prog (w.forCall tape i) .any w.heap.size f i∧
   ((s.pre enc C.prog fn conds apart (w.forCall tape i).memory i.args∧X (w.forCall tape i).memory i.args)∧sizedMet enc C.prog fn (OpenSpec.ofChange s) apart (w.forCall tape i).memory i.args)∧({calm:=true}:Assume).holds C.prog (lone (Frame.enter C.prog f i.args .normal) [] (w.forCall tape i)):=
 ⟨w0,fun _ _=>0,⟨#[],args,[]⟩,hos,World.shaped_of_B hv hr,(Input.okWide_of_okWideB (base:=0) dF).1,(Input.okWide_of_okWideB dF).2,⟨⟨ChangeSpec.pre_of_preB Q5,hx⟩,sizedMet_of_sizedB ed⟩,by
  simp only[Assume.holds];exact⟨by simp,fun _ _ _ _=>rfl,by simp,by simp,by simp⟩⟩
theorem w7{a:Assume}{C:Checked}{os:Os}{f:FuncId}{fn:Func}{s:ChangeSpec}{F:Stop.Interp}{conds:List PathCond}{apart fresh handsOn:Bool}{X:World→Array Value→Prop}(hX:∀(w w':World) (args:Array Value),w.heap=w'.heap→X w args→X w' args)
  (own:ownKnob C.prog.godebug=none)(started:os.Started)(tH:C.prog.funcs[f]?=some fn)
  (witness:∃(w:World) (tape:Tape) (i:Input),w.os=os∧(w.forCall tape i).Shaped C.prog∧i.vars=[]∧Input.okWide C.prog (w.forCall tape i) .any w.heap.size f i∧
   ((s.pre enc C.prog fn conds apart (w.forCall tape i).memory i.args∧X (w.forCall tape i).memory i.args)∧sizedMet enc C.prog fn (OpenSpec.ofChange s) apart (w.forCall tape i).memory i.args)∧a.holds C.prog (lone (Frame.enter C.prog f i.args .normal) [] (w.forCall tape i)))
  (runs:∀(W:World) (base:Nat) (args:Array Value) (ds gs:List (DataW H)) (before:List MemPlace),
   (∀(j:Nat) t v,fn.params[j]?=some t→args[j]?=some v→Value.okWide C.prog W .any base t v)→
   DataW.Whole enc C.prog fn.params.toList s.vars apart W args.toList ds gs before→
   (DataW.weightsEach C.prog (fn.params.toList++s.plain.varTypes C.prog) (ds++gs)).all (·≤reachBytes)=true→X W args→
   ew C.prog (fun v W'=>s.post enc C.prog fn apart fresh handsOn false W args v {W' with os:=W.os}∧OsLater W.os W'.os) (solo (G (Frame.enter C.prog f args .normal) []) W) #[]):
  ReturnsInLeavingWide a C os f .any (fun w args=>(s.pre enc C.prog fn conds apart w args∧X w args)∧sizedMet enc C.prog fn (OpenSpec.ofChange s) apart w args) ((OpenSpec.ofChange s).postWith enc C.prog fn F (outsideKept [.timePasses]) apart fresh handsOn):=by
 refine returnsInLeavingWide_of_good own started witness ?_;intro w tape i _ _ _ dF Q5 _;obtain⟨_,_,_,fn',abS,_,_,_,_,K0⟩:=dF;have e:fn'=fn:=Option.some.inj (abS.symm.trans tH);subst e;obtain⟨⟨⟨ds,gs,before,hw,hc⟩,hx⟩,hz⟩:=Q5;have Nu:=DataW.Whole.of_heap (w':=w.forCall tape i) (by rfl) hw;obtain⟨M,last,o,w',t',h1,h2,h3,h4⟩:=runs (w.forCall tape i) w.heap.size i.args ds gs before K0 Nu (hz.weights hw) (hX _ _ _ (by rfl) hx);exact⟨M,last,o,w',t',h1,h2,h3,h4.mono fun v hp=>postWith_blind (postWith_of_post hp.1 hp.2)⟩
theorem Mq{W w:World}{L':LH}(hd:Dm (iS W) L')(hs:Sub L' w)(hw:j5 W w):Below W.heap.size W {w with os:=W.os}:=by
 have key:∀k,k<W.heap.size→w.heap[k]?=W.heap[k]?:=fun k hk=>by
  have h1:W.heap[k]?=some W.heap[k]:=Array.getElem?_eq_getElem hk;obtain⟨wr,h2⟩:=hd k W.heap[k] false (by unfold iS;rw[h1];rfl);rw[hs k _ wr h2,h1]
 refine⟨rfl,hw.tape,hw.out,?_,key⟩;rcases Nat.eq_zero_or_pos W.heap.size with h | h
 ·omega
 ·have:=key (W.heap.size - 1) (by omega);rw[Array.getElem?_eq_getElem (by omega:W.heap.size - 1<W.heap.size)] at this;have:=(Array.getElem?_eq_some_iff.1 this).1;show W.heap.size≤w.heap.size;omega
theorem E6{P:Program}{ts:List TypeId}{ds:List (DataW H)}:∀{j:Nat} {t:TypeId} {d:DataW H},ts[j]?=some t→ds[j]?=some d→∀m∈d.weights P t,m∈DataW.weightsEach P ts ds:=by
 induction ts generalizing ds with
 | nil=>intro j t d ht;simp at ht
 | cons t0 ts ih=>
  intro j t d ht hd m hm;cases ds with
  | nil=>simp at hd
  | cons d0 ds=>
   unfold DataW.weightsEach;rw[List.mem_append];cases j with
   | zero=>cases ht;cases hd;exact .inl hm
   | succ j=>exact .inr (ih (by simpa using ht) (by simpa using hd) m hm)
end
end Go.Mz
