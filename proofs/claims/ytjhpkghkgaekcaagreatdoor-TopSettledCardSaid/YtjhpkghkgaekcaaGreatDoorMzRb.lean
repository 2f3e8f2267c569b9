/- Lemmas on which the claim leans. -/
import Derived.Test.YtjhpkghkgaekcaaGreatDoorMzRa
import Derived.KernelRfl
set_option maxRecDepth 100000
namespace Go.Mz
open Go.Conc Go.ConcN Go.Proofs Go.ChangeShapes Go.WideShapes
section
variable {H:Type}{enc:TypeId×Value→H}{W:World}{sp:Nat→Bool}{held:Bool}
theorem Mw:Tryz.prog.cellsOf 3=1:=by kernel_rfl
theorem Mt:Tryz.prog.bytesOf 3=8:=by kernel_rfl
theorem el3(n:Nat)(cs:List Value)(y:DataW H×List MemPlace)(h:DataW.trod enc Tryz.prog W 0 sp held n 3 cs=some y)(i:Nat)(hi:i<1):∃z,cs[i]?=some (.int .i64 z):=by
 obtain⟨z,rfl,_⟩:=DataW.trod_int Tryz.underlying3 h;obtain rfl:i=0:=by omega
 exact⟨z,rfl⟩
theorem aas{fuel:Nat}{cs:List Value}{x:DataW H×List MemPlace}(h:DataW.trod enc Tryz.prog W 0 sp held fuel 22 cs=some x):∃(ad:Option Addr) (cap:Nat) (l:List Int),cs=[.slice ad l.length cap]∧aN (iS W) ad l∧(l.length=0∨∃es s,x.1=.slice es s∧es.length=l.length):=
 Jr (k:=1) (encA:=cj) (mk:=fun z=>z 0) Tryz.underlying22 Mw el3 (fun z j v hv=>match j,hv with
  | 0,hv=>by cases hv;exact⟨by decide,rfl⟩) h
theorem Jq{base:Nat}{v:Value}{d:DataW H}{ps:List MemPlace}(hv:Value.okWide Tryz.prog W .any base 22 v)(h:DataW.Trod enc Tryz.prog W 0 sp held 22 v d ps)(hw:∀m∈d.weights Tryz.prog 22,m≤reachBytes):
  ∃(ad:Option Addr) (cap:Nat) (l:List Int),v=.slice ad l.length cap∧aN (iS W) ad l∧l.length≤140737488355328:=by
 obtain⟨a0,len,cap,rfl⟩:=okWide_slice Tryz.underlying22 hv;obtain⟨fuel,hf⟩:=h;obtain⟨ad,cp,l,hc,hi,hl⟩:=aas hf;have Eb:[Value.slice a0 len cap]=[Value.slice ad l.length cp]:=by simpa [Value.cells] using hc
 cases Eb;refine⟨_,_,l,rfl,hi,?_⟩;rcases hl with hl | ⟨es,s,rfl,he⟩
 ·omega
 ·have:=hw ((es.length+s.length) *Tryz.prog.bytesOf 3) (by unfold DataW.weights;rw[Tryz.underlying22];exact List.mem_cons_self);rw[Mt] at this;unfold reachBytes at this;omega
end
end Go.Mz
