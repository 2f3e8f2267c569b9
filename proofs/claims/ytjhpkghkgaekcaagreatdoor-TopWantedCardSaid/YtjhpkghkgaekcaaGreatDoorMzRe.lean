/- Lemmas for the claim. -/
import Derived.Test.YtjhpkghkgaekcaaGreatDoorMzRd
import Derived.SevenTiedAt
set_option linter.defProp false
set_option maxRecDepth 100000
namespace Go.Proofs.YtjhpkghkgaekcaaGreatDoor
open Go.Mz Go.Conc Go.ConcN Go.Proofs
theorem Jt{c:OpenClaim}{sp:OpenSpec}(hc:c.holds Tryz.pinned sp)(hw:c.wfByText sp=true)(aiX:c.laidByTextAt .later Tryz.pinned [.data,.data,.data,.data,.handle,.pinned] true)(PK:c.start=.entering)(hnb:c.noBlocks=false/\c.again=false)
  (hl:∀f fn,Tryz.prog.funcNamed c.func=some f->Tryz.prog.funcs[f]?=some fn->true=Tryz.prog.looks []/\∀(j:Nat) t,fn.params[j]?=some t->Tryz.prog.wantsStandIn t=false)(hg:true=c.goesBy Tryz.prog):
  Claim7.holds Tryz.pinned (.plain sp) {stood:={row:=c,standIns:=[],harness:=(true,"7c9dd4858c0a01b2c0de4dd95aade8bf6d04b54cd5416a47123202cc523bfa71"),looks:=true},kinds:=[],alts:=[],goes:=true,laidByText:=true,laidKinds:=[.data,.data,.data,.data,.handle,.pinned],laidTests:=true,laidLooks:=.later}:=by
 have hm:Tryz.pinned.checked.prog.mainIs=some (true,"7c9dd4858c0a01b2c0de4dd95aade8bf6d04b54cd5416a47123202cc523bfa71".toList):=by kernel_rfl
 have h1:=Claim7.tied_new_at .later [.data,.data,.data,.data,.handle,.pinned] true (Claim7.new_of_sixth hc (true,"7c9dd4858c0a01b2c0de4dd95aade8bf6d04b54cd5416a47123202cc523bfa71") true PK hnb hm rfl hl) hw;obtain⟨h2,h3⟩:=h1;exact⟨⟨h2,h3⟩,(λD hD=>by cases hD),aiX,(λh=>by cases h),hg⟩
end Go.Proofs.YtjhpkghkgaekcaaGreatDoor
