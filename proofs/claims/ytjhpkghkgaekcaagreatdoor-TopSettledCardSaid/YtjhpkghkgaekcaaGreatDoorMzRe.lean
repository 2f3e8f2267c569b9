/- Lemmas on which the claim leans. -/
import Derived.Test.YtjhpkghkgaekcaaGreatDoorMzRd
import Derived.SevenTiedAt
set_option maxRecDepth 100000
namespace Go.Proofs.YtjhpkghkgaekcaaGreatDoor
open Go.Mz Go.Conc Go.ConcN Go.Proofs
theorem Iz{c:OpenClaim}{sp:OpenSpec}(hc:c.holds Tryz.pinned sp)(hw:c.wfByText sp=true)(acy:c.laidByTextAt .later Tryz.pinned [.data,.data,.data,.data,.handle,.pinned] true)(cu:c.start=.entering)(sz:c.noBlocks=false∧c.again=false)
  (hl:∀f fn,Tryz.prog.funcNamed c.func=some f→Tryz.prog.funcs[f]?=some fn→true=Tryz.prog.looks []∧∀(j:Nat) t,fn.params[j]?=some t→Tryz.prog.wantsStandIn t=false)(hg:true=c.goesBy Tryz.prog):
  Claim7.holds Tryz.pinned (.plain sp) {stood:={row:=c,standIns:=[],harness:=(true,"7c9dd4858c0a01b2c0de4dd95aade8bf6d04b54cd5416a47123202cc523bfa71"),looks:=true},kinds:=[],alts:=[],goes:=true,laidByText:=true,laidKinds:=[.data,.data,.data,.data,.handle,.pinned],laidTests:=true,laidLooks:=.later}:=by
 have hm:Tryz.pinned.checked.prog.mainIs=some (true,"7c9dd4858c0a01b2c0de4dd95aade8bf6d04b54cd5416a47123202cc523bfa71".toList):=by kernel_rfl
 have h1:=Claim7.tied_new_at .later [.data,.data,.data,.data,.handle,.pinned] true (Claim7.new_of_sixth hc (true,"7c9dd4858c0a01b2c0de4dd95aade8bf6d04b54cd5416a47123202cc523bfa71") true cu sz hm rfl hl) hw;obtain⟨h2,h3⟩:=h1;exact⟨⟨h2,h3⟩,(fun D hD=>by cases hD),acy,(fun h=>by cases h),hg⟩
end Go.Proofs.YtjhpkghkgaekcaaGreatDoor
