/- Lemmas on which the claim leans. -/
import Derived.Test.YtjhpkghkgaekcaaGreatDoorMzRb
import Derived.Test.YtjhpkghkgaekcaaGreatDoorTie
import Derived.Test.YtjhpkghkgaekcaaGreatDoorCards
import Derived.LaidHandle
import Derived.LaidLaws
import Derived.ChangeVars
import Derived.RowKitTokens
set_option maxRecDepth 100000
namespace Go.Mz
open Go.Conc Go.ConcN Go.Proofs Go.ChangeShapes Go.WideShapes Go.RowKit
theorem abu:Tryz.prog.globalNamed "errors.errorType"=some 0:=by kernel_rfl
theorem rtT:(Tryz.prog.cutTypes.find? (·.1== "internal/reflectlite.rtype")).map (·.2)=some 318:=by kernel_rfl
theorem nTy:Tryz.prog.types.size=465:=by kernel_rfl
theorem aar:((List.range 465).filter fun t=>Tryz.prog.rowNamed t [101,114,114,111,114])=[161]:=by kernel_rfl
theorem abL:typeHandle Tryz.prog 161=.pointer (some ⟨7,161,none⟩):=by kernel_rfl
theorem acL:ownKnob Tryz.prog.godebug=none:=by kernel_rfl
theorem Nz:laidOutB Tryz.prog=true:=by kernel_rfl
end Go.Mz
set_option maxRecDepth 100000
namespace Go.Mz
open Go.Conc Go.ConcN Go.Proofs Go.Proofs.YtjhpkghkgaekcaaGreatDoor
open Go.Proofs.YtjhpkghkgaekcaaGreatDoor.Rows (laid_errors_errorType laid_math_bits_deBruijn32tab laid_math_bits_deBruijn64tab laid_internal_strconv_uint64pow10 laid_unicode_utf8_acceptRanges laid_unicode_utf8_first)
def wB:Nat→DataW Unit→List Value
 | n+1,.agg ds=>ds.flatMap (wB n)
 | _,.lit (.int k z)=>[.int k z]
 | _,_=>[]
abbrev zU:List (String×DataW Unit):=[("math/bits.deBruijn32tab",laid_math_bits_deBruijn32tab),("math/bits.deBruijn64tab",laid_math_bits_deBruijn64tab),("internal/strconv.uint64pow10",laid_internal_strconv_uint64pow10),("unicode/utf8.acceptRanges",laid_unicode_utf8_acceptRanges),("errors.errorType",laid_errors_errorType),("unicode/utf8.first",laid_unicode_utf8_first)]
theorem F0{W:World}(h:laidMetH Tryz.prog zU W):oA (iS W):=by
 have h':laidMet Tryz.prog _ W∧handlesMet Tryz.prog [("errors.errorType",laid_errors_errorType)] W:=h;obtain⟨name,u,ty,e1,e2,e3,e4,e5⟩:=h'.2 _ (List.mem_singleton.2 rfl);have en:name=[101,114,114,111,114]:=(Option.some.inj e1).symm;subst en;obtain rfl:=Option.some.inj (rtT.symm.trans e2);have hm:ty∈(List.range 465).filter fun t=>Tryz.prog.rowNamed t [101,114,114,111,114]:=List.mem_filter.2 ⟨List.mem_range.2 (by rw[←nTy];exact e3),e4⟩;rw[aar] at hm;obtain rfl:=List.mem_singleton.1 hm;rw[abL] at e5;exact xW (by simpa using World.var?_cell abu e5 0)
def mK(cs:List Value):Obj→Obj
 | .cells _ t frozen=>.cells cs.toArray t frozen
 | o=>o
noncomputable def RA (os:Os):World:=
 let w0:=World.holding Tryz.prog os ⟨#[],#[],[]⟩
 {w0 with heap:=(((((w0.heap.modify 0 (mK [.iface 318 (.agg #[.pointer (some ⟨7,161,none⟩)])])).modify 2 (mK (wB 3 laid_unicode_utf8_first))).modify 3 (mK (wB 3 laid_unicode_utf8_acceptRanges))).modify 4 (mK (wB 3 laid_internal_strconv_uint64pow10))).modify 5 (mK (wB 3 laid_math_bits_deBruijn32tab))).modify 6 (mK (wB 3 laid_math_bits_deBruijn64tab))}
theorem I8(os:Os)(args:Array Value):laidMetH Tryz.prog zU ((RA os).forCall (fun _ _=>0) ⟨#[],args,[]⟩).memory:=
 laidMetH_of_parts (laidMet_of_run' 8 (by kernel_rfl) (by kernel_rfl)) (by kernel_rfl)
end Go.Mz
