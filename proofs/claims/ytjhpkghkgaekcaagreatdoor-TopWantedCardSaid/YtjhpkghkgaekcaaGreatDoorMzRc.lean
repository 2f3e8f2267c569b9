/- Lemmas for the claim. -/
import Derived.Test.YtjhpkghkgaekcaaGreatDoorMzRb
import Derived.Test.YtjhpkghkgaekcaaGreatDoorTie
import Derived.Test.YtjhpkghkgaekcaaGreatDoorCards
import Derived.LaidHandle
import Derived.LaidLaws
import Derived.ChangeVars
import Derived.RowKitTokens
set_option linter.defProp false
set_option maxRecDepth 100000
namespace Go.Mz
open Go.Conc
section
open Go.ConcN Go.Proofs Go.ChangeShapes Go.WideShapes Go.RowKit
theorem aiR:Tryz.prog.globalNamed "errors.errorType"=some 0:=by kernel_rfl
theorem rtT:(Tryz.prog.cutTypes.find? (·.1== "internal/reflectlite.rtype")).map (·.2)=some 318:=by kernel_rfl
theorem nTy:Tryz.prog.types.size=465:=aN
theorem ahJ:((List.range 465).filter λt=>Tryz.prog.rowNamed t [101,114,114,111,114])=[161]:=aN
theorem aiV:typeHandle Tryz.prog 161=.pointer (some ⟨7,161,none⟩):=aN
theorem agH:ownKnob Tryz.prog.godebug=none:=aN
theorem NL:laidOutB Tryz.prog=true:=aN
end
variable {P:aV}{α:Type}{n k m:Nat}{L R J:LH}{t e:bh}{w u:World}{h:α->List Value}{c:Int}{B:aX}{x:aW}{Y:Trace}{l:aH}{r:List α}{s:Sw}{q:aU}{Q:bC}{E:cK}{j:aR}{D:bt}{d:bA}{F:Env}{g:aT}{o:bD}{C:bH}{N:Nm}{K:bI}{z:SV}{I:cj}{H:ck}{X:aM Proofs.Tryz.prog}
section
open Go.ConcN Go.Proofs Go.Proofs.YtjhpkghkgaekcaaGreatDoor
open Go.Proofs.YtjhpkghkgaekcaaGreatDoor.Rows (laid_errors_errorType laid_math_bits_deBruijn32tab laid_math_bits_deBruijn64tab laid_internal_strconv_uint64pow10 laid_unicode_utf8_acceptRanges laid_unicode_utf8_first)
def FA:Nat->DataW Unit->List Value
 | n+1,.agg ds=>ds.flatMap (FA n)
 | _,.lit (.int k z)=>[.int k z]
 | _,_=>[]
abbrev zN:List (String×DataW Unit):=[("math/bits.deBruijn32tab",laid_math_bits_deBruijn32tab),("math/bits.deBruijn64tab",laid_math_bits_deBruijn64tab),("internal/strconv.uint64pow10",laid_internal_strconv_uint64pow10),("unicode/utf8.acceptRanges",laid_unicode_utf8_acceptRanges),("errors.errorType",laid_errors_errorType),("unicode/utf8.first",laid_unicode_utf8_first)]
theorem GY(h:laidMetH Tryz.prog zN w):kA (mP w):=by
 have v:laidMet Tryz.prog _ w/\handlesMet Tryz.prog [("errors.errorType",laid_errors_errorType)] w:=h;obtain⟨a,u,z,i,q,f,d,p⟩:=v.2 _ (dJ.2 rfl);have en:a=[101,114,114,111,114]:=(bR i).symm;subst en;obtain rfl:=bR (rtT.symm.trans q);have o:z∈(List.range 465).filter λt=>Tryz.prog.rowNamed t [101,114,114,111,114]:=nH.2 ⟨fo.2 (by rw[<-nTy];exact f),d⟩;rw[ahJ] at o;obtain rfl:=dJ.1 o;rw[aiV] at p;exact Ht (by simpa using World.var?_cell aiR p 0)
def tZ(cs:aR):Obj->Obj
 | .cells _ t frozen=>.cells cs.toArray t frozen
 | o=>o
noncomputable def VW (os:Os):World:=
 let w0:=World.holding Tryz.prog os ⟨#[],#[],[]⟩
 {w0 with heap:=(((((w0.heap.modify 0 (tZ [.iface 318 (.agg #[.pointer (some ⟨7,161,none⟩)])])).modify 2 (tZ (FA 3 laid_unicode_utf8_first))).modify 3 (tZ (FA 3 laid_unicode_utf8_acceptRanges))).modify 4 (tZ (FA 3 laid_internal_strconv_uint64pow10))).modify 5 (tZ (FA 3 laid_math_bits_deBruijn32tab))).modify 6 (tZ (FA 3 laid_math_bits_deBruijn64tab))}
theorem JF(n:Os)(e:aK):laidMetH Tryz.prog zN ((VW n).forCall (λ_ _=>0) ⟨#[],e,[]⟩).memory:=
 laidMetH_of_parts (laidMet_of_run' 8 aN aN) aN
end
end Go.Mz
