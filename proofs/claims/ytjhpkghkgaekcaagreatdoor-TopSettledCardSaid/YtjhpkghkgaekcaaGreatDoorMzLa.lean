/- Lemmas on which the claim leans. -/
import Derived.Test.YtjhpkghkgaekcaaGreatDoorMzAs
import Derived.KernelRfl
set_option maxRecDepth 100000
namespace Go.Mz
open Go.Conc
def XO:TypeDesc→TD
 | .slice e=>.slice e
 | .array n e=>.arr n e
 | .struct gs=>.str (gs.toList.map fun g=>(g.offset,g.type))
 | .int k=>.int k
 | .bool=>.bool
 | .pointer e=>.ptr e
 | .interface _=>.iface
 | .string=>.text
 | _=>.other
theorem S6{P:Program}{t:TypeId}{d:TypeDesc}(h:P.underlying t=some d):vP P t (XO d):=by
 cases d
 case struct gs=>exact⟨gs,h,rfl⟩
 case interface ms=>exact⟨ms,h⟩
 all_goals first | exact h | exact⟨_,h,fun _ e=>by cases e⟩
def Ew(P:Program)(t:TypeId):Option TI:=(P.info? t).bind fun i=>i.zero.bind fun z=>(P.underlying t).map fun d=>⟨OT d,i.size,i.bytes,z,XO d⟩
theorem NC{P:Program}{t:TypeId}{i:TI}(h:Ew P t=some i):zc P t i:=by
 unfold Ew at h;cases hi:P.info? t with
 | none=>rw[hi] at h;cases h
 | some j=>
  rw[hi,Option.bind_some] at h;cases hz:j.zero with
  | none=>rw[hz] at h;cases h
  | some z=>
   rw[hz,Option.bind_some] at h;cases hd:P.underlying t with
   | none=>rw[hd] at h;cases h
   | some d=>
    rw[hd,Option.map_some] at h;cases h;exact⟨by unfold eV;rw[hd];rfl,by rw[hi];rfl,by rw[hi];rfl,by rw[hi];exact hz,S6 hd⟩
def TT.rows:TT→List (Nat×TI)
 | .nil=>[]
 | .node l k i r=>l.rows++(k,i)::r.rows
theorem TT.Jp{P:Program}:∀{τ:TT},(∀r∈τ.rows,Ew P r.1=some r.2)→τ.Ok P
 | .nil,_=>trivial
 | .node l k i r,h=>⟨Jp fun x hx=>h x (List.mem_append_left _ hx),NC (h (k,i) (List.mem_append_right _ (List.mem_cons_self ..))),Jp fun x hx=>h x (List.mem_append_right _ (List.mem_cons_of_mem _ hx))⟩
theorem TT.VH{P:Program}{τ:TT}(h:τ.rows.map (fun r=>Ew P r.1)=τ.rows.map fun r=>some r.2):τ.Ok P:=
 TT.Jp fun r hr=>by
  obtain⟨i,hi⟩:=List.mem_iff_getElem?.1 hr;have:=congrArg (·[i]?) h;simp only[List.getElem?_map,hi,Option.map_some] at this;exact Option.some.inj this
abbrev tP(e:TypeId):TI:=⟨false,1,8,.pointer none,.ptr e⟩
abbrev tS(e:TypeId):TI:=⟨false,1,24,.slice none 0 0,.slice e⟩
abbrev tI(k:IntKind)(b:Nat):TI:=⟨false,1,b,.int k 0,.int k⟩
abbrev tB:TI:=⟨false,1,1,.bool false,.bool⟩
abbrev tT:TI:=⟨false,1,16,.string {data:=#[]},.text⟩
abbrev tF:TI:=⟨false,1,16,.nilIface,.iface⟩
abbrev tO(b:Nat)(z:Value):TI:=⟨false,1,b,z,.other⟩
abbrev tA(n b:Nat)(z:List Value)(fs:List (Nat×TypeId)):TI:=⟨true,n,b,.agg z.toArray,.str fs⟩
abbrev zI(k:IntKind):Value:=.int k 0
abbrev zS:Value:=.slice none 0 0
abbrev zP:Value:=.pointer none
abbrev zT:Value:=.string {data:=#[]}
abbrev tN:TT:=.nil
end Go.Mz
