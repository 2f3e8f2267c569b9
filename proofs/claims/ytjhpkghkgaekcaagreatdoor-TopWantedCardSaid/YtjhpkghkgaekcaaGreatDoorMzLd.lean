/- Lemmas for the claim. -/
import Derived.Test.YtjhpkghkgaekcaaGreatDoorMzLb
import Derived.Test.YtjhpkghkgaekcaaGreatDoorProg
import Derived.Laws.Strings2
set_option linter.defProp false
set_option maxRecDepth 100000
namespace Go.Mz
open Go.Conc
section
open Go.Proofs
abbrev ajn:TI:=(tS 88)
abbrev ajo:TI:=(tS 35)
abbrev BZ:TI:=(tA 5 120 [zS,zS,zS,zS,zS] [(0,25),(1,22),(2,22),(3,25),(4,26)])
abbrev YS:TI:=(tA 2 32 [zI .i64,zS] [(0,3),(1,22)])
abbrev vK:TI:=(tA 5 120 [zS,zS,zS,zS,zS] [(0,45),(1,22),(2,22),(3,25),(4,46)])
abbrev Hx:TI:=(tA 4 80 [zS,zS,zI .i64,zS] [(0,49),(1,22),(2,3),(3,50)])
abbrev Uz:TI:=(tA 16 368 (List.replicate 12 (zS)++[zI .i64,zS,zS,zS]) [(0,28),(5,48),(10,52),(14,33),(15,33)])
abbrev ad6:TI:=(tA 4 32 [zI .i64,zI .i64,zI .i64,zI .i64] [(0,3),(1,3),(2,3),(3,3)])
abbrev UA:TI:=(tA 2 16 [zI .i64,zI .i64] [(0,3),(1,3)])
abbrev ahV:TI:=(tP 195)
abbrev ad3:TI:=(tA 4 32 [zP,.nilFunc,.nilFunc,.nilFunc] [(0,115),(1,116),(2,116),(3,116)])
abbrev rp:TI:=(tA 14 320 (List.replicate 12 (zS)++[zI .i64,zS]) [(0,28),(5,48),(10,52)])
abbrev ad4:TI:=(tA 4 32 [zI .i64,zI .i64,zI .i64,zI .i64] [(0,3),(1,3),(2,3),(3,3)])
abbrev ad5:TI:=(tA 9 72 [.nilFunc,zI .u8,zI .i64,zI .i64,zI .i64,zI .i64,zI .i64,.bool false,.bool false] [(0,141),(1,145),(8,4)])
abbrev W7:TI:=(tA 12 96 (List.replicate 12 (zI .i64)) [(0,185),(5,186),(11,3)])
abbrev ahW:TI:=(tO 8 .nilFunc)
abbrev W8:TI:=(tA 9 72 (List.replicate 9 (zI .i64)) [(0,236),(4,237),(8,3)])
def tau:TT:=(.node (.node (.node (.node (.node (.node (.node (.node tN 0 (tO 0 (.tuple #[])) tN) 1 (tO 8 .nilFunc) tN) 2 (tI .i64 8) (.node (.node tN 3 (tI .i64 8) tN) 4 tB tN)) 5 (tI .u8 1) (.node (.node (.node tN 6 (tI .u8 1) tN) 7 (tA 4 24 [zI .i64,zI .i64,false,zI .u8] [(0,2),(1,3),(2,4),(3,6)]) tN) 8 (tA 4 24 [zI .i64,zI .i64,false,zI .u8] [(0,2),(1,3),(2,4),(3,6)]) (.node tN 9 tT tN))) 10 tT (.node (.node (.node (.node tN 11 tT tN) 12 (tI .u64 8) tN) 14 (tA 2 24 [zT,zI .u64] [(0,9),(1,12)]) (.node (.node tN 15 (tP 430) tN) 16 (tP 433) tN)) 17 (tP 440) (.node (.node (.node tN 19 (tA 1 8 [zP] [(0,17)]) tN) 20 tF tN) 21 (tI .i32 4) (.node tN 22 (tS 3) tN)))) 23 (tP 96) (.node (.node (.node (.node (.node tN 25 ajn tN) 26 ajo tN) 28 BZ (.node (.node tN 33 (tS 9) tN) 35 (tA 3 24 [zI .i64,zI .i64,zI .i64] [(0,3),(1,3),(2,3)]) tN)) 38 YS (.node (.node (.node tN 39 (tI .i64 8) tN) 45 (tS 90) tN) 46 (tS 126) (.node tN 48 vK tN))) 49 (tS 22) (.node (.node (.node (.node tN 50 (tS 68) tN) 52 Hx tN) 56 Uz (.node (.node tN 63 (tO 8 .nilFunc) tN) 68 ad6 tN)) 88 UA (.node (.node (.node tN 90 (tA 4 32 [zI .i64,zI .i64,zI .i64,zI .i64] [(0,3),(1,3),(2,88)]) tN) 94 (tI .u64 8) tN) 96 (tA 3 40 [zS,zI .i64,zI .u64] [(0,22),(1,3),(2,94)]) (.node tN 106 (tP 183) tN))))) 109 (tI .u8 1) (.node (.node (.node (.node (.node (.node tN 112 ahV tN) 115 (tP 123) tN) 116 (tO 8 .nilFunc) (.node (.node tN 118 ad3 tN) 119 (tI .u8 1) tN)) 123 rp (.node (.node (.node tN 126 ad4 tN) 132 (tA 4 80 [zS,zS,zI .i64,zS] [(0,52)]) tN) 136 (tI .u8 1) (.node tN 141 (tO 8 .nilFunc) tN))) 142 ⟨true,3,24,.agg [zI .i64,zI .i64,zI .i64].toArray,.arr 3 3⟩ (.node (.node (.node (.node tN 143 ⟨true,3,24,.agg [zI .i64,zI .i64,zI .i64].toArray,.arr 3 3⟩ tN) 145 (tA 7 56 [zI .u8,zI .i64,zI .i64,zI .i64,zI .i64,zI .i64,false] [(0,136),(1,143),(4,3),(5,3),(6,4)]) tN) 147 ad5 (.node (.node tN 149 (tO 8 .nilFunc) tN) 151 (tS 159) tN)) 153 (tA 1 8 [zI .i64] [(0,3)]) (.node (.node (.node tN 155 (tA 1 8 [zI .i64] [(0,3)]) tN) 157 (tA 0 0 [] []) tN) 159 tF (.node tN 161 tF tN)))) 168 (tA 0 0 [] []) (.node (.node (.node (.node (.node tN 173 (tP 232) tN) 176 (tP 3) tN) 180 (tI .u64 8) (.node (.node tN 181 (tO 8 (.map none)) tN) 183 (tA 6 128 [zS,zS,zS,zS,zS,.map none] [(0,28),(5,181)]) tN)) 185 ⟨true,5,40,.agg [zI .i64,zI .i64,zI .i64,zI .i64,zI .i64].toArray,.arr 5 3⟩ (.node (.node (.node tN 186 ⟨true,6,48,.agg [zI .i64,zI .i64,zI .i64,zI .i64,zI .i64,zI .i64].toArray,.arr 3 88⟩ tN) 188 W7 tN) 195 (tA 17 392 (List.replicate 12 (zS)++[zI .i64,zS,zS,zS,zS]) [(0,56),(16,151)]) (.node tN 202 ⟨true,2,16,.agg [zI .i64,zI .i64].toArray,.arr 2 3⟩ tN))) 209 (tA 1 8 [zI .i64] [(0,3)]) (.node (.node (.node (.node tN 214 (tA 1 8 [zI .i64] [(0,39)]) tN) 216 (tP 214) tN) 218 (tS 145) (.node tN 224 (tA 0 0 [] []) tN)) 225 (tI .u32 4) (.node (.node (.node tN 227 (tA 2 8 [zI .i32,zI .u32] [(0,21),(1,225)]) tN) 229 (tA 2 8 [zI .i32,zI .u32] [(0,224),(0,227)]) tN) 230 (tO 8 (.map none)) (.node tN 232 (tA 8 136 [zS,zS,zS,zS,zS,zI .i32,zI .u32,.map none] [(0,48),(5,229),(7,230)]) tN)))))) 233 ahW (.node (.node (.node (.node (.node (.node (.node tN 234 (tO 8 (.map none)) tN) 236 ⟨true,4,32,.agg [zI .i64,zI .i64,zI .i64,zI .i64].toArray,.arr 4 3⟩ tN) 237 ⟨true,4,32,.agg [zI .i64,zI .i64,zI .i64,zI .i64].toArray,.arr 2 88⟩ (.node (.node tN 239 W8 tN) 246 (tS 39) tN)) 252 (tA 2 32 [zI .i64,zS] [(0,38)]) (.node (.node (.node tN 260 (tO 8 .nilFunc) tN) 263 (tA 10 80 (List.replicate 10 (zI .i64)) [(0,143),(3,143),(6,143),(9,3)]) tN) 266 (tO 8 zP) (.node tN 267 (tI .u64 8) tN))) 269 (tA 3 24 [zP,zP,zI .u64] [(0,17),(1,266),(2,267)]) (.node (.node (.node (.node tN 272 tF tN) 274 (tI .u8 1) tN) 278 (tO 8 (.chan none)) (.node (.node tN 279 (tA 0 0 [] []) tN) 280 (tA 0 0 [] []) tN)) 282 (tA 1 8 [zI .u64] [(0,279),(0,280),(0,94)]) (.node (.node (.node tN 284 (tA 2 16 [zI .u64,zI .u32] [(0,224),(0,282),(1,225)]) tN) 287 (tP 147) tN) 289 ⟨true,7,112,.agg [zT,zT,zT,zT,zT,zT,zT].toArray,.arr 7 9⟩ (.node tN 293 (tA 0 0 [] []) tN)))) 295 tF (.node (.node (.node (.node (.node tN 296 (tA 0 0 [] []) tN) 297 (tA 0 0 [] []) tN) 302 (tO 8 .nilFunc) (.node (.node tN 309 (tO 8 .nilFunc) tN) 310 (tO 8 .nilFunc) tN)) 313 tF (.node (.node (.node tN 316 (tP 263) tN) 318 (tA 1 8 [zP] [(0,17)]) tN) 319 (tP 454) (.node tN 323 tF tN))) 326 tF (.node (.node (.node (.node tN 328 tF tN) 329 (tS 161) tN) 331 (tP 284) (.node (.node tN 333 (tI .i64 8) tN) 337 (tP 225) tN)) 346 (tA 1 8 [zI .i64] [(0,39)]) (.node (.node (.node tN 348 (tS 236) tN) 350 (tO 8 .nilFunc) tN) 353 (tA 1 8 [zI .i64] [(0,279),(0,280),(0,2)]) (.node tN 358 (tO 8 .nilFunc) tN))))) 360 (tP 363) (.node (.node (.node (.node (.node (.node tN 361 (tS 5) tN) 363 (tA 2 32 [zP,zS] [(0,360),(1,361)]) tN) 375 (tA 2 16 [zI .i64,zI .i64] [(0,3),(1,3)]) (.node (.node tN 377 (tA 1 8 [zI .i64] [(0,3)]) tN) 379 (tA 2 16 [zI .i64,zI .i64] [(0,3),(1,3)]) tN)) 381 (tA 1 8 [zI .i64] [(0,39)]) (.node (.node (.node tN 383 (tP 282) tN) 385 (tP 94) tN) 389 (tO 8 .nilFunc) (.node tN 390 (tP 353) tN))) 392 (tP 2) (.node (.node (.node (.node tN 397 (tP 5) tN) 401 ⟨true,24,24,.agg (List.replicate 24 (zI .u8)).toArray,.arr 24 5⟩ tN) 406 ⟨true,3,48,.agg [.nilIface,.nilIface,.nilIface].toArray,.arr 3 295⟩ (.node (.node tN 407 (tP 229) tN) 410 ⟨true,256,256,.agg (List.replicate 256 (zI .u8)).toArray,.arr 256 5⟩ tN)) 412 (tA 2 2 [zI .u8,zI .u8] [(0,5),(1,5)]) (.node (.node (.node tN 413 ⟨true,32,32,.agg (List.replicate 32 (zI .u8)).toArray,.arr 16 412⟩ tN) 417 ⟨true,20,160,.agg (List.replicate 20 (zI .u64)).toArray,.arr 20 94⟩ tN) 418 ⟨true,65,65,.agg (List.replicate 65 (zI .u8)).toArray,.arr 65 5⟩ (.node tN 420 (tP 227) tN)))) 422 (tP 21) (.node (.node (.node (.node (.node tN 427 ⟨true,32,32,.agg (List.replicate 32 (zI .u8)).toArray,.arr 32 5⟩ tN) 428 ⟨true,64,64,.agg (List.replicate 64 (zI .u8)).toArray,.arr 64 5⟩ tN) 430 (tA 4 40 [zP,zP,zP,zT] [(0,17),(1,17),(2,17),(3,9)]) (.node (.node tN 431 ⟨true,0,0,.agg [].toArray,.arr 0 16⟩ tN) 433 (tA 0 0 [] [(0,431)]) tN)) 435 (tI .u8 1) (.node (.node (.node tN 436 (tO 8 .nilFunc) tN) 437 (tI .i32 4) tN) 438 (tI .i32 4) (.node tN 440 (tA 11 48 [zI .u64,zI .u64,zI .u32,zI .u8,zI .u8,zI .u8,zI .u8,.nilFunc,zP,zI .i32,zI .i32] [(0,12),(1,12),(2,225),(3,435),(4,5),(5,5),(6,274),(7,436),(8,397),(9,437),(10,438)]) tN))) 447 (tA 3 24 [zI .i64,zI .i64,false] [(0,3),(1,3),(2,4)]) (.node (.node (.node (.node tN 449 (tP 447) tN) 454 (tA 2 24 [zT,zI .u8] [(0,9),(1,274)]) tN) 455 (tP 459) (.node tN 457 (tI .u16 2) tN)) 459 (tA 5 16 [zI .i32,zI .u16,zI .u16,zI .u32,zI .u32] [(0,437),(1,457),(2,457),(3,225),(4,225)]) (.node (.node (.node tN 460 (tS 463) tN) 461 (tI .i32 4) tN) 463 (tA 4 16 [zI .i32,zI .i32,zI .i32,zI .i32] [(0,437),(1,438),(2,461),(3,461)]) (.node tN 464 (tP 161) tN)))))))
def ig:tau.Ok Tryz.prog:=TT.afE aN
instance:Seat Tryz.prog:=⟨tau,ig⟩
def um:iZ Tryz.prog 3=false:=(TT.bj (i:=(tI .i64 8)) ig O).agg
def air:iZ Tryz.prog 9=false:=(TT.bj (i:=tT) ig O).agg
def E5:iZ Tryz.prog 21=false:=(TT.bj (i:=(tI .i32 4)) ig O).agg
def aey:iZ Tryz.prog 145=true:=(TT.bj (i:=(tA 7 56 [zI .u8,zI .i64,zI .i64,zI .i64,zI .i64,zI .i64,.bool false] [(0,136),(1,143),(4,3),(5,3),(6,4)])) ig O).agg
def aez:iZ Tryz.prog 214=true:=(TT.bj (i:=(tA 1 8 [zI .i64] [(0,39)])) ig O).agg
def XD:iZ Tryz.prog 216=false:=(TT.bj (i:=(tP 214)) ig O).agg
def OX:iZ Tryz.prog 295=false:=(TT.bj (i:=tF) ig O).agg
def wm:(Tryz.prog.info? 3).map (·.size)=some 1:=(TT.bj (i:=(tI .i64 8)) ig O).size
def ahS:(Tryz.prog.info? 5).map (·.size)=some 1:=(TT.bj (i:=(tI .u8 1)) ig O).size
def KW:(Tryz.prog.info? 9).map (·.size)=some 1:=(TT.bj (i:=tT) ig O).size
def Yu:(Tryz.prog.info? 22).map (·.size)=some 1:=(TT.bj (i:=(tS 3)) ig O).size
def af1:(Tryz.prog.info? 68).map (·.size)=some 4:=(TT.bj (i:=ad6) ig O).size
def Qj:(Tryz.prog.info? 88).map (·.size)=some 2:=(TT.bj (i:=UA) ig O).size
def Ud:(Tryz.prog.info? 145).map (·.size)=some 7:=(TT.bj (i:=(tA 7 56 [zI .u8,zI .i64,zI .i64,zI .i64,zI .i64,zI .i64,.bool false] [(0,136),(1,143),(4,3),(5,3),(6,4)])) ig O).size
def adM:(Tryz.prog.info? 159).map (·.size)=some 1:=(TT.bj (i:=tF) ig O).size
def Ue:(Tryz.prog.info? 214).map (·.size)=some 1:=(TT.bj (i:=(tA 1 8 [zI .i64] [(0,39)])) ig O).size
def KU:(Tryz.prog.info? 295).map (·.size)=some 1:=(TT.bj (i:=tF) ig O).size
def KV:(Tryz.prog.info? 363).map (·.size)=some 2:=(TT.bj (i:=(tA 2 32 [zP,zS] [(0,360),(1,361)])) ig O).size
def ah7:(Tryz.prog.info? 9).bind (·.zero)=some ((Go.Value.string {data:=#[]})):=(TT.bj (i:=tT) ig O).zero
def Y0:(Tryz.prog.info? 22).bind (·.zero)=(Go.Value.slice Option.none 0 0):=(TT.bj (i:=(tS 3)) ig O).zero
def aem:(Tryz.prog.info? 145).bind (·.zero)=(Go.Value.agg #[Go.Value.int Go.IntKind.u8 0,Go.Value.int Go.IntKind.i64 0,Go.Value.int Go.IntKind.i64 0,Go.Value.int Go.IntKind.i64 0,Go.Value.int Go.IntKind.i64 0,Go.Value.int Go.IntKind.i64 0,Go.Value.bool Bool.false]):=(TT.bj (i:=(tA 7 56 [zI .u8,zI .i64,zI .i64,zI .i64,zI .i64,zI .i64,.bool false] [(0,136),(1,143),(4,3),(5,3),(6,4)])) ig O).zero
def aeF:(Tryz.prog.info? 9).map (·.bytes)=some 16:=(TT.bj (i:=tT) ig O).bytes
def R9:(Tryz.prog.info? 22).map (·.bytes)=some 24:=(TT.bj (i:=(tS 3)) ig O).bytes
def M7:(Tryz.prog.info? 145).map (·.bytes)=some 56:=(TT.bj (i:=(tA 7 56 [zI .u8,zI .i64,zI .i64,zI .i64,zI .i64,zI .i64,.bool false] [(0,136),(1,143),(4,3),(5,3),(6,4)])) ig O).bytes
end
structure ei where
 lo:Int
 hi:Int
deriving DecidableEq
abbrev eI:=List ei
structure sA where
 pan:Int
 tick:Int
 kY:Int
deriving DecidableEq
abbrev jA:=List sA
structure Bl where
 bq:List ei
 dI:List Int
 marks:List Int
 bV:List ei
 proofs:List sA
deriving DecidableEq
def iE(s:ei)(zX:Int):Int:=if !cV s.lo 0 zX||!cV s.hi 0 zX then 1 else if s.hi<s.lo then 5 else 0
def jg(zX:Int):List ei->Int
 | []=>0
 | s::l=>if iE s zX≠0 then iE s zX else jg zX l
def ep(l:eI)(many zX:Int):Int:=if cI l 1 many≠0 then cI l 1 many else jg zX l
def mN:List Int->Bool
 | []=>true
 | r::l=>cV r 1 3&&mN l
def lU(l:aH):Int:=
 if l.length≠3 then 9 else if !(l.all λn=>cV n 1 60) then 1 else
 if l.getD 1 0<=l.getD 0 0\/l.getD 2 0<=l.getD 1 0 then 5 else 0
def eU(b:Bl)(p:sA):Int:=
 if !cV p.pan 0 ((b.bq:Int) - 1)||!cV p.tick 0 b.bV then 3 else if !cV p.kY 0 3 then 8 else 0
def lu(b:Bl):List sA->Int
 | []=>0
 | p::l=>if eU b p≠0 then eU b p else lu b l
def fP(b:Bl):Int:=
 if ep b.bq 3 40≠0 then ep b.bq 3 40 else
 if b.dI≠b.bq.length then 9 else
 if !mN b.dI then 1 else
 if lU b.marks≠0 then lU b.marks else
 if ep b.bV 5 4≠0 then ep b.bV 5 4 else
 if 8<b.proofs.length then 6 else lu b b.proofs
def iD(a b:ei):ei:=⟨max a.lo b.lo,min a.hi b.hi⟩
def dM(s:ei):Int:=max 0 (s.hi - s.lo+1)
def eW(b:Bl)(h:aH)(pan time:Nat):Int:=b.dI.getD pan 0 *bu (h.take time)
def gL(b:Bl)(t:Nat):ei:=
 let all:List Int:=[-1048576,b.marks.getD 0 0,b.marks.getD 1 0,b.marks.getD 2 0,1048576]
 ⟨all.getD t 0,all.getD (t+1) 0 - 1⟩
def lD(b:Bl)(ahU:Int):Nat:=b.marks.countP λm=>decide (m<=ahU)
def cx(b:Bl)(h:aH)(ps:jA):List ei:=
 ps.foldl (λg p=>g.modify p.pan.toNat λs=>iD s ⟨(gL b p.kY.toNat).lo - eW b h p.pan.toNat p.tick.toNat,(gL b p.kY.toNat).hi - eW b h p.pan.toNat p.tick.toNat⟩) b.bq
def fV(l:aH):Int:=l.foldl (· * ·) 1
def eo(g:eI):Int:=fV (g.map dM)
def nN(s:ei):List Int:=(List.range (s.hi - s.lo+1).toNat).map λ(n:Nat)=>s.lo+n
def ov:List ei->List (List Int)
 | []=>[[]]
 | s::l=>(nN s).flatMap λn=>(ov l).map (n::·)
def cH(b:Bl)(ps:jA):List (List Int×List ei):=
 ((ov b.bV).map λh=>(h,cx b h ps)).filter λx=>decide (eo x.2≠0)
def sU(b:Bl)(pan time:Nat):Bool:=(cH b b.proofs).all λx=>
 let s:=x.2.getD pan ⟨0,0⟩
 let n:=eW b x.1 pan time
 lD b (s.lo+n)==2&&lD b (s.hi+n)==2
def nh(b:Bl)(pan:Nat):List Nat:=(List.range (b.bV+1)).filter λt=>sU b pan t
def gv(b:Bl)(pan:Int):List Nat×Int:=
 if fP b≠0 then([],fP b) else
 if !cV pan 0 ((b.bq:Int) - 1) then([],3) else
 if cH b b.proofs=[] then([],9) else
 if nh b pan.toNat=[] then([],11) else(nh b pan.toNat,0)
def O4:Bl:=⟨[],[],[],[],[]⟩
def oz(b:Bl)(p:sA):Bl×Int:=
 if fP b≠0 then(O4,fP b) else
 if b.proofs.length=8 then(O4,6) else
 if eU b p≠0 then(O4,eU b p) else
 if cH b b.proofs≠[]/\cH b (b.proofs++[p])=[] then(O4,9) else({b with proofs:=b.proofs++[p]},0)
def eK:Bl:=⟨[⟨4,6⟩,⟨8,8⟩],[1,2],[8,12,16],[⟨1,2⟩,⟨2,2⟩,⟨1,3⟩],[⟨0,2,1⟩]⟩
variable {α:Type}{n k m:Nat}{R J:LH}{t:bh}{w u:World}{h:α->List Value}{x:aW}{Y:Trace}{l:aH}{q:aU}{j:aR}{D:bt}{F:Env}{o:bD}{N:Nm}{K:bI}{I:cj}{H:ck}
section
variable {P:aV}{X:aM P}{T:aK}{L:LH}{Q:Value->LH->Prop}
def Re{g:bO}{fn:Func}{c:aK}{e:Array Value->Sem Value}{Q:Ay}{H:bC}(a:P.funcs[g]?=fn)(y:(fn.name== "runtime.NumGoroutine")=false)(d:fn.body.isNone=true)(u:Extern.findNext fn=none)(z:Extern.find fn=e)
  (h:aP P (λv q=>Q (.value v) q) H (e c) L):aP P Q H (callFunc g c) L:=by
 unfold callFunc;rw[Z,gG];simp[a,y,d,u,z,iM,if_false,if_true];rw[Z];exists .inr ⟨g,rfl⟩;show aP P Q H (e c>>= λv=>pure (Next.value v)) L;rw[Z];exact h
end
structure Ext(P:Program)(g:FuncId)(fn:Func)(e:Array Value->Sem Value):Prop where
 func:P.funcs[g]?=some fn
 name:(fn.name== "runtime.NumGoroutine")=false
 body:fn.body.isNone=true
 next:Extern.findNext fn=none
 find:Extern.find fn=some e
def pK(P:aV)(g:bO)(c:aR)(L:LH)(Q:bC):Prop:=
 ∃fn e,Ext P g fn e/\∀R,Le L R->aP P (λv R'=>∃L',Q v L'/\Post L R L' R') (λ_ _=>False) (e c.toArray) R
def Post.refl{L:LH}(h:Le L R):Post L R L R:=⟨h,λ_ _ _ h=>h,λ_ h=>.inl h,λ_ h=>h⟩
def Post.new{L:LH}(h:Le L R){b:Nat}(hb:R b=none)(o:Obj):Post L R (L.put b o) (R.put b o) where
 le:=λb' x hx=>by
  by_cases e:b'=b
  .subst e;rw[aj] at hx ⊢;exact hx
  .rw[aB _ _ e] at hx ⊢;exact h _ _ hx
 keep:=λb' x h1 h2=>by rwa[aB _ _ (λe=>by subst e;rw[hb] at h2;cases h2)]
 fresh:=λb' PE=>by
  by_cases e:b'=b
  .subst e;exact .inr hb
  .rw[aB _ _ e] at PE;exact .inl PE
 jZ:=λb' PE=>by
  by_cases e:b'=b
  .subst e;rw[aj];simp
  .rwa[aB _ _ e]
def Post.set{L R':LH}(h:Le L R){b:Nat}{o' o:Obj}(hb:L b=some (o',true))(h1:R' b=some (o,true))(h2:∀b',b'≠b->R' b'=R b'):Post L R (L.put b o) R' where
 le:=λb' x hx=>by
  by_cases e:b'=b
  .subst e;rw[aj] at hx;rwa[h1]
  .rw[aB _ _ e] at hx;rw[h2 _ e];exact h _ _ hx
 keep:=λb' x g1 g2=>by rwa[h2 _ (λe=>by subst e;rw[hb] at g1;cases g1)]
 fresh:=λb' PE=>by
  by_cases e:b'=b
  .subst e;exact .inl (by rw[hb];simp)
  .rw[aB _ _ e] at PE;exact .inl PE
 jZ:=λb' PE=>by
  by_cases e:b'=b
  .subst e;rw[aj];simp
  .rwa[aB _ _ e]
section
variable {P:aV}{C:Cx P}{E:cK}{B:aX}{L:LH}{d:fD}{ty:bh}{r:ck}{z:cR}{s:Option (Nat×Bool)}
def ER{g:bO}{c:aR}{Q:bC}(f:bJ C.L0 C.R0 N B L R)(h:Sp C.X g c L Q\/pK P g c L Q):
  aP P (λk z=>match k with
   | .value v=>∃y q u,qM B Q y q u/\den N y=v/\bJ C.L0 C.R0 N q u z/\∀m,N m=none->q[m]?=B[m]?
   | .skip=>∃y q u,qM B Q y q u/\den N y=undef/\bJ C.L0 C.R0 N q u z/\∀m,N m=none->q[m]?=B[m]?
   | .enter g c=>∃i:Value->LH->Prop,Fn C.X g c z i/\∀v d,i v d->∃y q u,qM B Q y q u/\den N y=v/\bJ C.L0 C.R0 N q u d/\∀m,N m=none->q[m]?=B[m]?
   | .round l g tmps asg body=>∃i:Value->LH->Prop,Zd C.X (Frame.round l g tmps asg body .normal) z i/\∀v d,i v d->∃y q u,qM B Q y q u/\den N y=v/\bJ C.L0 C.R0 N q u d/\∀m,N m=none->q[m]?=B[m]?
   | _=>False) (λ_ _=>False) (callFunc g c.toArray) R:=by
 let fin:∀v r,(∃z,Q v z/\Post L R z r)->∃y q z,qM B Q y q z/\den N y=v/\bJ C.L0 C.R0 N q z r/\∀m,N m=none->q[m]?=B[m]?:=λv r ⟨z,o,a⟩=>⟨v,B,z,⟨v,rfl,rfl,o⟩,rfl,f.call a,λ_ _=>rfl⟩;rcases h with⟨⟨fn,h1,h2,h3⟩,hf⟩ | ⟨fn,e,h1,h2⟩
 .rw[rL h1 h2 h3];exact⟨_,(hf R f.le).mono (λ_ _ h=>h) (λj r ⟨z,h,_⟩=>h),fin⟩
 .refine Re h1.func h1.name h1.body h1.next h1.find (lF (λv r t=>fin v r t) (λ_ _ h=>h) _ _ (h2 R f.le))
def Ef.ext{g:bO}{w:jk}{q:fX}{c:aR}{Q:bC}(v:nJ E w.toList=c)(a:pK P g c L Q):Ef C ⟨d,.call {callee:=.value (.func g),args:=w,argTypes:=q},ty,r,z,s⟩ E B L (qM B Q):=by
 intro T R β h i;let u:w.map (ev T)=c.toArray:=by rw[<-wO h v,<-oY]
 exists rfl;simp only[execOp,resolve,ev,Deferred.ofValue,u];rw[Z,aI];simp[invoke,uo,rQ];exact ER i (.inr a)
def Ef.inv{y:SV}{v f:Value}{g:bO}{w:jk}{j:fX}{c:aR}{Q:bC}(u:bZ E x=y)(a:den fe y=some (.iface t v))(n:nJ E w.toList=c)
  (o:∀(Q:Xf) (h:bC) (R:LH),aP P Q h (method (P.types.size+Made.depth) t v H) R=Q (g,f) R)(b:Sp C.X g (f::c) L Q\/pK P g (f::c) L Q):
  Ef C ⟨d,.call {callee:=.invoke x H,args:=w,argTypes:=j},ty,r,z,s⟩ E B L (qM B Q):=by
 intro T R β m l;let q:=bR ((m.val u).symm.trans (fw a β));let i:w.map (ev T)=c.toArray:=by rw[<-wO m n,<-oY]
 exists rfl;simp only[execOp,resolve,i,q];rw[Z,aI];simp only[invoke];let k:(#[Value.iface t v]++c.toArray)[0]?=some (.iface t v):=U
 simp only[k];let p:(#[Value.iface t v]++c.toArray).extract 1 (#[Value.iface t v]++c.toArray).size=c.toArray:=U
 rw[p];unfold callMethod;simp only;rw[Z,gG,Z,o];let e:#[f]++c.toArray=(f::c).toArray:=U
 simp only[e];exact ER l b
end
section
variable {P:aV}{g:bO}{fn:Func}{e:Array Value->Sem Value}{c:aR}{L:LH}{v:Value}
def pK.pure(h:Ext P g fn e)(q:∀(Q:bC) (H:bC) (R:LH),aP P Q H (e c.toArray) R=Q v R):pK P g c L (λu z=>u=v/\L=z):=
 ⟨fn,e,h,λR l=>by rw[q];exact⟨L,⟨rfl,rfl⟩,Post.refl l⟩⟩
def pK.read(h:Ext P g fn e)(q:∀(Q:bC) (H:bC) (R:LH),Le L R->aP P Q H (e c.toArray) R=Q v R):pK P g c L (λu z=>u=v/\L=z):=
 ⟨fn,e,h,λR l=>by rw[q _ _ _ l];exact⟨L,⟨rfl,rfl⟩,Post.refl l⟩⟩
def pK.alloc{mk:fJ}{o:Obj}(h:Ext P g fn e)(q:∀(Q:bC) (H:bC) (R:LH),aP P Q H (e c.toArray) R=∀b,R b=none->Q (mk b) (R.put b o)):pK P g c L (λu v=>∃b,L b=none/\u=mk b/\v=L.put b o):=
 ⟨fn,e,h,λR l=>by rw[q];exact λb d=>⟨_,⟨b,bN l d,rfl,rfl⟩,Post.new l d o⟩⟩
end
end Go.Mz
set_option maxRecDepth 100000
namespace Go.Mz
open Go.Conc
variable {α:Type}{n k m:Nat}{L R J:LH}{t e:bh}{w u:World}{h:α->List Value}{c:Int}{B:aX}{x:aW}{Y:Trace}{l:aH}{r:List α}{s:Sw}{q:aU}{Q:bC}{E:cK}{j:aR}{D:bt}{d:bA}{F:Env}{g:aT}{o:bD}{N:Nm}{K:bI}{z:SV}{I:cj}{H:ck}{X:aM Proofs.Tryz.prog}
abbrev str(l:List UInt8):Value:=.string ⟨⟨l⟩⟩
def adX(a b:ko):(ByteArray.mk ⟨a⟩++ByteArray.mk ⟨b⟩)=ByteArray.mk ⟨a++b⟩:=by
 apply ByteArray.ext;rw[ByteArray.data_append];simp
section
variable {P:aV}[S:Seat P]
omit S in
def Vf.cat{y:aW}{l r:ko}(u:bZ E x=str l)(g:bZ E y=str r)(h:l+r.length<=4611686018427387904):Vf P (.binOp .add t x y e) E B L (str (l++r)):=λT R β d _ _=>by
 let q:=(bR (d.val u)).symm;let j:=(bR (d.val g)).symm;refine⟨_,rfl,λp w s f o Q H c=>?_⟩;simp only[execOp,q,j];rw[Z,Z];show aP P _ H (if((ByteArray.size ⟨⟨l⟩⟩+ByteArray.size ⟨⟨r⟩⟩:Nat):Int)>IntKind.i64.max then _ else pure (Value.string (ByteArray.mk ⟨l⟩++ByteArray.mk ⟨r⟩))) R;let i:(ByteArray.size ⟨⟨l⟩⟩+ByteArray.size ⟨⟨r⟩⟩:Nat)=l+r.length:=rfl;let z:IntKind.i64.max=9223372036854775807:=rfl;rwa[i,z,A M,adX]
def Vf.adW{y:aW}{u:TI}{l:ko}{k:fE}{b:UInt8}(e:bZ E x=str l)(g:bZ E y=some (.v (.int k c)))(s:S.τ.find t=u)(a:u.d=.text)(I:c=(n:Int))(i:l[n]?=b):Vf P (.index t x y) E B L (uy b):=λT R β m _ _=>by
 let q:=(bR (m.val e)).symm;let j:=(bR (m.val g)).symm;let r:=(TT.bj S.ok s).d;rw[a] at r;subst I;refine⟨_,rfl,λp w J D F Q H K=>?_⟩;simp only[execOp,q,j];rw[Z];unfold Instr.index;rw[Z];show aP P _ H (underlying t>>= _) R;rw[Z,aD r];simp only;let f:(0:Int)<=(n:Int):=M
 let z:(ByteArray.mk ⟨l⟩)[((n:Int)).toNat]?=b:=by
  rw[kT];obtain⟨o,z⟩:=eO.1 i;show(if h:n<(ByteArray.mk ⟨l⟩).size then some ((ByteArray.mk ⟨l⟩)[n]'h) else none)=some b;rw[sC (show n<(ByteArray.mk ⟨l⟩).size from o)];show some (l[n])=some b;rw[z]
 rw[ax f,z];exact K
omit S in
def Gs{s u:Option Value}{i j:Nat}{c:Nat×Nat×Nat->LH->Prop}(q:(u=none/\n=j)\/∃k,u=some (.int k (j:Int)))(z:(s=none/\i=0)\/∃k,s=some (.int k (i:Int)))(t:i<=j)(v:j<=n):aP P c Q (Instr.sliceBounds false n n s u none) R=c (i,j,n) R:=by
 unfold Instr.sliceBounds;rcases q with⟨rfl,rfl⟩ | ⟨k1,rfl⟩ <;> rcases z with⟨rfl,rfl⟩ | ⟨k2,rfl⟩
 .rw[Z,aI,Z,aI,Z,aI,aI]
 .rw[Z,aI,Z,aI,Z,eC M,kT,aI]
 .rw[Z,aI,Z,eC M,kT,Z,aI,aI]
 .rw[Z,aI,Z,eC M,kT,Z,eC M,kT,aI]
def R6(E:cK)(o:LR)(d:Int):Option Int:=match o with
 | none=>d
 | some x=>match bZ E x with | some (.v (.int _ j))=>j | _=>none
def Vf.CZ{b:TI}{l:ko}{I J:LR}{i j:Nat}{s:Int}(D:bZ E x=str l)(F:S.τ.find t=b)(a:b.d=.text)(y:R6 E I 0=c)(r:R6 E J l=s)(f:c=(i:Int))(G:s=(j:Int))(n:i<=j)(W:j<=l):Vf P (.slice t x I J none) E B L (str ((l.drop i).take (j - i))):=λT R β K _ _=>by
 let X:=(bR (K.val D)).symm;let u:=(TT.bj S.ok F).d;rw[a] at u;subst f G;refine⟨_,rfl,λty w C af gd Q H hq=>?_⟩;simp only[execOp,X,Cg];rw[Z];unfold Instr.sliceAt;rw[Z,aD u];simp only;unfold Instr.slice;rw[Z,aD u];simp only[Option.isSome_none,iM,if_false];rw[Z];let g:∀(o:LR) (d s:Int) (k:Nat),R6 E o d=s->s=(k:Int)->(o.map (ev T)=none/\d=k)\/∃m,o.map (ev T)=some (.int m (k:Int)):=by
  intro o d s k h e;subst e;cases o with
  | none=>exact .inl ⟨rfl,bR h⟩
  | some z=>
   unfold R6 at h;simp only at h
   split at h
   .rename_i m q p;cases h;exact .inr ⟨m,by rw[mg,(bR (K.val p)).symm]⟩
   .cases h
 rw[show(ByteArray.mk ⟨l⟩).size=l from rfl];rw[Gs (i:=i) (j:=j) ((g _ _ _ _ r rfl).imp (λh=>⟨h.1,M⟩) id) ((g _ _ _ _ y rfl).imp (λh=>⟨h.1,M⟩) id) n W];let e:(ByteArray.mk ⟨l⟩).extract i j=ByteArray.mk ⟨(l.drop i).take (j - i)⟩:=ByteArray.extract_mk l i j;simp only;rw[e];exact hq
end
section
variable {P:aV}[S:Seat P]{C:Cx P}
def Ef.Yh{w:fD}{i:cR}{o:cZ}{u:TI}{l:ko}(f:bZ E x=str l)(s:S.τ.find t=u)(a:u.d=.text):
  Ef C ⟨w,.range t x,e,H,i,o⟩ E B L (λy m g=>∃q,y=.v (.pointer (some ⟨q,0,none⟩))/\m=B/\L q=none/\g=L.put q (.stringIter ⟨⟨l⟩⟩ 0)):=by
 intro T R β h r;let j:=(bR (h.val f)).symm;let z:=(TT.bj S.ok s).d;rw[a] at z;exists rfl;simp only[execOp,j];rw[Z];unfold Instr.range;rw[Z,aD z];simp only;rw[Z,aI,Z,vL];intro q c;rw[aI,aI];exact⟨_,B,_,⟨q,rfl,rfl,(r.free c).1,rfl⟩,rfl,r.zY c _,λ_ _=>rfl⟩
omit [Seat P] in
def Ef.FL{w:fD}{z:cR}{o:cZ}{s:ByteArray}(g:bZ E x=some (.v (.pointer (some ⟨n,0,none⟩))))(c:L n=some (.stringIter s k,true)):
  Ef C ⟨w,.next x true,t,H,z,o⟩ E B L (λy d q=>d=B/\((k<s.size/\y=.v (.tuple #[true,k,.int .i32 (Utf8.decode s k).1])/\q=L.put n (.stringIter s (k+(Utf8.decode s k).2)))\/(s.size<=k/\y=.v (.tuple #[false])/\q=L))):=by
 intro T R β i r;let j:=(bR (i.val g)).symm;let l:=r.le _ _ c;exists rfl;simp only[execOp,j];rw[Z];unfold Instr.next;simp only;rw[Z];show aP P _ _ (.getObj n .pure) R;unfold aP;rw[l];simp only[mq,iM,if_false];show aP P _ _ _ R;simp only[pure,aP]
 by_cases h:k<s.size
 .rw[ax h];show aP P _ _ (setObj n _>>= _) R;rw[Z,lN l rfl rfl];exact⟨_,B,_,⟨rfl,.inl ⟨h,rfl,rfl⟩⟩,rfl,r.wZ c (aj _ _ _) (λb u=>aB R _ u),λ_ _=>rfl⟩
 .rw[A h];exact⟨_,B,L,⟨rfl,.inr ⟨M,rfl,rfl⟩⟩,rfl,r,λ_ _=>rfl⟩
end
def Cv{l:ko}{b:UInt8}(h:l[n]?=b)(d:b.toNat<128):Utf8.decode ⟨⟨l⟩⟩ n=(b.toNat,1):=by
 let⟨o,u⟩:=eO.1 h;have e:((ByteArray.mk ⟨l⟩).get! (n+0)).toNat=b.toNat:=by
  show((⟨l⟩:Array UInt8)[n+0]!).toNat=_;rw[pT,getElem!_pos (⟨l⟩:Array UInt8) n o];show(l[n]).toNat=_;rw[u]
 unfold Utf8.decode;simp only[e];rw[ax M]
section
variable {P:aV}[S:Seat P]{C:Cx P}
def Ef.Vu{w:fD}{l:cR}{o:cZ}{I F q:bh}{J b:TI}{y:aW}{s a:Nat}{c:aK}(G:bZ E x=some (.v (.slice (some ⟨n,k,none⟩) s a)))(z:S.τ.find I=J)(Q:J.d=.slice e)(W:S.τ.find e=b)(g:YC E B L b.size y m j)(X:m<=s)
  (K:L n=some (.cells c q (0,0),true))(hl:k+j<=c.size)(hs:∀u∈j,single u=true):
  Ef C ⟨w,.call {callee:=.builtin .copy,args:=#[x,y],argTypes:=#[I,F]},t,H,l,o⟩ E B L (λsv B' L'=>sv=m/\B'=B/\L'=L.put n (.cells (bY c k j) q)):=by
 intro T R β h r;let ex:=(bR (h.val G)).symm;let⟨u1,f,p⟩:=g.first (P:=P) h r.boxes r.le;let i:=(TT.bj S.ok z).d;rw[Q] at i;refine⟨rfl,?_⟩;simp only[execOp,resolve,oY,iH,nG,ex,pure,Sem.bind,bind,invoke,builtin];show aP P _ _ (Builtin.copy_ _ _ _>>= λu=>pure (Next.value u)) R;rw[Z];unfold Builtin.copy_;simp only[gq,zc,IL];rw[Z,aD i];simp only;rw[Z,f,Z,cQ (TT.bj S.ok W).size,Z];rw[show Nat.min m s=m from yR X];refine p _ _ ?_;simp only;rw[Z];refine ky (e:=q) j 0 c R (r.le _ _ K) M hs (λR' D h2=>?_);rw[pT] at D;exact⟨m,B,_,⟨rfl,rfl,rfl⟩,rfl,r.wZ K D h2,λ_ _=>rfl⟩
def Ef.BX{w:fD}{p:bh}{z:cR}{o:cZ}{y:aW}{q:TI}{l:Addr}{b off:Nat}{c:aK}{v:Value}(i:bZ E x=l)(g:∃s,bZ E y=some s/\den fe s=v)(f:S.τ.find t=q)(m:l=⟨b,off,none⟩)(d:L b=some (.cells c e (0,0),true))(j:v.cells.size=q.size)(r:off+q.size<=c.size)
  (a:∀u∈v.cells.toList,single u=true):Ef C ⟨w,.store t x y,p,H,z,o⟩ E B L (IE (L.put b (.cells (bY c off v.cells.toList) e)) B):=by
 subst m;exact Ef.eR i g f d j r a
end
theorem N9:∀{c b:gn},c.length=b.length->BR b 0 c=c
 | [],[],_=>rfl
 | [],_::_,h=>by simp at h
 | _::_,[],h=>by simp at h
 | x::c,y::b,h=>by
  show x::BR b 0 c=x::c;rw[N9 ri]
def Om:∀{vs:aR},(∀u∈vs,single u=true)->KP (vs.map .v)=true
 | [],_=>rfl
 | x::vs,h=>by
  have q:=h x fC;let z:=Om λu d=>h u (fG _ d);rw[iH];unfold KP;rw[show WS x=true from q,z]
section
variable {P:aV}[S:Seat P]{C:Cx P}
def Ef.adV{w:fD}{l:cR}{o:cZ}{y:aW}{i:TI}{a:bh}{f:gn}(m:bZ E x=some (.p n 0))(g:bZ E y=some (.v (.agg j.toArray)))(s:S.τ.find t=i)(d:nth B n=some (some ⟨f,a⟩))(q:j=i.size)(z:f=i.size)(r:∀u∈j,single u=true):
  Ef C ⟨w,.store t x y,e,H,l,o⟩ E B L (IE L (B.set n (some ⟨j.map .v,a⟩))):=
 Ef.Ur m g s d (by rfl) (by rw[eT,q]) M (Om r) (N9 (by rw[eT,q,z]))
def W.Yj{q:Func}{H:kP}{a:Tmp}{d:Bx}{vs:aR}{u:TI}(r:Rt C q Q H)(x:q.results=#[.cell a t])(m:get F a=some (.p k 0))(g:nth B k=d)(j:d.cells=vs.map .v)(s:S.τ.find t=u)(w:u.agg=true)(y:vs=u.size)(c:Q (.agg vs.toArray) L):W C n [] (.code .ret::K) F B L:=by
 refine W.out r.ro (.inr .ret) (WM.Ym r (λT R β h l o=>?_) c);let⟨b,e,z⟩:=sH (h a _ m);let⟨D,f,I⟩:=l k b d e (by rw[<-dF];exact g);rw[j,lL] at f;cases f;unfold results;rw[x,Z,GD];simp only[Ch,List.mapM_nil];rw[ES,Z];simp only[z];rw[Z,sj,rN (n:=u.size) (vs:=vs) (by rw[(TT.bj S.ok s).agg,w]) (TT.bj S.ok s).size ⟨y,λi v J=>by rw[bM,jJ];exact aF I (by rw[gq];exact J)⟩];exact⟨rfl,rfl⟩
end
def W.AA{P:aV}{C:Cx P}(s:Nat){b:Bool}(a:get F s=some (.lit b))(w:W C n I K ((s,b)::F) B L):W C n I K F B L:=λT R β z h r=>
 w T R β z (λq x u=>by
  rw[dO] at u
  by_cases e:s=q
  .subst e;rw[ax rfl] at u;cases u;exact(h s (.lit b) a:den β (.lit b)=_)
  .rw[A e] at u;exact h q x u) r
section
variable {P:Program}
def Rc{H:bC}{tx:bh}{w:Nat}{vs:aR}{v l z:Value}{ty:bh}(S:P.underlying t=some (.slice e))(hk:(P.info? e).map (·.size)=k)(q:(P.info? e).map (·.bytes)=n)(hz:(P.info? e).bind (·.zero)=z)(T:z.cells.size=k)(PL:aby P tx)
  (g:∃ad,v=.slice ad w w)(ho:gH P R k w v j)(hy:gH P R k m l vs)(o:0<m)(h0:0<n)(hb:(2 * (w+m)+1024) *n<=2 ^ 48)
  (hq:∀b c J,R b=none->dB (R.put b (.cells c e)) k e (.slice (some ⟨b,0,none⟩) (w+m) J) (w+m) (j++vs) b->Q (.slice (some ⟨b,0,none⟩) (w+m) J) (R.put b (.cells c e))):aP P Q H (Builtin.append_ #[t,tx] ty #[v,l]) R:=by
 obtain⟨K,D,p⟩:=hy;obtain⟨ad,rfl⟩:=g;obtain⟨a,_,W⟩:=ho;unfold Builtin.append_;simp only[gq,zc,IL];rw[Z,aD S];simp only;rcases PL with⟨e2,PL⟩ | PL
 all_goals
  rw[Z,cQ hk,Z,aD PL,Z,aI];simp only[iM,if_false,Cl,if_true];rw[Z,D];have F:¬(w+m<=w):=M
  rw[A F];obtain⟨y,f,X⟩:∃y,P.info? e=some y/\y.bytes=n:=by
   cases u:P.info? e with
   | none=>rw[u] at q;cases q
   | some i=>rw[u] at q;cases q;exact⟨i,rfl,rfl⟩
  have C:¬(y.bytes=0):=M
  rw[Z,gz f,A (by simp[C]),Z,gz f];have G:=Hd (need:=w+m) (old:=w) M;have u1:Builtin.nextslicecap (w+m) w *y.bytes<=2 ^ 48:=lI (by rw[X];exact Nat.mul_le_mul_right _ G) hb;rw[A M,Z,sx];intro h I;obtain⟨r,rfl⟩:∃r,h=w+m+r:=by
   unfold pN at I;simp only[Question.forced,iM,if_false,Question.cut] at I;obtain⟨d,s⟩:=I;exact⟨_,s⟩
  rw[Z,gz f,Z];refine qB ?_;rw[Z];refine W _ _ ?_;rw[Z];refine p _ _ ?_;rw[Z,gA hz,Z,jD];intro b B;rw[aI];refine hq b _ _ B ⟨w+m+r,_,rfl,aj _ _ _,?_,M,by rw[eX,a,K,yP],λi x u=>?_⟩
  .simp only[Builtin.zeroCells,Cm,wG,Array.size_map,Array.size_range,a,K,T];rw[show w+m+r - (w+m)=r by omega,yP,yP]
  .have E:=(eO.1 u).1;rw[<-iN,Array.toList_append,Array.toList_append,kS (by simpa using E)];exact u
end
section
variable {P:aV}[S:Seat P]{C:Cx P}
def aia(B:aX)(L:LH)(k:Nat)(e:bh)(enc:α->List Value)(l:List α)(sv:SV)(B':aX)(L':LH):Prop:=
 ∃b c cap,sv=.v (.slice (some ⟨b,0,none⟩) l cap)/\B'=B/\L b=none/\L'=L.put b (.cells c e)/\dB L' k e (.slice (some ⟨b,0,none⟩) l cap) l (l.flatMap enc) b
def Ef.abL{w:fD}{af:cR}{gd:cZ}{enc:α->List Value}{l ls:List α}{Q W:bh}{X n s:TI}{k:bA}{y:aW}(hx:bZ E x=some (.v (.slice k l l)))(I:S.τ.find Q=some X)(hd:X.d=.slice e)(he:S.τ.find e=some n)(J:S.τ.find W=some s)(K:Yt s.d=true)(p:n.z.cells.size=n.size)
  (h0:Nat.blt 0 n.bytes=true)(q:Nat.ble n.bytes 1024=true)(hk:∀x,(enc x)=n.size)(o:bz L k n.size enc l)(hy:YC E B L n.size y ls (ls.flatMap enc))(j:0<ls.length)(f:l+ls.length<=1073741824):
  Ef C ⟨w,.call {callee:=.builtin .append,args:=#[x,y],argTypes:=#[Q,W]},t,H,af,gd⟩ E B L (aia B L n.size e enc (l++ls)):=by
 intro T R β h r;have ex:ev T x=.slice k l.length l.length:=(bR (h.val hx)).symm;have fy:=hy.first (P:=P) h r.boxes r.le;have fx:gH P R n.size l.length (.slice k l.length l.length) (l.flatMap enc):=by
  cases k with
  | none=>
   cases l with
   | nil=>exact gH.nil
   | cons x l=>obtain⟨a,q⟩:=o.addr (i:=0) U;cases q
  | some a=>exact gH.at (r.le.cD (o.cells hk))
 have i1:=(TT.bj S.ok I).d;rw[hd] at i1;have i2:=Xc (TT.bj S.ok J).d K;have D:=TT.bj S.ok he;refine⟨rfl,?_⟩;simp only[execOp,resolve,oY,iH,nG,ex,pure,Sem.bind,bind,invoke,builtin];show aP P _ _ (Builtin.append_ _ _ _>>= λu=>pure (Next.value u)) R;rw[Z];refine Rc i1 D.size D.bytes D.zero p i2 ⟨_,rfl⟩ fx fy j (qE h0) ?_ λb c m hb ho=>?_
 .have:=qE q;have h2:2 * (l.length+ls.length)+1024<=2147484672:=by omega
  exact lI (E9 h2 this) V
 .rw[aI];have F:=(r.free hb).1;have g:dB (L.put b (.cells c e)) n.size e (.slice (some ⟨b,0,none⟩) (l++ls).length m) (l++ls).length ((l++ls).flatMap enc) (some b):=by
   rw[eX,ze];exact ho.keep λb' G=>by cases G;rw[aj,aj]
  exact⟨.v (.slice (some ⟨b,0,none⟩) (l.length+ls.length) m),B,L.put b (.cells c e),⟨b,c,m,by rw[eX],rfl,F,rfl,g⟩,rfl,r.zY hb _,λ_ _=>rfl⟩
end
variable {P:aV}{C:bH}
def kM{G:LH}:Le L (L.join G):=λb x u=>by unfold LH.join;rw[u]
def join_le(q:Le L R)(z:Le J R):Le (L.join J) R:=λb x u=>by
 unfold LH.join at u;cases o:L b with
 | some y=>rw[o] at u;cases u;exact q b _ o
 | none=>rw[o] at u;exact z b x u
def uF(q:Le L R)(z:Le J R):Le J (L.join J):=λb x u=>by
 unfold LH.join;cases o:L b with
 | some y=>have:=q b y o;rw[z b x u] at this;cases this;rfl
 | none=>exact u
section
open Go.Proofs
def cm(l:aU):List Int:=l.map λ(n:Nat)=>(n:Int)
def aY(x:Int):(bL x).length=1:=rfl
def gf(x:Int):∀u∈bL x,single u=true:=λu q=>by cases dJ.1 q;rfl
def sz(L:LH)(k:Nat)(enc:α->List Value)(l:List α)(v:Value)(L':LH):Prop:=∃ad cap,v=.slice ad l cap/\Le L L'/\bz L' ad k enc l/\l<=cap
def bE.rJ{v:Value}(c:bE R k e h L v r)(f:∀x,(h x)=k):sz R k h r v L:=by
 obtain⟨l,m,rfl,b⟩:=c.slice;exact⟨l,m,rfl,c.1,(c.at f).2,b⟩
def BT(p:x7)(i:Nat):(List.range (i+1)).filter p=(List.range i).filter p++if p i then[i] else[]:=by
 rw[nI,yY]
 congr 1
 by_cases h:p i <;> simp[h]
theorem CN(l:aU)(i:Nat):cm (l++[i])=cm l++[(i:Int)]:=by simp[cm]
def I6(a b:Int):Int:=if a<b then -1 else if b<a then 1 else 0
def cmpL:List Int->List Int->Int
 | [],[]=>0
 | [],_::_=>-1
 | _::_,[]=>1
 | a::l,b::k=>if I6 a b≠0 then I6 a b else cmpL l k
def DL{t:km}{u:Bool}(h:L n=some (.cells j.toArray e t,u)):cD L ⟨n,0,none⟩ j j:=
 ⟨rfl,λi v g=>by rw[bM,jJ];exact aF h (by rwa[gq])⟩
def dU{vs:aR}{t:km}{j:Bool}(h:L k=some (.cells vs.toArray e t,j))(y:vs=n):cD L ⟨k,0,none⟩ n vs:=y▸DL h
abbrev pt(b:Nat):Value:=.pointer (some ⟨b,0,none⟩)
def W.agt{C:Cx P}{a:Item}(J:Q5)(i:∀F B L,J F B L->W C n I K F B L)(h:(∀u v q,J u v q->W C n I K u v q)->W C n I (a::K) F B L):W C n I (a::K) F B L:=h i
abbrev Rf:=Option Addr×Nat×Nat
abbrev slV(r:Rf):Value:=.slice r.1 r.2.1 r.2.2
def bE.ajg{v:Value}(c:bE R k e h L v r)(d:R n≠none)(o:Obj):bE (R.put n o) k e h (L.put n o) v r:=by
 let⟨p,u,j,y⟩:=c;refine⟨zO p n o,u,j.keep λb x=>aB _ _ (λe=>by subst e;exact d (y _ x)),λb x=>?_⟩;rw[aB _ _ (λe=>by subst e;exact d (y _ x))];exact y b x
def pW(h:Le (L.bT n) R):Le (L.bT n) (R.bT n):=λb x u=>by
 let d:b≠n:=λe=>by subst e;unfold LH.bT at u;rw[ax rfl] at u;cases u
 rw[bW d];exact h _ _ u
def X4(d:L n=none)(o:Le L R):Le L (R.bT n):=λb x u=>by
 rw[bW (λe=>by subst e;rw[d] at u;cases u)];exact o _ _ u
def cY{l:List α}(f:∀x,(h x)=k)(c:L n=some (.cells (l.flatMap h).toArray e (0,0),true)):bz L (some ⟨n,0,none⟩) k h l:=by
 let o:∀l:List α,(l.flatMap h)=l.length *k:=λl=>by
  induction l with
  | nil=>simp
  | cons a l q=>rw[rT,eX,f,q,pR,Nat.succ_mul];omega
 exact dB.at (ob:=some n) ⟨l,(l.flatMap h).toArray,rfl,c,by simp[o],dA _,o l,λi x u=>by simpa using u⟩ f
def W.di{C:Cx P}(s:Nat){p:Bool}(a:get F s=z)(d:mL z=p)(w:W C n I K ((s,.lit p)::F) B L):W C n I K F B L:=
 W.bool s a d (λe=>by rw[e] at w;exact w) (λe=>by rw[e] at w;exact w)
abbrev Rw(α:Type):=Rf×List α
abbrev oU:=List (Rw Int)
def iP(x:Rw α):List Value:=[slV x.1]
def gh(x:Rw α):(iP x).length=1:=rfl
def Nn(x:Rw α):∀u∈iP x,single u=true:=λu q=>by rw[dJ.1 q];rfl
structure Dl{α:Type}(L:LH)(k:Nat)(enc:α->List Value)(x:Rw α):Prop where
 sl:bz L x.1.1 k enc x.2
 len:x.1.2.1=x.2.length
 cap:x.2.length<=x.1.2.2
def Dl.le{x:Rw α}(c:Dl L k h x)(o:Le L R):Dl R k h x:=⟨c.sl.le o,c.len,c.cap⟩
def gB(L:LH)(ad:bA)(k:Nat)(enc:α->List Value)(ls:List (List α)):Prop:=∃rs:List (Rw α),rs.map Prod.snd=ls/\bz L ad 1 iP rs/\∀x∈rs,Dl L k enc x
def vN(I:LH)(e k:Nat)(enc:α->List Value)(L:LH)(v:Value)(ls:List (List α)):Prop:=∃J,∃rs:List (Rw α),Le I J/\rs.map Prod.snd=ls/\bE J 1 e iP L v rs/\∀x∈rs,Dl J k enc x
def bE.aiU{f:α->List Value}{l:List α}{a:Nat}(h:bE J k n f L (.slice d m a) l)(g:∀x,(f x)=k)(o:Le R J):∃i,Le R i/\Le i L/\bz i d k f l/\∀b,i b≠none->R b≠none\/J b=none:=by
 let⟨p,t,j,y⟩:=h;obtain⟨c,v,r,-⟩:=j.slice;cases r
 classical
 refine⟨λb=>if t=b then L b else R b,λb x u=>?_,λb x u=>?_,(j.keep λb z=>?_).at g,λb z=>?_⟩
 .simp only
  split
  .rename_i q;have:=o _ _ u;rw[y b q] at this;cases this
  .exact u
 .simp only at u
  split at u
  .exact u
  .exact p _ _ (o _ _ u)
 .rw[ax z]
 .simp only at z
  split at z
  .rename_i q;exact .inr (y b q)
  .exact .inl z
def dB.Bc{v:Value}(h:dB L k m v n j o){b:Nat}(d:o=b):L b≠none:=by subst d;exact h.blk
def bE.call{g:LH}{f:α->List Value}{v:Value}{l:List α}(h:bE R k n f L v l)(p:Post R L J g):bE J k n f g v l:=by
 let⟨_,z,j,a⟩:=h;refine⟨p.le,z,j.keep λb d=>?_,λb d=>?_⟩
 .cases u:L b with
  | none=>exact ar u (j.Bc d)
  | some y=>exact p.keep b y (a b d) u
 .cases u:J b with
  | none=>rfl
  | some y=>
   rcases p.fresh b FZ with q | q
   .exact ar (a b d) q
   .exact ar q (j.Bc d)
def vN.hle{v:Value}{u:List (List α)}(c:vN R n k h L v u):Le R L:=let⟨_,_,q,_,c,_⟩:=c;q.trans c.1
def vN.nil{e:Nat}(c:Le R L):vN R e k h L (.slice none 0 0) ([]:List (List α)):=⟨L,[],c,rfl,bE.nil (Le.refl _),λx u=>by cases u⟩
def vN.slice{v:Value}{u:List (List α)}(c:vN R n k h L v u):∃l m,v=.slice l u m:=by
 obtain⟨J,t,_,rfl,z,_⟩:=c;obtain⟨l,m,rfl,-⟩:=z.slice;exact⟨l,m,by rw[eT]⟩
def vN.at{I:LH}{e:Nat}{q:List (List α)}{len cap:Nat}(c:vN I e k h L (.slice d len cap) q):len=q.length/\gB L d k h q:=by
 obtain⟨J,t,_,rfl,z,r⟩:=c;obtain⟨rfl,v⟩:=z.at gh;exact⟨(eT ..).symm,t,rfl,v,λx u=>(r x u).le z.1⟩
def gB.le{v:List (List α)}(c:gB L d k h v)(o:Le L R):gB R d k h v:=let⟨t,q,z,r⟩:=c;⟨t,q,z.le o,λx u=>(r x u).le o⟩
def gB.addr{u:List (List α)}(c:gB L d k h u){i:Nat}(q:i<u):∃a,d=some a:=by
 obtain⟨t,rfl,z,_⟩:=c;exact z.addr wu
def gB.row{q:List (List α)}{l:Addr}(e:gB L l k h q)(o:q[n]?=r):∃a c,L.cell? (l.add n)=some (.slice a r c)/\bz L a k h r/\r<=c:=by
 obtain⟨t,rfl,z,m⟩:=e;rw[im] at o;obtain⟨⟨⟨a,d,c⟩,i⟩,u,rfl⟩:=il.1 o;have f:=m _ (fZ u);have y:d=i.length:=f.len;subst y;refine⟨a,c,?_,f.sl,f.cap⟩;have:=z.get u (j:=0) (v:=slV (a,i.length,c)) rfl
 simpa using this
def abr(L:LH)(ls:gx)(u:Value)(L':LH):Prop:=∃a c,u=.slice a ls c/\Le L L'/\gB L' a 1 bL ls
def Vf.af4{y:aW}{j:Nat}{c:fE}(z:bZ E x=some (.v (.slice d n k)))(g:bZ E y=some (.v (.int c j)))(u:P.underlying t=some (.slice e))(i:(P.info? e).map (·.size)=m)(I:j<=k):
  Vf P (.slice t x none (some y) none) E B L (.v (.slice d j k)):=λT R β h _ _=>by
 let q:=(bR (h.val z)).symm;let f:=(bR (h.val g)).symm;refine⟨_,rfl,λp w s l o Q H r=>?_⟩;simp only[execOp,q,mg,Cg,f];rw[Z];unfold Instr.sliceAt;rw[Z,aD u];simp only;unfold Instr.slice;rw[Z,aD u];simp only;rw[Z];unfold Instr.sliceBounds;simp only;rw[Z,aI,Z,eC M,kT];show aP P _ H (sizeOf e>>= _) R;rw[Z,cQ i];let b:(if k=0 then d else d.map λx=>x.add (0 *m))=d:=by
  split
  .rfl
  .cases d with
   | none=>rfl
   | some a=>rw[yO];rfl
 rw[b];exact r
def bz.take(c:bz L d k h r)(j:Nat):bz L d k h (r.take j):=λi x u=>by
 rw[List.getElem?_take] at u
 split at u
 .exact c i x u
 .cases u
def cJ(x:ei):List Value:=[x.lo,x.hi]
def ju(x:sA):List Value:=[x.pan,x.tick,x.kY]
def df(x:ei):(cJ x).length=2:=rfl
def lP(x:sA):(ju x).length=3:=rfl
def iz(x:ei):∀u∈cJ x,single u=true:=λu q=>by
 simp[cJ,eP,kB,or_false] at q;rcases q with rfl | rfl <;> rfl
structure BP where
 a0:Option Addr
 a1:Option Addr
 a2:Option Addr
 a3:Option Addr
 a4:Option Addr
 c0:Nat
 c1:Nat
 c2:Nat
 c3:Nat
 c4:Nat
abbrev wJ(b:Bl)(p:BP):List Value:=[.slice p.a0 b.bq.length p.c0,.slice p.a1 b.dI.length p.c1,.slice p.a2 b.marks.length p.c2,.slice p.a3 b.bV.length p.c3,.slice p.a4 b.proofs.length p.c4]
abbrev uw(b:Bl)(p:BP):Value:=.agg (wJ b p).toArray
structure iK(L:LH)(b:Bl)(p:BP):Prop where
 h0:bz L p.a0 2 cJ b.bq
 h1:bK L p.a1 b.dI
 h2:bK L p.a2 b.marks
 h3:bz L p.a3 2 cJ b.bV
 h4:bz L p.a4 3 ju b.proofs
 n0:b.bq.length<=1000000
 n1:b.dI.length<=1000000
 n2:b.marks.length<=1000000
 n3:b.bV.length<=1000000
 n4:b.proofs.length<=1000000
 k4:b.proofs.length<=p.c4
def iK.le{b:Bl}{p:BP}(h:iK L b p)(o:Le L R):iK R b p:=⟨h.h0.le o,h.h1.le o,h.h2.le o,h.h3.le o,h.h4.le o,h.n0,h.n1,h.n2,h.n3,h.n4,h.k4⟩
def pG(n s i:Int)(L:LH):Sp X 126 [n,s,i] L (λv u=>v=cV n s i/\L=u):=by
 refine Sp.e Tryz.func126 O λC j d r=>(.I O (λc=>?_) (λc=>?_))
 .refine .g O (.r r O ⟨F8,rfl⟩)
 .refine .g O (.r r O ⟨F8,rfl⟩)
def Pa(s:ei)(m:Int)(L:LH):Sp X 214 [.agg (cJ s).toArray,m] L (λv u=>v=iE s m/\L=u):=by
 refine Sp.e Tryz.func214 O λC j d r=>(.y O (pG _ _ _ _) (.I O (λc1=>?_) (λc1=>?_)))
 .refine .g O (.r r O ⟨by unfold iE;rw[ax (by simp at c1;simp[c1])];rfl,rfl⟩)
 refine .y O (pG _ _ _ _) (.I O (λc2=>?_) (λc2=>?_))
 .refine .g O (.r r O ⟨by unfold iE;rw[ax F9];rfl,rfl⟩)
 refine .I O (λc=>?_) (λc=>?_)
 .refine .g O (.r r O ⟨by unfold iE;rw[A F9,ax lA];rfl,rfl⟩)
 .refine .g O (.r r O ⟨by unfold iE;rw[A F9,A lA];rfl,rfl⟩)
def BE(f:bA)(o:Nat)(l:eI)(u m:Int)(L:LH)(w:bz L f 2 cJ l)(y:l.length<=1000000):Sp X 162 [.slice f l o,u,m] L (λv g=>v=ep l u m/\L=g):=by
 refine Sp.e (n:=33) Tryz.func162 O λC j d r=>?_;refine .I O (λc1=>?_) (λc1=>?_)
 .refine .g O ?_;exact .r r O ⟨by unfold ep cI;simp at c1;simp[c1,lv],rfl⟩
 refine .I O (λc2=>?_) (λc2=>?_)
 .refine .g O ?_;exact .r r O ⟨by unfold ep cI;simp at c1 c2;rw[A (show¬((l.length:Int)<1) by omega),ax (show u<(l.length:Int) by omega)];rfl,rfl⟩
 refine .g O ?_;have b:cI l 1 u=0:=by unfold cI;simp at c1 c2;rw[A M,A M]
 refine .l (λt E B g=>∃i:Nat,t=l - i/\i<=l/\jg m (l.drop i)=jg m l/\E=[(2,.v (.int .i64 m)),(20,.v (.slice f l o)),(21,.v (.int .i64 l.length)),(22,.v (.int .i64 i))]/\B=[]/\L=g) ⟨0,rfl,M,U,rfl,rfl,rfl⟩ ?_ ⟨rfl,rfl,rfl,rfl,aE⟩
 rintro _ _ _ _ ⟨i,rfl,q,c,rfl,rfl,rfl⟩ again;refine .I O (λe=>?_) (λe=>?_)
 .refine .g O ?_;have z:i<l:=by simpa using e
  have hd:=lj z;obtain⟨a,rfl⟩:=w.addr z;refine .u O (Vf.j O O (z)) (.G O (Vf.q O (w.whole (bX z) O)) (.y O (Pa _ _ _) (.I O (λp=>?_) (λp=>?_))))
  .refine .g O ?_;exact .r r O ⟨by unfold ep;rw[A (by simp[b]),<-c,hd,jg,ax (by simpa using p)];rfl,rfl⟩
  .refine .g O ?_;exact .a (again _ _ _ _ M ⟨i+1,rfl,M,by rw[<-c,hd,jg,A (by simpa using p)],rfl,rfl,rfl⟩) ⟨rfl,rfl,rfl,aJ some (cr M),aE⟩
 .refine .g O ?_;exact .r r O ⟨by unfold ep;rw[A (by simp[b]),<-c,nX Av];rfl,rfl⟩
def Mr(u:bA)(c:Nat)(l:aH)(L:LH)(o:bK L u l)(k:l.length<=1000000):Sp X 163 [.slice u l c] L (λv w=>v=lU l/\L=w):=by
 refine Sp.e Tryz.func163 O λC j d r=>(.I O (λc1=>?_) (λc1=>?_))
 .refine .g O (.r r O ⟨by unfold lU;simp at c1;rw[ax M];rfl,rfl⟩)
 have b:=wz
 refine .g O (.l (λt E B w=>∃i:Nat,t=l.length - i/\i<=l.length/\(l.drop i).all (λn=>cV n 1 60)=l.all (λn=>cV n 1 60)/\E=[(0,.v (.slice u l.length c)),(8,.v (.slice u l.length c)),(9,.v (.int .i64 l.length)),(10,.v (.int .i64 i))]/\B=[]/\L=w) ⟨0,rfl,M,U,rfl,rfl,rfl⟩ ?_ ⟨rfl,rfl,rfl,rfl,aE⟩)
 rintro _ _ _ _ ⟨i,rfl,h,f,rfl,rfl,rfl⟩ again;refine .I O (λe=>?_) (λe=>?_)
 .refine .g O ?_;have g:i<l:=by simpa using e
  have hd:=lj g;obtain⟨a,rfl⟩:=o.addr g;refine .u O (Vf.b O O (g)) (.G O (Vf.l O (o.int (bX g))) (.y O (pG _ _ _ _) (.I O (λm=>?_) (λm=>?_))))
  .refine .g O ?_;exact .r r O ⟨by unfold lU;rw[A M,ax (by rw[<-f,hd,Bz];simp at m;simp[m])];rfl,rfl⟩
  .refine .g O ?_;exact .a (again _ _ _ _ M ⟨i+1,rfl,M,by rw[<-f,hd,Bz];simp at m;simp[m],rfl,rfl,rfl⟩) ⟨rfl,rfl,rfl,aJ some (cr M),aE⟩
 have s:l.all (λn=>cV n 1 60)=true:=by rw[<-f,nX Av];rfl
 clear again f;obtain⟨x,y,z,rfl⟩:∃x y z,l=[x,y,z]:=by
  match l,b with
  | [x,y,z],_=>exact⟨x,y,z,rfl⟩
 obtain⟨a,rfl⟩:=o.addr (show 0<[x,y,z].length by simp);refine .g rfl (.z (.run' [0,3] rfl (.u 1 rfl (Vf.b rfl rfl ((show 0<3 by decide))) (.u 2 rfl (Vf.l rfl (o.int (show[x,y,z][0]?=x from rfl))) (.u 4 rfl (Vf.b rfl rfl ((show 1<3 by decide))) (.u 5 rfl (Vf.l rfl (o.int (show[x,y,z][1]?=y from rfl))) ?_))))));refine .run' [6,7] O (.split 25 O (λp=>?_) (λp=>?_))
 .refine .run' [8,9,10,11,12,13,14,15] O (.fin O (.g O ?_));exact .r r O ⟨by unfold lU;rw[A U,A Lh,ax (by simp at p;simp;omega)];rfl,rfl⟩
 .refine .run' [8,11] rfl (.u 9 rfl (Vf.b rfl rfl ((show 1<3 by decide))) (.u 10 rfl (Vf.l rfl (o.int (show[x,y,z][1]?=y from rfl))) (.u 12 rfl (Vf.b rfl rfl ((show 2<3 by decide))) (.u 13 rfl (Vf.l rfl (o.int (show[x,y,z][2]?=z from rfl))) (.run' [14,15] rfl (.fin rfl ?_))))));refine .I O (λq=>?_) (λq=>?_)
  .refine .g O ?_;exact .r r O ⟨by unfold lU;rw[A U,A Lh,ax (by simp at p q;simp;omega)];rfl,rfl⟩
  .refine .g O ?_;exact .r r O ⟨by unfold lU;rw[A U,A Lh,A (by simp at p q;simp;omega)];rfl,rfl⟩
def w1(h:n<=1000000):IntKind.i64.wrap ((n:Int) - 1)=(n:Int) - 1:=wrap64_in _ M M
def BC(b:Bl)(p:BP)(x:sA)(o:b.bq.length<=1000000)(L:LH):Sp X 164 [uw b p,.agg (ju x).toArray] L (λv u=>v=eU b x/\L=u):=by
 refine Sp.e Tryz.func164 O λC j d r=>(.g O ?_);rw[w1 o];refine .p O (pG _ _ _ _) (.I O (λc1=>?_) (λc1=>?_))
 .refine .g O (.r r O ⟨by unfold eU;rw[ax (by simp at c1;simp[c1])];rfl,rfl⟩)
 refine .y O (pG _ _ _ _) (.I O (λc2=>?_) (λc2=>?_))
 .refine .g O (.r r O ⟨by unfold eU;rw[ax F9];rfl,rfl⟩)
 refine .y O (pG _ _ _ _) (.I O (λc=>?_) (λc=>?_))
 .refine .g O (.r r O ⟨by unfold eU;rw[A F9,ax (by simp at c;simp[c])];rfl,rfl⟩)
 .refine .g O (.r r O ⟨by unfold eU;rw[A F9,A (by simp at c;simp[c])];rfl,rfl⟩)
end
end Go.Mz
