/- Lemmas on which the claim leans. -/
import Derived.Test.YtjhpkghkgaekcaaGreatDoorMzLa
import Derived.Test.YtjhpkghkgaekcaaGreatDoorProg
set_option maxRecDepth 100000
namespace Go.Mz
open Go.Conc Go.Proofs
abbrev acZ:TI:=(tS 88)
abbrev ac0:TI:=(tS 35)
abbrev ac1:TI:=(tA 5 120 [zS,zS,zS,zS,zS] [(0,25),(1,22),(2,22),(3,25),(4,26)])
abbrev LJ:TI:=(tA 2 32 [zI .i64,zS] [(0,3),(1,22)])
abbrev nR:TI:=(tA 5 120 [zS,zS,zS,zS,zS] [(0,45),(1,22),(2,22),(3,25),(4,46)])
abbrev ac2:TI:=(tA 4 80 [zS,zS,zI .i64,zS] [(0,49),(1,22),(2,3),(3,50)])
abbrev XP:TI:=(tA 16 368 (List.replicate 12 (zS)++[zI .i64,zS,zS,zS]) [(0,28),(5,48),(10,52),(14,33),(15,33)])
abbrev ac3:TI:=(tA 4 32 [zI .i64,zI .i64,zI .i64,zI .i64] [(0,3),(1,3),(2,3),(3,3)])
abbrev LL:TI:=(tA 2 16 [zI .i64,zI .i64] [(0,3),(1,3)])
abbrev aaC:TI:=(tP 195)
abbrev S7:TI:=(tA 4 32 [zP,.nilFunc,.nilFunc,.nilFunc] [(0,115),(1,116),(2,116),(3,116)])
abbrev aaD:TI:=(tA 14 320 (List.replicate 12 (zS)++[zI .i64,zS]) [(0,28),(5,48),(10,52)])
abbrev A2:TI:=(tA 4 32 [zI .i64,zI .i64,zI .i64,zI .i64] [(0,3),(1,3),(2,3),(3,3)])
abbrev aaE:TI:=(tA 9 72 [.nilFunc,zI .u8,zI .i64,zI .i64,zI .i64,zI .i64,zI .i64,.bool false,.bool false] [(0,141),(1,145),(8,4)])
abbrev aaF:TI:=(tA 12 96 (List.replicate 12 (zI .i64)) [(0,185),(5,186),(11,3)])
abbrev E3:TI:=(tO 8 .nilFunc)
abbrev J4:TI:=(tA 9 72 (List.replicate 9 (zI .i64)) [(0,236),(4,237),(8,3)])
def tau:TT:=(.node (.node (.node (.node (.node (.node (.node (.node tN 0 (tO 0 (.tuple #[])) tN) 1 (tO 8 .nilFunc) tN) 2 (tI .i64 8) (.node (.node tN 3 (tI .i64 8) tN) 4 tB tN)) 5 (tI .u8 1) (.node (.node (.node tN 6 (tI .u8 1) tN) 7 (tA 4 24 [zI .i64,zI .i64,.bool false,zI .u8] [(0,2),(1,3),(2,4),(3,6)]) tN) 8 (tA 4 24 [zI .i64,zI .i64,.bool false,zI .u8] [(0,2),(1,3),(2,4),(3,6)]) (.node tN 9 tT tN))) 10 tT (.node (.node (.node (.node tN 11 tT tN) 12 (tI .u64 8) tN) 14 (tA 2 24 [zT,zI .u64] [(0,9),(1,12)]) (.node (.node tN 15 (tP 430) tN) 16 (tP 433) tN)) 17 (tP 440) (.node (.node (.node tN 19 (tA 1 8 [zP] [(0,17)]) tN) 20 tF tN) 21 (tI .i32 4) (.node tN 22 (tS 3) tN)))) 23 (tP 96) (.node (.node (.node (.node (.node tN 25 acZ tN) 26 ac0 tN) 28 ac1 (.node (.node tN 33 (tS 9) tN) 35 (tA 3 24 [zI .i64,zI .i64,zI .i64] [(0,3),(1,3),(2,3)]) tN)) 38 LJ (.node (.node (.node tN 39 (tI .i64 8) tN) 45 (tS 90) tN) 46 (tS 126) (.node tN 48 nR tN))) 49 (tS 22) (.node (.node (.node (.node tN 50 (tS 68) tN) 52 ac2 tN) 56 XP (.node (.node tN 63 (tO 8 .nilFunc) tN) 68 ac3 tN)) 88 LL (.node (.node (.node tN 90 (tA 4 32 [zI .i64,zI .i64,zI .i64,zI .i64] [(0,3),(1,3),(2,88)]) tN) 94 (tI .u64 8) tN) 96 (tA 3 40 [zS,zI .i64,zI .u64] [(0,22),(1,3),(2,94)]) (.node tN 106 (tP 183) tN))))) 109 (tI .u8 1) (.node (.node (.node (.node (.node (.node tN 112 aaC tN) 115 (tP 123) tN) 116 (tO 8 .nilFunc) (.node (.node tN 118 S7 tN) 119 (tI .u8 1) tN)) 123 aaD (.node (.node (.node tN 126 A2 tN) 132 (tA 4 80 [zS,zS,zI .i64,zS] [(0,52)]) tN) 136 (tI .u8 1) (.node tN 141 (tO 8 .nilFunc) tN))) 142 ⟨true,3,24,.agg [zI .i64,zI .i64,zI .i64].toArray,.arr 3 3⟩ (.node (.node (.node (.node tN 143 ⟨true,3,24,.agg [zI .i64,zI .i64,zI .i64].toArray,.arr 3 3⟩ tN) 145 (tA 7 56 [zI .u8,zI .i64,zI .i64,zI .i64,zI .i64,zI .i64,.bool false] [(0,136),(1,143),(4,3),(5,3),(6,4)]) tN) 147 aaE (.node (.node tN 149 (tO 8 .nilFunc) tN) 151 (tS 159) tN)) 153 (tA 1 8 [zI .i64] [(0,3)]) (.node (.node (.node tN 155 (tA 1 8 [zI .i64] [(0,3)]) tN) 157 (tA 0 0 [] []) tN) 159 tF (.node tN 161 tF tN)))) 168 (tA 0 0 [] []) (.node (.node (.node (.node (.node tN 173 (tP 232) tN) 176 (tP 3) tN) 180 (tI .u64 8) (.node (.node tN 181 (tO 8 (.map none)) tN) 183 (tA 6 128 [zS,zS,zS,zS,zS,.map none] [(0,28),(5,181)]) tN)) 185 ⟨true,5,40,.agg [zI .i64,zI .i64,zI .i64,zI .i64,zI .i64].toArray,.arr 5 3⟩ (.node (.node (.node tN 186 ⟨true,6,48,.agg [zI .i64,zI .i64,zI .i64,zI .i64,zI .i64,zI .i64].toArray,.arr 3 88⟩ tN) 188 aaF tN) 195 (tA 17 392 (List.replicate 12 (zS)++[zI .i64,zS,zS,zS,zS]) [(0,56),(16,151)]) (.node tN 202 ⟨true,2,16,.agg [zI .i64,zI .i64].toArray,.arr 2 3⟩ tN))) 209 (tA 1 8 [zI .i64] [(0,3)]) (.node (.node (.node (.node tN 214 (tA 1 8 [zI .i64] [(0,39)]) tN) 216 (tP 214) tN) 218 (tS 145) (.node tN 224 (tA 0 0 [] []) tN)) 225 (tI .u32 4) (.node (.node (.node tN 227 (tA 2 8 [zI .i32,zI .u32] [(0,21),(1,225)]) tN) 229 (tA 2 8 [zI .i32,zI .u32] [(0,224),(0,227)]) tN) 230 (tO 8 (.map none)) (.node tN 232 (tA 8 136 [zS,zS,zS,zS,zS,zI .i32,zI .u32,.map none] [(0,48),(5,229),(7,230)]) tN)))))) 233 E3 (.node (.node (.node (.node (.node (.node (.node tN 234 (tO 8 (.map none)) tN) 236 ⟨true,4,32,.agg [zI .i64,zI .i64,zI .i64,zI .i64].toArray,.arr 4 3⟩ tN) 237 ⟨true,4,32,.agg [zI .i64,zI .i64,zI .i64,zI .i64].toArray,.arr 2 88⟩ (.node (.node tN 239 J4 tN) 246 (tS 39) tN)) 252 (tA 2 32 [zI .i64,zS] [(0,38)]) (.node (.node (.node tN 260 (tO 8 .nilFunc) tN) 263 (tA 10 80 (List.replicate 10 (zI .i64)) [(0,143),(3,143),(6,143),(9,3)]) tN) 266 (tO 8 zP) (.node tN 267 (tI .u64 8) tN))) 269 (tA 3 24 [zP,zP,zI .u64] [(0,17),(1,266),(2,267)]) (.node (.node (.node (.node tN 272 tF tN) 274 (tI .u8 1) tN) 278 (tO 8 (.chan none)) (.node (.node tN 279 (tA 0 0 [] []) tN) 280 (tA 0 0 [] []) tN)) 282 (tA 1 8 [zI .u64] [(0,279),(0,280),(0,94)]) (.node (.node (.node tN 284 (tA 2 16 [zI .u64,zI .u32] [(0,224),(0,282),(1,225)]) tN) 287 (tP 147) tN) 289 ⟨true,7,112,.agg [zT,zT,zT,zT,zT,zT,zT].toArray,.arr 7 9⟩ (.node tN 293 (tA 0 0 [] []) tN)))) 295 tF (.node (.node (.node (.node (.node tN 296 (tA 0 0 [] []) tN) 297 (tA 0 0 [] []) tN) 302 (tO 8 .nilFunc) (.node (.node tN 309 (tO 8 .nilFunc) tN) 310 (tO 8 .nilFunc) tN)) 313 tF (.node (.node (.node tN 316 (tP 263) tN) 318 (tA 1 8 [zP] [(0,17)]) tN) 319 (tP 454) (.node tN 323 tF tN))) 326 tF (.node (.node (.node (.node tN 328 tF tN) 329 (tS 161) tN) 331 (tP 284) (.node (.node tN 333 (tI .i64 8) tN) 337 (tP 225) tN)) 346 (tA 1 8 [zI .i64] [(0,39)]) (.node (.node (.node tN 348 (tS 236) tN) 350 (tO 8 .nilFunc) tN) 353 (tA 1 8 [zI .i64] [(0,279),(0,280),(0,2)]) (.node tN 358 (tO 8 .nilFunc) tN))))) 360 (tP 363) (.node (.node (.node (.node (.node (.node tN 361 (tS 5) tN) 363 (tA 2 32 [zP,zS] [(0,360),(1,361)]) tN) 375 (tA 2 16 [zI .i64,zI .i64] [(0,3),(1,3)]) (.node (.node tN 377 (tA 1 8 [zI .i64] [(0,3)]) tN) 379 (tA 2 16 [zI .i64,zI .i64] [(0,3),(1,3)]) tN)) 381 (tA 1 8 [zI .i64] [(0,39)]) (.node (.node (.node tN 383 (tP 282) tN) 385 (tP 94) tN) 389 (tO 8 .nilFunc) (.node tN 390 (tP 353) tN))) 392 (tP 2) (.node (.node (.node (.node tN 397 (tP 5) tN) 401 ⟨true,24,24,.agg (List.replicate 24 (zI .u8)).toArray,.arr 24 5⟩ tN) 406 ⟨true,3,48,.agg [.nilIface,.nilIface,.nilIface].toArray,.arr 3 295⟩ (.node (.node tN 407 (tP 229) tN) 410 ⟨true,256,256,.agg (List.replicate 256 (zI .u8)).toArray,.arr 256 5⟩ tN)) 412 (tA 2 2 [zI .u8,zI .u8] [(0,5),(1,5)]) (.node (.node (.node tN 413 ⟨true,32,32,.agg (List.replicate 32 (zI .u8)).toArray,.arr 16 412⟩ tN) 417 ⟨true,20,160,.agg (List.replicate 20 (zI .u64)).toArray,.arr 20 94⟩ tN) 418 ⟨true,65,65,.agg (List.replicate 65 (zI .u8)).toArray,.arr 65 5⟩ (.node tN 420 (tP 227) tN)))) 422 (tP 21) (.node (.node (.node (.node (.node tN 427 ⟨true,32,32,.agg (List.replicate 32 (zI .u8)).toArray,.arr 32 5⟩ tN) 428 ⟨true,64,64,.agg (List.replicate 64 (zI .u8)).toArray,.arr 64 5⟩ tN) 430 (tA 4 40 [zP,zP,zP,zT] [(0,17),(1,17),(2,17),(3,9)]) (.node (.node tN 431 ⟨true,0,0,.agg [].toArray,.arr 0 16⟩ tN) 433 (tA 0 0 [] [(0,431)]) tN)) 435 (tI .u8 1) (.node (.node (.node tN 436 (tO 8 .nilFunc) tN) 437 (tI .i32 4) tN) 438 (tI .i32 4) (.node tN 440 (tA 11 48 [zI .u64,zI .u64,zI .u32,zI .u8,zI .u8,zI .u8,zI .u8,.nilFunc,zP,zI .i32,zI .i32] [(0,12),(1,12),(2,225),(3,435),(4,5),(5,5),(6,274),(7,436),(8,397),(9,437),(10,438)]) tN))) 447 (tA 3 24 [zI .i64,zI .i64,.bool false] [(0,3),(1,3),(2,4)]) (.node (.node (.node (.node tN 449 (tP 447) tN) 454 (tA 2 24 [zT,zI .u8] [(0,9),(1,274)]) tN) 455 (tP 459) (.node tN 457 (tI .u16 2) tN)) 459 (tA 5 16 [zI .i32,zI .u16,zI .u16,zI .u32,zI .u32] [(0,437),(1,457),(2,457),(3,225),(4,225)]) (.node (.node (.node tN 460 (tS 463) tN) 461 (tI .i32 4) tN) 463 (tA 4 16 [zI .i32,zI .i32,zI .i32,zI .i32] [(0,437),(1,438),(2,461),(3,461)]) (.node tN 464 (tP 161) tN)))))))
theorem gY:tau.Ok Tryz.prog:=TT.VH (by kernel_rfl)
instance:Seat Tryz.prog:=⟨tau,gY⟩
theorem BT:eV Tryz.prog 3=some false:=(TT.aD (i:=(tI .i64 8)) gY rfl).agg
theorem aa2:eV Tryz.prog 9=some false:=(TT.aD (i:=tT) gY rfl).agg
theorem v9:eV Tryz.prog 21=some false:=(TT.aD (i:=(tI .i32 4)) gY rfl).agg
theorem TR:eV Tryz.prog 214=some true:=(TT.aD (i:=(tA 1 8 [zI .i64] [(0,39)])) gY rfl).agg
theorem Kr:eV Tryz.prog 216=some false:=(TT.aD (i:=(tP 214)) gY rfl).agg
theorem Dy:eV Tryz.prog 295=some false:=(TT.aD (i:=tF) gY rfl).agg
theorem xe:(Tryz.prog.info? 3).map (·.size)=some 1:=(TT.aD (i:=(tI .i64 8)) gY rfl).size
theorem aay:(Tryz.prog.info? 5).map (·.size)=some 1:=(TT.aD (i:=(tI .u8 1)) gY rfl).size
theorem AO:(Tryz.prog.info? 9).map (·.size)=some 1:=(TT.aD (i:=tT) gY rfl).size
theorem V3:(Tryz.prog.info? 88).map (·.size)=some 2:=(TT.aD (i:=LL) gY rfl).size
theorem SD:(Tryz.prog.info? 126).map (·.size)=some 4:=(TT.aD (i:=A2) gY rfl).size
theorem SE:(Tryz.prog.info? 159).map (·.size)=some 1:=(TT.aD (i:=tF) gY rfl).size
theorem Hq:(Tryz.prog.info? 214).map (·.size)=some 1:=(TT.aD (i:=(tA 1 8 [zI .i64] [(0,39)])) gY rfl).size
theorem AM:(Tryz.prog.info? 295).map (·.size)=some 1:=(TT.aD (i:=tF) gY rfl).size
theorem AN:(Tryz.prog.info? 363).map (·.size)=some 2:=(TT.aD (i:=(tA 2 32 [zP,zS] [(0,360),(1,361)])) gY rfl).size
theorem Tu:(Tryz.prog.info? 3).bind (·.zero)=some ((Go.Value.int Go.IntKind.i64 0)):=(TT.aD (i:=(tI .i64 8)) gY rfl).zero
theorem aaO:(Tryz.prog.info? 9).bind (·.zero)=some ((Go.Value.string {data:=#[]})):=(TT.aD (i:=tT) gY rfl).zero
theorem TZ:(Tryz.prog.info? 9).map (·.bytes)=some 16:=(TT.aD (i:=tT) gY rfl).bytes
end Go.Mz
namespace Go.Mz
open Go
structure X7 where
 lift:Int
 room:Int
structure aaS where
 wet:Int
 WC:Int
 qi:Int
 rh:Int
structure Dt where
 adB:Int
 day:Int
deriving DecidableEq
structure St where
 AK:List X7
 Pa:List aaS
 days:Int
 now:Int
 XN:Int
 top:Int
def bq(n lo hi:Int):Bool:=decide (lo≤n)&&decide (n≤hi)
theorem jh{n lo hi:Int}:bq n lo hi=true↔lo≤n∧n≤hi:=by unfold bq;simp
def bA(n lo hi:Int):Int:=if n<lo then 7 else if hi<n then 6 else 0
structure Ok(s:St):Prop where
 s1:1≤s.AK.length
 s3:s.AK.length≤3
 sh:∀x∈s.AK,0≤x.lift∧x.lift≤3∧1≤x.room∧x.room≤2
 c3:s.Pa.length≤3
 co:∀c∈s.Pa,(1≤c.wet∧c.wet≤20)∧(0≤c.WC∧c.WC≤9)∧(0≤c.qi∧c.qi≤9)∧(0≤c.rh∧c.rh≤9)
 d1:1≤s.days
 d4:s.days≤4
 n0:0≤s.now
 n5:s.now≤5
 t0:0≤s.top
 t5:s.top≤5
 r0:0≤s.XN
 r3:s.XN≤3
theorem Db{n lo hi:Int}:bA n lo hi=0↔lo≤n∧n≤hi:=by
 unfold bA
 split
 ·constructor
  ·intro h;cases h
  ·omega
 ·split
  ·constructor
   ·intro h;cases h
   ·omega
  ·constructor
   ·omega
   ·intro _;rfl
def grow(fit:List Dt→Bool):List (List Dt)→List Dt→List (List Dt)
 | [],b=>[b]
 | o::os,b=>o.flatMap fun a=>if fit (b++[a]) then grow fit os (b++[a]) else[]
def gL(l:List Int):Int:=l.foldl (·+·) 0
theorem Df(l:List Int)(x:Int):gL (l++[x])=gL l+x:=by unfold gL;rw[List.foldl_append];rfl
structure bV where
 lo:Int
 hi:Int
deriving DecidableEq
structure nX where
 gV:Int
 tick:Int
 r7:Int
deriving DecidableEq
structure Bl where
 gw:List bV
 ir:List Int
 marks:List Int
 lZ:List bV
 proofs:List nX
deriving DecidableEq
def eE(s:bV)(rh:Int):Int:=if !bq s.lo 0 rh||!bq s.hi 0 rh then 1 else if s.hi<s.lo then 5 else 0
def fq(rh:Int):List bV→Int
 | []=>0
 | s::l=>if eE s rh≠0 then eE s rh else fq rh l
def dq(l:List bV)(many rh:Int):Int:=if bA l.length 1 many≠0 then bA l.length 1 many else fq rh l
def lC:List Int→Bool
 | []=>true
 | r::l=>bq r 1 3&&lC l
def km(l:List Int):Int:=
 if l.length≠3 then 9 else if !(l.all fun n=>bq n 1 60) then 1 else
 if l.getD 1 0≤l.getD 0 0∨l.getD 2 0≤l.getD 1 0 then 5 else 0
def iR(b:Bl)(p:nX):Int:=
 if !bq p.gV 0 ((b.gw.length:Int) - 1)||!bq p.tick 0 b.lZ.length then 3 else if !bq p.r7 0 3 then 8 else 0
def jj(b:Bl):List nX→Int
 | []=>0
 | p::l=>if iR b p≠0 then iR b p else jj b l
def fX(b:Bl):Int:=
 if dq b.gw 3 40≠0 then dq b.gw 3 40 else
 if b.ir.length≠b.gw.length then 9 else
 if !lC b.ir then 1 else
 if km b.marks≠0 then km b.marks else
 if dq b.lZ 5 4≠0 then dq b.lZ 5 4 else
 if 8<b.proofs.length then 6 else jj b b.proofs
def dj(a b:bV):bV:=⟨max a.lo b.lo,min a.hi b.hi⟩
def bR(s:bV):Int:=max 0 (s.hi - s.lo+1)
def E2(b:Bl)(h:List Int)(gV time:Nat):Int:=b.ir.getD gV 0 *gL (h.take time)
def La(b:Bl)(t:Nat):bV:=
 let all:List Int:=[-1048576,b.marks.getD 0 0,b.marks.getD 1 0,b.marks.getD 2 0,1048576]
 ⟨all.getD t 0,all.getD (t+1) 0 - 1⟩
def HC(b:Bl)(aaB:Int):Nat:=b.marks.countP fun m=>decide (m≤aaB)
def Ux(b:Bl)(h:List Int)(ps:List nX):List bV:=
 ps.foldl (fun g p=>g.modify p.gV.toNat fun s=>dj s ⟨(La b p.r7.toNat).lo - E2 b h p.gV.toNat p.tick.toNat,(La b p.r7.toNat).hi - E2 b h p.gV.toNat p.tick.toNat⟩) b.gw
def gG(l:List Int):Int:=l.foldl (· * ·) 1
def bz(g:List bV):Int:=gG (g.map bR)
def fI(s:bV):List Int:=(List.range (s.hi - s.lo+1).toNat).map fun(n:Nat)=>s.lo+n
def KS:List bV→List (List Int)
 | []=>[[]]
 | s::l=>(fI s).flatMap fun n=>(KS l).map (n::·)
def yK(b:Bl)(ps:List nX):List (List Int×List bV):=
 ((KS b.lZ).map fun h=>(h,Ux b h ps)).filter fun x=>decide (bz x.2≠0)
def aaA(b:Bl)(gV time:Nat):Bool:=(yK b b.proofs).all fun x=>
 let s:=x.2.getD gV ⟨0,0⟩
 let n:=E2 b x.1 gV time
 HC b (s.lo+n)==2&&HC b (s.hi+n)==2
def rC(b:Bl)(gV:Nat):List Nat:=(List.range (b.lZ.length+1)).filter fun t=>aaA b gV t
def gz(b:Bl)(gV:Int):List Nat×Int:=
 if fX b≠0 then([],fX b) else
 if !bq gV 0 ((b.gw.length:Int) - 1) then([],3) else
 if yK b b.proofs=[] then([],9) else
 if rC b gV.toNat=[] then([],11) else(rC b gV.toNat,0)
def TX:Bl:=⟨[],[],[],[],[]⟩
def px(b:Bl)(p:nX):Bl×Int:=
 if fX b≠0 then(TX,fX b) else
 if b.proofs.length=8 then(TX,6) else
 if iR b p≠0 then(TX,iR b p) else
 if yK b b.proofs≠[]∧yK b (b.proofs++[p])=[] then(TX,9) else({b with proofs:=b.proofs++[p]},0)
def kM:Bl:=⟨[⟨4,6⟩,⟨8,8⟩],[1,2],[8,12,16],[⟨1,2⟩,⟨2,2⟩,⟨1,3⟩],[⟨0,2,1⟩]⟩
end Go.Mz
namespace Go.Mz
open Go.Conc
section
variable {P:Program}{X:ax P}{T:Array Value}{L:LH}{Q:Value→LH→Prop}
theorem E9{g:FuncId}{fn:Func}{args:Array Value}{e:Array Value→Sem Value}{Q:Next→LH→Prop}{H:Value→LH→Prop}(hf:P.funcs[g]?=some fn)(hn:(fn.name== "runtime.NumGoroutine")=false)(hb:fn.body.isNone=true)(hx:Extern.findNext fn=none)(he:Extern.find fn=some e)
  (h:az P (fun v L'=>Q (.value v) L') H (e args) L):az P Q H (callFunc g args) L:=by
 unfold callFunc;rw[ae,dV];simp only[hf,hn,hb,hx,he,Bool.false_eq_true,if_false,if_true];rw[ae];refine⟨.inr ⟨g,rfl⟩,?_⟩;show az P Q H (e args>>= fun v=>pure (Next.value v)) L;rw[ae];exact h
end
structure Ext(P:Program)(g:FuncId)(fn:Func)(e:Array Value→Sem Value):Prop where
 func:P.funcs[g]?=some fn
 name:(fn.name== "runtime.NumGoroutine")=false
 body:fn.body.isNone=true
 next:Extern.findNext fn=none
 find:Extern.find fn=some e
def jN(P:Program)(g:FuncId)(args:List Value)(L:LH)(Q:Value→LH→Prop):Prop:=
 ∃fn e,Ext P g fn e∧∀R,Le L R→az P (fun v R'=>∃L',Q v L'∧Post L R L' R') (fun _ _=>False) (e args.toArray) R
theorem Post.refl{L R:LH}(h:Le L R):Post L R L R:=⟨h,fun _ _ _ h=>h,fun _ h=>.inl h,fun _ h=>h⟩
theorem Post.new{L R:LH}(h:Le L R){b:Nat}(hb:R b=none)(o:Obj):Post L R (L.put b o) (R.put b o) where
 le:=fun b' x hx=>by
  by_cases e:b'=b
  ·subst e;rw[aj] at hx ⊢;exact hx
  ·rw[au _ _ e] at hx ⊢;exact h _ _ hx
 keep:=fun b' x h1 h2=>by rw[au _ _ (fun e=>by subst e;rw[hb] at h2;cases h2)];exact h2
 fresh:=fun b' bG=>by
  by_cases e:b'=b
  ·subst e;exact .inr hb
  ·rw[au _ _ e] at bG;exact .inl bG
 gP:=fun b' bG=>by
  by_cases e:b'=b
  ·subst e;rw[aj];simp
  ·rw[au _ _ e];exact bG
theorem Post.set{L R R':LH}(h:Le L R){b:Nat}{o' o:Obj}(hb:L b=some (o',true))(h1:R' b=some (o,true))(h2:∀b',b'≠b→R' b'=R b'):Post L R (L.put b o) R' where
 le:=fun b' x hx=>by
  by_cases e:b'=b
  ·subst e;rw[aj] at hx;rw[h1];exact hx
  ·rw[au _ _ e] at hx;rw[h2 _ e];exact h _ _ hx
 keep:=fun b' x g1 g2=>by rw[h2 _ (fun e=>by subst e;rw[hb] at g1;cases g1)];exact g2
 fresh:=fun b' bG=>by
  by_cases e:b'=b
  ·subst e;exact .inl (by rw[hb];simp)
  ·rw[au _ _ e] at bG;exact .inl bG
 gP:=fun b' bG=>by
  by_cases e:b'=b
  ·subst e;rw[aj];simp
  ·rw[au _ _ e];exact bG
section
variable {P:Program}{C:Cx P}{E:a8}{B:List (Option Bx)}{L:LH}{dst:Option Tmp}{ty:TypeId}{pos:String}{af:Array Edge}{gd:Option (Nat×Bool)}
theorem vU{β:Nm}{R:LH}{g:FuncId}{args:List Value}{Q:Value→LH→Prop}(hH:aF C.L0 C.R0 β B L R)(h:Sp C.X g args L Q∨jN P g args L Q):
  az P (fun nx L'=>match nx with
   | .value v=>∃sv B' g9,mO B Q sv B' g9∧den β sv=some v∧aF C.L0 C.R0 β B' g9 L'∧∀kk,β kk=none→B'[kk]?=B[kk]?
   | .skip=>∃sv B' g9,mO B Q sv B' g9∧den β sv=some undef∧aF C.L0 C.R0 β B' g9 L'∧∀kk,β kk=none→B'[kk]?=B[kk]?
   | .enter g args=>∃Q':Value→LH→Prop,Fn C.X g args L' Q'∧∀v L1,Q' v L1→∃sv B' g9,mO B Q sv B' g9∧den β sv=some v∧aF C.L0 C.R0 β B' g9 L1∧∀kk,β kk=none→B'[kk]?=B[kk]?
   | .round l g tmps jP body=>∃Q':Value→LH→Prop,Mb C.X (Frame.round l g tmps jP body .normal) L' Q'∧∀v L1,Q' v L1→∃sv B' g9,mO B Q sv B' g9∧den β sv=some v∧aF C.L0 C.R0 β B' g9 L1∧∀kk,β kk=none→B'[kk]?=B[kk]?
   | _=>False) (fun _ _=>False) (callFunc g args.toArray) R:=by
 have fin:∀v R',(∃L',Q v L'∧Post L R L' R')→∃sv B' L',mO B Q sv B' L'∧den β sv=some v∧aF C.L0 C.R0 β B' L' R'∧∀kk,β kk=none→B'[kk]?=B[kk]?:=fun v R' ⟨L',hq,hp⟩=>⟨.v v,B,L',⟨v,rfl,rfl,hq⟩,rfl,hH.call hp,fun _ _=>rfl⟩;rcases h with⟨⟨fn,h1,h2,h3⟩,hf⟩ | ⟨fn,e,h1,h2⟩
 ·rw[lD h1 h2 h3];exact⟨_,(hf R hH.le).mono (Q':=fun v R'=>∃L',Q v L'∧Post L R L' R') (H':=fun _ _=>False) (fun _ _ h=>h) (fun ch R' ⟨L',h,_⟩=>h),fin⟩
 ·refine E9 h1.func h1.name h1.body h1.next h1.find (gH (fun v R' hv=>fin v R' hv) (fun _ _ h=>h) _ _ (h2 R hH.le))
theorem Ef.ext{g:FuncId}{xs:Array Operand}{ts:Array TypeId}{args:List Value}{Q:Value→LH→Prop}(ha:oH E xs.toList=some args)(hs:jN P g args L Q):Ef C ⟨dst,.call {callee:=.value (.func g),args:=xs,argTypes:=ts},ty,pos,af,gd⟩ E B L (mO B Q):=by
 intro T R β hE hH;have hx:xs.map (ev T)=args.toArray:=by rw[←j8 hE ha,←List.map_toArray]
 refine⟨rfl,?_⟩;simp only[execOp,resolve,ev,Deferred.ofValue,hx];rw[ae,ar];simp only[invoke,Array.empty_append,Array.append_empty];exact vU hH (.inr hs)
theorem Ef.inv{x:Operand}{sv:SV}{name:String}{t:TypeId}{v rv:Value}{g:FuncId}{xs:Array Operand}{ts:Array TypeId}{args:List Value}{Q:Value→LH→Prop}(hx:aL E x=some sv)(hd:den dr sv=some (.iface t v))(ha:oH E xs.toList=some args)
  (hm:∀(Q:FuncId×Value→LH→Prop) (H:Value→LH→Prop) (R:LH),az P Q H (method (P.types.size+Made.depth) t v name) R=Q (g,rv) R)(hs:Sp C.X g (rv::args) L Q∨jN P g (rv::args) L Q):
  Ef C ⟨dst,.call {callee:=.invoke x name,args:=xs,argTypes:=ts},ty,pos,af,gd⟩ E B L (mO B Q):=by
 intro T R β hE hH;have ex:ev T x=.iface t v:=Option.some.inj ((hE.val hx).symm.trans (cP hd β));have hxs:xs.map (ev T)=args.toArray:=by rw[←j8 hE ha,←List.map_toArray]
 refine⟨rfl,?_⟩;simp only[execOp,resolve,hxs,ex];rw[ae,ar];simp only[invoke];have e0:(#[Value.iface t v]++args.toArray)[0]?=some (.iface t v):=by simp
 simp only[e0];have e1:(#[Value.iface t v]++args.toArray).extract 1 (#[Value.iface t v]++args.toArray).size=args.toArray:=by simp
 rw[e1];unfold callMethod;simp only;rw[ae,dV,ae,hm];have e2:#[rv]++args.toArray=(rv::args).toArray:=by simp
 simp only[e2];exact vU hH hs
end
section
variable {P:Program}{g:FuncId}{fn:Func}{e:Array Value→Sem Value}{args:List Value}{L:LH}{v:Value}
theorem jN.pure(h:Ext P g fn e)(hw:∀(Q:Value→LH→Prop) (H:Value→LH→Prop) (R:LH),az P Q H (e args.toArray) R=Q v R):jN P g args L (fun u L'=>u=v∧L=L'):=
 ⟨fn,e,h,fun R hR=>by rw[hw];exact⟨L,⟨rfl,rfl⟩,Post.refl hR⟩⟩
theorem jN.read(h:Ext P g fn e)(hw:∀(Q:Value→LH→Prop) (H:Value→LH→Prop) (R:LH),Le L R→az P Q H (e args.toArray) R=Q v R):jN P g args L (fun u L'=>u=v∧L=L'):=
 ⟨fn,e,h,fun R hR=>by rw[hw _ _ _ hR];exact⟨L,⟨rfl,rfl⟩,Post.refl hR⟩⟩
theorem jN.alloc{mk:Nat→Value}{o:Obj}(h:Ext P g fn e)(hw:∀(Q:Value→LH→Prop) (H:Value→LH→Prop) (R:LH),az P Q H (e args.toArray) R=∀b,R b=none→Q (mk b) (R.put b o)):jN P g args L (fun u L'=>∃b,L b=none∧u=mk b∧L'=L.put b o):=
 ⟨fn,e,h,fun R hR=>by rw[hw];exact fun b hb=>⟨_,⟨b,aP hR hb,rfl,rfl⟩,Post.new hR hb o⟩⟩
end
end Go.Mz
