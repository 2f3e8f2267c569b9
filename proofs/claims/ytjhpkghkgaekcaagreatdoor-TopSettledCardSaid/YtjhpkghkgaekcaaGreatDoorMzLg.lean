/- Lemmas on which the claim leans. -/
import Derived.Test.YtjhpkghkgaekcaaGreatDoorMzLf
import Derived.Conc.WgGenN3
set_option maxRecDepth 100000
namespace Go.Mz
open Go.Conc Go.ConcN Go.Proofs
open Go.ConcR (KK wgBlock WgAt stA smA rd wr mk)
abbrev lnk:Go.Conc.Lib.WgLink:={add:=151,done:=153,wait:=155,relMerge:=189,disable:=190,enable:=191,inBubble:=192,associate:=193,fatal:=194,uOr:=195,uAdd:=196,raceRead:=197,uLoad:=198,uStore:=199,disassociate:=200,semrelease:=201,acquire:=202,isAssociated:=203,uCas:=204,raceWrite:=205,semacquire:=206,orU64:=227,addU64:=228,loadU64:=229,storeU64:=230,casU64:=231,tWgP:=331,tUP:=266,tAssoc:=333,tWg:=284,tAU:=282,tU64:=94,tUint:=180,tU32:=225,tPU32:=337,tPAU:=383,tPU64:=385,tNoCopy:=224,tANoCopy:=279,tAlign64:=280}
theorem To:Go.Conc.Lib.WgLib Tryz.prog lnk:=
 ⟨Tryz.func151,Tryz.func153,Tryz.func155,Tryz.func189,Tryz.func190,Tryz.func191,Tryz.func192,Tryz.func193,Tryz.func194,Tryz.func195,Tryz.func196,Tryz.func197,Tryz.func198,Tryz.func199,Tryz.func200,Tryz.func201,Tryz.func202,Tryz.func203,Tryz.func204,Tryz.func205,Tryz.func206,Tryz.func227,Tryz.func228,Tryz.func229,Tryz.func230,Tryz.func231,Tryz.underlying331,Tryz.runUnderlying331,Tryz.sizeOf331,Tryz.isAgg331,Tryz.zeroValue331,Tryz.underlying266,Tryz.runUnderlying266,Tryz.sizeOf266,Tryz.isAgg266,Tryz.zeroValue266,Tryz.underlying333,Tryz.runUnderlying333,Tryz.sizeOf333,Tryz.isAgg333,Tryz.zeroValue333,Tryz.underlying284,Tryz.runUnderlying284,Tryz.sizeOf284,Tryz.isAgg284,Tryz.zeroValue284,Tryz.underlying282,Tryz.runUnderlying282,Tryz.sizeOf282,Tryz.isAgg282,Tryz.zeroValue282,Tryz.underlying94,Tryz.runUnderlying94,Tryz.sizeOf94,Tryz.isAgg94,Tryz.zeroValue94,Tryz.underlying180,Tryz.runUnderlying180,Tryz.sizeOf180,Tryz.isAgg180,Tryz.zeroValue180,Tryz.underlying225,Tryz.runUnderlying225,Tryz.sizeOf225,Tryz.isAgg225,Tryz.zeroValue225,Tryz.underlying337,Tryz.runUnderlying337,Tryz.sizeOf337,Tryz.isAgg337,Tryz.zeroValue337,Tryz.underlying383,Tryz.runUnderlying383,Tryz.sizeOf383,Tryz.isAgg383,Tryz.zeroValue383,Tryz.underlying385,Tryz.runUnderlying385,Tryz.sizeOf385,Tryz.isAgg385,Tryz.zeroValue385,Tryz.underlying0,Tryz.runUnderlying0,Tryz.sizeOf0,Tryz.isAgg0,Tryz.zeroValue0,Tryz.underlying3,Tryz.runUnderlying3,Tryz.sizeOf3,Tryz.isAgg3,Tryz.zeroValue3,Tryz.underlying4,Tryz.runUnderlying4,Tryz.sizeOf4,Tryz.isAgg4,Tryz.zeroValue4,Tryz.underlying9,Tryz.runUnderlying9,Tryz.sizeOf9,Tryz.isAgg9,Tryz.zeroValue9,Tryz.underlying20,Tryz.runUnderlying20,Tryz.sizeOf20,Tryz.isAgg20,Tryz.zeroValue20,Tryz.underlying21,Tryz.runUnderlying21,Tryz.sizeOf21,Tryz.isAgg21,Tryz.zeroValue21,(by kernel_rfl),(by kernel_rfl)⟩
open Extern in
def adh:Array Value→Sem Value:=fun _=>do mark .disable;pure Race.none_
open Extern in
def adi:Array Value→Sem Value:=fun _=>do mark .enable;pure Race.none_
open Extern in
def adk:Array Value→Sem Value:=Race.marked .read
open Extern in
def adl:Array Value→Sem Value:=Race.marked .acquire
open Extern in
def adm:Array Value→Sem Value:=Race.marked .write
open Extern in
def ado:Array Value→Sem Value:=Atomic.update (Op.intArith .add) .u64 true
open Extern in
def adp:Array Value→Sem Value:=Atomic.loadT (.int .u64)
open Extern in
def adq:Array Value→Sem Value:=Atomic.casT (.int .u64)
open Extern in
def adn:Array Value→Sem Value:=Sync.semacquire
def adj:Array Value→Sem Value:=fun _=>pure (.bool false)
theorem Uo:Ext Tryz.prog 192 Tryz.f192 adj:=⟨Tryz.func192,by kernel_rfl,rfl,by kernel_rfl,by kernel_rfl⟩
theorem ez:Ext Tryz.prog 190 Tryz.f190 adh:=⟨Tryz.func190,by kernel_rfl,rfl,by kernel_rfl,by kernel_rfl⟩
theorem bP:Ext Tryz.prog 191 Tryz.f191 adi:=⟨Tryz.func191,by kernel_rfl,rfl,by kernel_rfl,by kernel_rfl⟩
theorem uN:Ext Tryz.prog 197 Tryz.f197 adk:=⟨Tryz.func197,by kernel_rfl,rfl,by kernel_rfl,by kernel_rfl⟩
theorem eA:Ext Tryz.prog 202 Tryz.f202 adl:=⟨Tryz.func202,by kernel_rfl,rfl,by kernel_rfl,by kernel_rfl⟩
theorem uO:Ext Tryz.prog 205 Tryz.f205 adm:=⟨Tryz.func205,by kernel_rfl,rfl,by kernel_rfl,by kernel_rfl⟩
theorem uP:Ext Tryz.prog 228 Tryz.f228 ado:=⟨Tryz.func228,by kernel_rfl,rfl,by kernel_rfl,by kernel_rfl⟩
theorem gR:Ext Tryz.prog 229 Tryz.f229 adp:=⟨Tryz.func229,by kernel_rfl,rfl,by kernel_rfl,by kernel_rfl⟩
theorem lu:Ext Tryz.prog 231 Tryz.f231 adq:=⟨Tryz.func231,by kernel_rfl,rfl,by kernel_rfl,by kernel_rfl⟩
theorem lr:Ext Tryz.prog 206 Tryz.f206 adn:=⟨Tryz.func206,by kernel_rfl,rfl,by kernel_rfl,by kernel_rfl⟩
abbrev iB(a:Addr):Value:=.pointer (some a)
structure Oq(Φ:World→Prop)(W:Nat)(S1 S2 S3 S4 S5:Goroutine→LH→Prop):Prop where
 h1:∀g g' L,g.status=.running→(∀w,stepG Tryz.prog true g w=.go g' w #[mk .disable])→Way Tryz.prog true Φ S2 g' L→S1 g L
 h2:∀g L,g.status=.running→(∀v:Nat,v<2147483647→∃g',(∀w,WgAt 284 W w ((v:Int) *KK) 0→stepG Tryz.prog true g w=.go g' (w.setCell (stA W) (.int .u64 (((v:Int)+1) *KK))) #[rd (stA W),wr (stA W)])∧
  (Way Tryz.prog true Φ S3 g' L∨Way Tryz.prog true Φ S4 g' L))→S2 g L
 h3:∀g g' L,g.status=.running→(∀w,stepG Tryz.prog true g w=.go g' w #[mk (.read (smA W))])→Way Tryz.prog true Φ S4 g' L→S3 g L
 h4:∀g g' L,g.status=.running→(∀w,stepG Tryz.prog true g w=.go g' w #[mk .enable])→Way Tryz.prog true Φ S5 g' L→S4 g L
theorem Vm(v:Nat)(hv:v<2147483647):IntKind.u64.wrap ((v:Int) *KK+4294967296)=((v:Int)+1) *KK:=by
 rw[IntKind.wrap_u64];simp only[KK];omega
variable {Φ:World→Prop}{W0:Nat}{S1 S2 S3 S4 S5:Goroutine→LH→Prop}
theorem S9(H:Oq Φ W0 S1 S2 S3 S4 S5)(L:LH):jO (gy Tryz.prog true Φ S2) 196 [iB (stA W0),.int .u64 4294967296] L
  (fun Y v L'=>∃m:Nat,m<2147483647∧v=.int .u64 (((m:Int)+1) *KK)∧L'=L∧(m=0→Y=gy Tryz.prog true Φ S3)∧(m≠0→Y=gy Tryz.prog true Φ S4)):=by
 refine jO.enter (n:=10) Tryz.func196 rfl rfl rfl rfl fun C hX _ aG r=>?_;have aM:C.kd≠.early:=by rcases r.kd with e | e <;> rw[e] <;> decide
 refine W.go 99 rfl ?_;refine W.atom hX r.ro rfl rfl rfl rfl fun T R g fin cN gI bO hg dh cx cont=>?_;refine H.h2 _ _ cx fun v hv=>⟨fin (.int .u64 (((v:Int)+1) *KK)),fun w hw=>?_,?_⟩
 ·rw[hg,dh];exact(stepG_add_atomic bO gI aM rfl uP.func uP.name uP.body uP.next .u64 uP.find (cN _ _ _ rfl rfl) (cN _ _ _ rfl rfl) hw.cellSt (hw.thaw 0)).trans (by rw[Vm v hv];rfl)
 ·by_cases e:v=0
  ·refine .inl (cont (gy Tryz.prog true Φ S3) _ ?_);refine W.go 99 rfl ?_;exact W.iy (r.to _) (.inr ⟨_,rfl⟩) rfl rfl ⟨v,hv,rfl,rfl,fun _=>rfl,fun h=>absurd e h⟩
  ·refine .inr (cont (gy Tryz.prog true Φ S4) _ ?_);refine W.go 99 rfl ?_;exact W.iy (r.to _) (.inr ⟨_,rfl⟩) rfl rfl ⟨v,hv,rfl,rfl,fun h=>absurd h e,fun _=>rfl⟩
theorem TP(l7:∀w,Φ w→WgLive 284 W0 w)(H:Oq Φ W0 S1 S2 S3 S4 S5)(L:LH):jO (gy Tryz.prog true Φ S1) 151 [iB (stA W0),.int .i64 1] L
  (fun Y v L'=>Y=gy Tryz.prog true Φ S5∧v=.tuple #[]∧L'=L):=by
 refine jO.enter (n:=117) Tryz.func151 rfl rfl rfl rfl fun C hX _ aG r=>?_;have aM:C.kd≠.early:=by rcases r.kd with e | e <;> rw[e] <;> decide
 refine W.go 99 rfl ?_;refine W.split rfl rfl rfl (fun c=>absurd c (by decide)) (fun c=>?_);refine W.go 99 rfl ?_;refine W.re .disable (by simp) ez.func ez.name ez.body ez.next ez.find hX r.ro aM H.h1 rfl rfl rfl ?_;refine W.go 99 rfl ?_;refine W.DX r.ro rfl rfl rfl ?_;refine W.go 99 rfl ?_;refine W.aB rfl rfl rfl (Ef.ext rfl (jN.pure Uo fun _ _ _=>rfl)) ?_;rintro _ _ _ ⟨_,rfl,rfl,rfl,rfl⟩;refine W.go 99 rfl ?_;refine W.split rfl rfl rfl (fun c=>absurd c (by decide)) (fun c=>?_);refine W.go 99 rfl ?_;refine W.kN (args:=[iB (stA W0),.int .u64 4294967296]) rfl rfl rfl rfl (S9 H L) ?_;rintro Y v _ ⟨m,hm,rfl,rfl,hY1,hY2⟩;obtain⟨V,hV⟩:∃V:Int,V=(m:Int)+1:=⟨_,rfl⟩;obtain⟨S,hS⟩:∃S:Int,S=V *KK:=⟨_,rfl⟩;rw[←hV,←hS];have a1:S.fdiv (2 ^ min 32 IntKind.u64.bits)=V:=by
  have e:((2:Int) ^ min 32 IntKind.u64.bits)=4294967296:=by decide
  rw[e,Int.fdiv_eq_ediv_of_nonneg _ (by decide),hS];simp only[KK];omega
 have b1:IntKind.u64.wrap ((BitVec.ofInt IntKind.u64.bits S&&& BitVec.ofInt IntKind.u64.bits 2147483648).toNat:Int)=0:=by
  have:bits .and .u64 S 2147483648=0:=by rw[hS,hV];have:=Go.ConcN.st_flag (m+1) 0 (by omega) (by omega);simpa [KK] using this
  exact this
 have b2:IntKind.u64.wrap ((BitVec.ofInt IntKind.u64.bits S&&& BitVec.ofInt IntKind.u64.bits 2147483647).toNat:Int)=0:=by
  have:bits .and .u64 S 2147483647=0:=by rw[hS,hV];have:=Go.ConcN.st_waiters (m+1) 0 (by omega) (by omega);simpa [KK] using this
  exact this
 have c1:IntKind.i32.wrap V=V:=by rw[IntKind.wrap_i32];omega
 refine W.go 99 rfl ?_;rw[b1];refine W.split rfl rfl rfl (fun c=>absurd c (by decide)) (fun c=>?_);refine W.go 99 rfl ?_;rw[b2,a1];refine W.split rfl rfl rfl (fun c=>?_) (fun c=>absurd c (by decide));refine W.go 99 rfl ?_;rw[c1];refine W.split rfl rfl rfl (fun e=>?_) (fun e=>?_)
 ·have e0:m=0:=by simp at e;rw[show IntKind.i32.wrap 1=1 by decide] at e;omega
  have hY:=hY1 e0;subst hY;refine W.go 99 rfl ?_;refine W.tj rfl r.ro aM Tryz.underlying337 Tryz.underlying266 (by kernel_rfl) (fun w hw=>let⟨_,_,hw⟩:=l7 w hw;⟨_,hw.cellSm⟩) rfl rfl rfl rfl ?_;refine W.Jf (ad:=smA W0) .read (by simp) uN.func uN.name uN.body uN.next uN.find rfl r.ro aM H.h3 rfl rfl rfl rfl ?_;refine W.go 99 rfl ?_;refine W.split rfl rfl rfl (fun e=>absurd e (by simp;omega)) (fun e=>?_);refine W.go 99 rfl ?_;refine W.split rfl rfl rfl (fun c=>absurd c (by decide)) (fun c=>?_);refine W.go 99 rfl ?_;refine W.split rfl rfl rfl (fun e=>?_) (fun e=>absurd e (by simp;omega));refine W.go 99 rfl ?_;refine W.out r.ro (.inr .ret) ?_;refine WM.re .enable (by simp) bP.func bP.name bP.body bP.next bP.find rfl r.ro H.h4 ?_;exact WM.iy (r.to _) rfl rfl ⟨rfl,rfl,rfl⟩
 ·have e0:m≠0:=fun e0=>by subst e0;rw[hV] at e;revert e;decide
  have hY:=hY2 e0;subst hY;refine W.go 99 rfl ?_;refine W.split rfl rfl rfl (fun e=>absurd e (by simp;omega)) (fun e=>?_);refine W.go 99 rfl ?_;refine W.split rfl rfl rfl (fun c=>absurd c (by decide)) (fun c=>?_);refine W.go 99 rfl ?_;refine W.split rfl rfl rfl (fun e=>?_) (fun e=>absurd e (by simp;omega));refine W.go 99 rfl ?_;refine W.out r.ro (.inr .ret) ?_;refine WM.re .enable (by simp) bP.func bP.name bP.body bP.next bP.find rfl r.ro H.h4 ?_;exact WM.iy (r.to _) rfl rfl ⟨rfl,rfl,rfl⟩
end Go.Mz
set_option maxRecDepth 100000
namespace Go.Mz
open Go.Conc Go.ConcN Go.Proofs
open Go.ConcR (KK wgBlock WgAt stA smA rd wr mk)
structure sY(mn:Bool)(Φ:World→Prop)(W:Nat)(Sd Sl:Goroutine→LH→Prop)(Sc:Nat→Goroutine→LH→Prop)(Ss Sm S4 Se Sa:Goroutine→LH→Prop)(Yx:ax Tryz.prog)(An:Goroutine→LH→Prop):Prop where
 h1:∀g g' L,g.status=.running→(∀w,stepG Tryz.prog mn g w=.go g' w #[mk .disable])→Way Tryz.prog mn Φ Sl g' L→Sd g L
 h2:∀g L,g.status=.running→(∃g',(∀w,WgAt 284 W w 0 0→stepG Tryz.prog mn g w=.go g' w #[rd (stA W)])∧Way Tryz.prog mn Φ Se g' L)→
  (∀v:Nat,0<v→v<2147483648→∃g',(∀w,WgAt 284 W w ((v:Int) *KK) 0→stepG Tryz.prog mn g w=.go g' w #[rd (stA W)])∧Way Tryz.prog mn Φ (Sc v) g' L)→Sl g L
 h3:∀(vs:Nat) g L,g.status=.running→(∃g',(∀w,WgAt 284 W w ((vs:Int) *KK) 0→stepG Tryz.prog mn g w=.go g' (w.setCell (stA W) (.int .u64 ((vs:Int) *KK+1))) #[rd (stA W),wr (stA W)])∧Way Tryz.prog mn Φ Ss g' L)→
  (∃g',(∀w (v:Nat),v≠vs→v<2147483648→WgAt 284 W w ((v:Int) *KK) 0→stepG Tryz.prog mn g w=.go g' w #[rd (stA W)])∧Way Tryz.prog mn Φ An g' L)→Sc vs g L
 h4:∀g g' L,g.status=.running→(∀w,stepG Tryz.prog mn g w=.go g' w #[mk (.write (smA W))])→Way Tryz.prog mn Φ Sm g' L→Ss g L
 h5:∀g L,g.status=.running→g.offers=none→(∀w st,WgAt 284 W w st 0→stepG Tryz.prog mn g w=.go {g with status:=.blocked} w #[])→
  (∃g',(∀w,WgAt 284 W w 0 1→stepG Tryz.prog mn g w=.go g' (w.setCell (smA W) (.int .u32 0)) (semEvents (smA W)))∧Way Tryz.prog mn Φ S4 g' L)→Sm g L
 h6:∀g L,g.status=.running→(∃g',(∀w,WgAt 284 W w 0 0→stepG Tryz.prog mn g w=.go g' w #[rd (stA W)])∧Way Tryz.prog mn Φ Se g' L)→S4 g L
 h7:∀g g' L,g.status=.running→(∀w,stepG Tryz.prog mn g w=.go g' w #[mk .enable])→Way Tryz.prog mn Φ Sa g' L→Se g L
 h8:∀g g' L,g.status=.running→(∀w,stepG Tryz.prog mn g w=.go g' w #[mk (.acquire (stA W))])→Yx.Go g' L→Sa g L
variable {mn:Bool}{Φ:World→Prop}{W0:Nat}{Sd Sl:Goroutine→LH→Prop}{Sc:Nat→Goroutine→LH→Prop}{Ss Sm S4 Se Sa:Goroutine→LH→Prop}{Yx:ax Tryz.prog}{An:Goroutine→LH→Prop}
abbrev LW(mn:Bool)(Φ:World→Prop)(S:Goroutine→LH→Prop):ax Tryz.prog:=gy Tryz.prog mn Φ S
theorem Oa(H:sY mn Φ W0 Sd Sl Sc Ss Sm S4 Se Sa Yx An)(L:LH):jO (LW mn Φ Sl) 198 [iB (stA W0)] L
  (fun Y v L'=>L'=L∧((v=.int .u64 0∧Y=LW mn Φ Se)∨∃m:Nat,0<m∧m<2147483648∧v=.int .u64 ((m:Int) *KK)∧Y=LW mn Φ (Sc m))):=by
 refine jO.enter (n:=7) Tryz.func198 rfl rfl rfl rfl fun C hX _ aG r=>?_;have aM:C.kd≠.early:=by rcases r.kd with e | e <;> rw[e] <;> decide
 refine W.go 99 rfl ?_;refine W.atom hX r.ro rfl rfl rfl rfl fun T R g fin cN gI bO hg dh cx cont=>?_;refine H.h2 _ _ cx ⟨fin (.int .u64 0),fun w hw=>?_,?_⟩ fun v Rk hv=>⟨fin (.int .u64 ((v:Int) *KK)),fun w hw=>?_,?_⟩
 ·rw[hg,dh];exact stepG_load_atomic bO gI aM rfl gR.func gR.name gR.body gR.next .u64 gR.find (cN _ _ _ rfl rfl) hw.cellSt
 ·refine cont (LW mn Φ Se) _ ?_;refine W.go 99 rfl ?_;exact W.iy (r.to _) (.inr ⟨_,rfl⟩) rfl rfl ⟨rfl,.inl ⟨rfl,rfl⟩⟩
 ·rw[hg,dh];exact stepG_load_atomic bO gI aM rfl gR.func gR.name gR.body gR.next .u64 gR.find (cN _ _ _ rfl rfl) hw.cellSt
 ·refine cont (LW mn Φ (Sc v)) _ ?_;refine W.go 99 rfl ?_;exact W.iy (r.to _) (.inr ⟨_,rfl⟩) rfl rfl ⟨rfl,.inr ⟨v,Rk,hv,rfl,rfl⟩⟩
theorem J8(H:sY mn Φ W0 Sd Sl Sc Ss Sm S4 Se Sa Yx An)(L:LH):jO (LW mn Φ S4) 198 [iB (stA W0)] L
  (fun Y v L'=>L'=L∧v=.int .u64 0∧Y=LW mn Φ Se):=by
 refine jO.enter (n:=7) Tryz.func198 rfl rfl rfl rfl fun C hX _ aG r=>?_;have aM:C.kd≠.early:=by rcases r.kd with e | e <;> rw[e] <;> decide
 refine W.go 99 rfl ?_;refine W.atom hX r.ro rfl rfl rfl rfl fun T R g fin cN gI bO hg dh cx cont=>?_;refine H.h6 _ _ cx ⟨fin (.int .u64 0),fun w hw=>?_,?_⟩
 ·rw[hg,dh];exact stepG_load_atomic bO gI aM rfl gR.func gR.name gR.body gR.next .u64 gR.find (cN _ _ _ rfl rfl) hw.cellSt
 ·refine cont (LW mn Φ Se) _ ?_;refine W.go 99 rfl ?_;exact W.iy (r.to _) (.inr ⟨_,rfl⟩) rfl rfl ⟨rfl,rfl,rfl⟩
theorem Ta(H:sY mn Φ W0 Sd Sl Sc Ss Sm S4 Se Sa Yx An)(m:Nat)(Zy:0<m)(hm:m<2147483648)(L:LH):jO (LW mn Φ (Sc m)) 204 [iB (stA W0),.int .u64 ((m:Int) *KK),.int .u64 ((m:Int) *KK+1)] L
  (fun Y v L'=>L'=L∧((v=.bool true∧Y=LW mn Φ Ss)∨(v=.bool false∧Y=LW mn Φ An))):=by
 refine jO.enter (n:=13) Tryz.func204 rfl rfl rfl rfl fun C hX _ aG r=>?_;have aM:C.kd≠.early:=by rcases r.kd with e | e <;> rw[e] <;> decide
 refine W.go 99 rfl ?_;refine W.atom hX r.ro rfl rfl rfl rfl fun T R g fin cN gI bO hg dh cx cont=>?_;refine H.h3 m _ _ cx ⟨fin (.bool true),fun w hw=>?_,?_⟩ ⟨fin (.bool false),fun w v aY hv hw=>?_,?_⟩
 ·rw[hg,dh];exact stepG_cas_hit bO gI aM rfl lu.func lu.name lu.body lu.next .u64 lu.find (cN _ _ _ rfl rfl) (cN _ _ _ rfl rfl) (cN _ _ _ rfl rfl) hw.cellSt (hw.thaw 0)
 ·refine cont (LW mn Φ Ss) _ ?_;refine W.go 99 rfl ?_;exact W.iy (r.to _) (.inr ⟨_,rfl⟩) rfl rfl ⟨rfl,.inl ⟨rfl,rfl⟩⟩
 ·rw[hg,dh];exact stepG_cas_miss bO gI aM rfl lu.func lu.name lu.body lu.next .u64 lu.find (cN _ _ _ rfl rfl) (cN _ _ _ rfl rfl) (cN _ _ _ rfl rfl) hw.cellSt (hw.thaw 0) (by simp only[KK];omega)
 ·refine cont (LW mn Φ An) _ ?_;refine W.go 99 rfl ?_;exact W.iy (r.to _) (.inr ⟨_,rfl⟩) rfl rfl ⟨rfl,.inr ⟨rfl,rfl⟩⟩
noncomputable def wtC:Code:=match Tryz.f155.body with | some (.seq _ (.block _ (.loop c)))=>c | _=>.skip
noncomputable def wtK:List Item:=[.inLoop wtC,.inBlock 0]
def LS(mn:Bool)(Φ:World→Prop)(W0:Nat)(Yx:ax Tryz.prog)(g:Goroutine)(R:LH):Prop:=
 ∃(T:Array Value) (kd:CallKind) (c:Frame) (cs:List Frame),T.size=84∧T.getD 0 undef=iB (stA W0)∧(kd=.normal∨kd=.wrapped)∧g=G (Fr 155 T wtK [] .run kd none) (c::cs)∧∀R',Le R R'→Yx.Go (G (c.finish (.tuple #[])) cs) R'
abbrev H8(mn:Bool)(Φ:World→Prop)(Yx:ax Tryz.prog)(L:LH):ax Tryz.prog→Value→LH→Prop:=fun Y v L'=>Y=Yx∧v=.tuple #[]∧L'=L
theorem x7(l7:∀w,Φ w→WgLive 284 W0 w)(H:sY mn Φ W0 Sd Sl Sc Ss Sm S4 Se Sa Yx (LS mn Φ W0 Yx)){C:Cx Tryz.prog}{L:LH}(hX:C.X=LW mn Φ Sl)(hf:C.f=155)(hL:C.L0=L)(r:sW C Tryz.f155 (H8 mn Φ Yx L)):W C 84 [] (.code wtC::wtK) [(0,.v (iB (stA W0)))] [] L:=by
 have aM:C.kd≠.early:=by rcases r.kd with e | e <;> rw[e] <;> decide
 refine W.go 99 rfl ?_;refine W.kN rfl rfl rfl rfl (by rw[hX];exact Oa H L) ?_;rintro Y v L' ⟨rfl,⟨rfl,rfl⟩ | ⟨m,Zy,hm,rfl,rfl⟩⟩
 ·refine W.go 99 rfl ?_;refine W.split rfl rfl rfl (fun c=>?_) (fun c=>absurd c (by decide));refine W.go 99 rfl ?_;refine W.re .enable (by simp) bP.func bP.name bP.body bP.next bP.find rfl r.ro aM H.h7 rfl rfl rfl ?_;refine W.go 99 rfl ?_;refine W.tj rfl r.ro aM Tryz.underlying331 Tryz.underlying266 (by kernel_rfl) (fun w hw=>let⟨_,_,hw⟩:=l7 w hw;⟨_,hw.cellSt⟩) rfl rfl rfl rfl ?_;refine W.K9 .acquire (by simp) eA.func eA.name eA.body eA.next eA.find rfl r.ro aM H.h8 rfl rfl rfl rfl ?_;refine W.go 99 rfl ?_;refine W.split rfl rfl rfl (fun c=>?_) (fun c=>absurd c (by decide));refine W.go 99 rfl ?_;refine W.split rfl rfl rfl (fun c=>absurd c (by decide)) (fun c=>?_);refine W.go 99 rfl ?_;exact W.iy (r.to _) (.inr ⟨_,rfl⟩) rfl rfl ⟨rfl,rfl,rfl⟩
 ·have e32:((2:Int) ^ min 32 IntKind.u64.bits)=4294967296:=by decide
  have a1:((m:Int) *KK).fdiv (2 ^ min 32 IntKind.u64.bits)=m:=by
   rw[e32,Int.fdiv_eq_ediv_of_nonneg _ (by decide)];simp only[KK];omega
  have c1:IntKind.i32.wrap (m:Int)=m:=by rw[IntKind.wrap_i32];omega
  have b1:IntKind.u64.wrap ((BitVec.ofInt IntKind.u64.bits ((m:Int) *KK)&&& BitVec.ofInt IntKind.u64.bits 2147483648).toNat:Int)=0:=by
   have:bits .and .u64 ((m:Int) *KK) 2147483648=0:=by have:=Go.ConcN.st_flag m 0 (by omega) (by omega);simpa [KK] using this
   exact this
  have b2:IntKind.u64.wrap ((BitVec.ofInt IntKind.u64.bits ((m:Int) *KK)&&& BitVec.ofInt IntKind.u64.bits 2147483647).toNat:Int)=0:=by
   have:bits .and .u64 ((m:Int) *KK) 2147483647=0:=by have:=Go.ConcN.st_waiters m 0 (by omega) (by omega);simpa [KK] using this
   exact this
  have w1:IntKind.u64.wrap ((m:Int) *KK+1)=(m:Int) *KK+1:=by rw[IntKind.wrap_u64];simp only[KK];omega
  refine W.go 99 rfl ?_;rw[a1,c1,b2];refine W.split rfl rfl rfl (fun e=>absurd e (by simp;omega)) (fun e=>?_);refine W.go 99 rfl ?_;rw[w1];refine W.kN rfl rfl rfl rfl (Ta H m Zy hm L') ?_;rintro Y v _ ⟨rfl,⟨rfl,rfl⟩ | ⟨rfl,rfl⟩⟩
  ·refine W.go 99 rfl ?_;refine W.split rfl rfl rfl (fun c=>?_) (fun c=>absurd c (by decide));refine W.go 99 rfl ?_;refine W.split rfl rfl rfl (fun c=>?_) (fun c=>absurd c (by decide));refine W.go 99 rfl ?_;refine W.tj rfl r.ro aM Tryz.underlying337 Tryz.underlying266 (by kernel_rfl) (fun w hw=>let⟨_,_,hw⟩:=l7 w hw;⟨_,hw.cellSm⟩) rfl rfl rfl rfl ?_;refine W.Jf (ad:=smA W0) .write (by simp) uO.func uO.name uO.body uO.next uO.find rfl r.ro aM H.h4 rfl rfl rfl rfl ?_;refine W.go 99 rfl ?_;rw[b1];refine W.split rfl rfl rfl (fun c=>absurd c (by decide)) (fun c=>?_);refine W.go 99 rfl ?_;refine W.atom rfl r.ro rfl rfl rfl rfl fun T R g fin cN gI bO hg dh cx cont=>?_;refine H.h5 _ _ cx (by rw[hg];rfl) (fun w st hw=>?_) ⟨fin (.tuple #[]),fun w hw=>?_,?_⟩
   ·rw[hg];exact stepG_semacquire_wait (ad:=smA W0) bO gI rfl lr.func lr.name lr.body lr.next lr.find (by have YD:=cN (.tmp 70) _ _ rfl rfl;simp[YD];rfl) hw.cellSm
   ·rw[hg,dh];exact stepG_semacquire (ad:=smA W0) (n:=1) bO gI aM rfl lr.func lr.name lr.body lr.next lr.find (by have YD:=cN (.tmp 70) _ _ rfl rfl;simp[YD];rfl) hw.cellSm (by decide) (hw.thaw 1)
   ·refine cont (LW mn Φ S4) _ ?_;refine W.go 99 rfl ?_;refine W.kN rfl rfl rfl rfl (J8 H _) ?_;rintro Y v _ ⟨rfl,rfl,rfl⟩;refine W.go 99 rfl ?_;refine W.re .enable (by simp) bP.func bP.name bP.body bP.next bP.find rfl r.ro aM H.h7 rfl rfl rfl ?_;refine W.go 99 rfl ?_;refine W.tj rfl r.ro aM Tryz.underlying331 Tryz.underlying266 (by kernel_rfl) (fun w hw=>let⟨_,_,hw⟩:=l7 w hw;⟨_,hw.cellSt⟩) rfl rfl rfl rfl ?_;refine W.K9 .acquire (by simp) eA.func eA.name eA.body eA.next eA.find rfl r.ro aM H.h8 rfl rfl rfl rfl ?_;refine W.go 99 rfl ?_;refine W.split rfl rfl rfl (fun c=>absurd c (by decide)) (fun c=>?_);refine W.go 99 rfl ?_;exact W.iy (r.to _) (.inr ⟨_,rfl⟩) rfl rfl ⟨rfl,rfl,rfl⟩
  ·refine W.go 99 rfl ?_;refine W.split rfl rfl rfl (fun c=>absurd c (by decide)) (fun c=>?_);refine W.go 99 rfl ?_;refine W.stop rfl fun T R β hT hE hH=>?_;obtain⟨_,bE,hk,c,cs,il,h1⟩:=r;refine⟨T,C.kd,c,cs,hT,?_,hk,?_,fun R' hR=>h1 Yx _ R' _ ⟨rfl,rfl,rfl⟩ ⟨hH.post.le.trans hR,fun b x g1 g2=>hR _ _ (hH.post.keep b x g1 g2),hH.post.fresh,hH.post.gP⟩⟩
   ·exact(Option.some.inj (hE 0 _ rfl)).symm
   ·show G (Fr C.f T _ [] .run C.kd C.ro) C.cs=_;rw[hf,bE,il]
theorem OW(l7:∀w,Φ w→WgLive 284 W0 w)(H:sY mn Φ W0 Sd Sl Sc Ss Sm S4 Se Sa Yx (LS mn Φ W0 Yx)):∀g L,LS mn Φ W0 Yx g L→Way Tryz.prog mn Φ Sl g L:=by
 rintro _ R ⟨T,kd,c,cs,hT,h0,hk,rfl,hw⟩;have r:sW (⟨LW mn Φ Sl,155,kd,none,c::cs,R,R⟩:Cx Tryz.prog) Tryz.f155 (H8 mn Φ Yx R):=⟨Tryz.func155,rfl,hk,c,cs,rfl,by
  rintro Y v R' L' ⟨rfl,rfl,rfl⟩ hp;exact hw R' hp.le⟩
 have key:=x7 l7 H (C:=⟨LW mn Φ Sl,155,kd,none,c::cs,R,R⟩) (L:=R) rfl rfl rfl r T R dr hT (fun s x hx=>by
  rw[bD] at hx
  split at hx
  ·rename_i e;subst e;cases hx;exact congrArg some h0.symm
  ·cases hx) ⟨(fun _ _ _ h=>by cases h),(fun _ _ h=>by cases h),(fun _ _ h=>by cases h),(fun k b x hk=>by cases hk),Le.refl _,(fun b x h1 h2=>absurd (h1.symm.trans h2) (by simp)),fun b hb=>.inl hb,fun b hb=>hb⟩
 exact(LW mn Φ Sl).inLoop key
theorem Tk(l7:∀w,Φ w→WgLive 284 W0 w)(H:sY mn Φ W0 Sd Sl Sc Ss Sm S4 Se Sa Yx (LS mn Φ W0 Yx))(L:LH):jO (LW mn Φ Sd) 155 [iB (stA W0)] L (H8 mn Φ Yx L):=by
 refine jO.enter (n:=84) Tryz.func155 rfl rfl rfl rfl fun C hX hf aG r=>?_;have aM:C.kd≠.early:=by rcases r.kd with e | e <;> rw[e] <;> decide
 refine W.go 99 rfl ?_;refine W.re .disable (by simp) ez.func ez.name ez.body ez.next ez.find hX r.ro aM H.h1 rfl rfl rfl ?_;refine W.go 99 rfl ?_;intro T R β hT hE hH;have key:=x7 l7 H (C:=C.to (LW mn Φ Sl)) (L:=L) rfl hf aG (r.to _);have lH:aH dr (get [(0,SV.v (iB (stA W0)))]) T:=fun s x hx=>by
  rw[bD] at hx
  split at hx
  ·rename_i e;subst e;cases hx;exact hE 0 _ rfl
  ·cases hx
 exact(LW mn Φ Sl).loop (key T R β hT (lH.mono (EC β)) hH)
end Go.Mz
set_option maxRecDepth 100000
namespace Go.Mz
open Go.Conc Go.ConcN Go.Proofs
open Go.ConcR (KK wgBlock WgAt stA smA rd wr)
structure RZ where
 W:Nat
 X:Nat
 N:Nat
 B:Nat
 v0:Value
 v1:Value
 v2:Value
 v3:Value
 v4:Value
 n:Nat
 base:Nat
 len:Nat
 ob:List Nat→Obj
 keep:Nat→Bool
noncomputable abbrev RZ.b (z:RZ):aQ:={P:=Tryz.prog,ty:=284,W:=z.W,X:=z.X,xo:=fun st sm=>.cells ([z.v0,z.v1,z.v2,z.v3,z.v4]++Value.int .i32 st::Value.int .u32 sm::[Value.map (some z.B)]).toArray 232 (0,0),ma:=⟨z.X,5,none⟩,ms:=⟨z.X,6,none⟩,N:=z.N,B:=z.B,v0:=z.v0,n:=z.n,base:=z.base,len:=z.len,ob:=z.ob,keep:=z.keep}
theorem RZ.xo(z:RZ):kH z.b [z.v0,z.v1,z.v2,z.v3,z.v4] [.map (some z.B)] 232:=⟨rfl,rfl,rfl⟩
noncomputable abbrev LZ (z:RZ)(f:Nat)(s:Ws):ax Tryz.prog:=gy Tryz.prog false (z.b.Φ 353) (nW z.b 353 f s)
theorem EH{z:RZ}{w:World}(h:z.b.Φ 353 w):(∃v,w.cell? ⟨z.X,5,none⟩=some (.int .i32 v))∧∃v,w.cell? ⟨z.X,6,none⟩=some (.int .u32 v):=by
 obtain⟨_,⟨st,sm,hx⟩,_⟩:=h;exact⟨⟨st,by rw[eP (a:=⟨z.X,5,none⟩) hx];rfl⟩,⟨sm,by rw[eP (a:=⟨z.X,6,none⟩) hx];rfl⟩⟩
open Extern in
def ads:Array Value→Sem Value:=Atomic.casT (.int .i32)
open Extern in
def adt:Array Value→Sem Value:=Atomic.update (Op.intArith .add) .i32 true
open Extern in
def adr:Array Value→Sem Value:=Atomic.update (Op.intArith .add) .i64 true
theorem dB:Ext Tryz.prog 268 Tryz.f268 ads:=⟨Tryz.func268,by kernel_rfl,rfl,by kernel_rfl,by kernel_rfl⟩
theorem eB:Ext Tryz.prog 270 Tryz.f270 adt:=⟨Tryz.func270,by kernel_rfl,rfl,by kernel_rfl,by kernel_rfl⟩
theorem uQ:Ext Tryz.prog 233 Tryz.f233 adr:=⟨Tryz.func233,by kernel_rfl,rfl,by kernel_rfl,by kernel_rfl⟩
theorem lv:Ext Tryz.prog 274 Tryz.f274 Extern.Sync.canSpin:=⟨Tryz.func274,by kernel_rfl,rfl,by kernel_rfl,by kernel_rfl⟩
theorem Up:Ext Tryz.prog 275 Tryz.f275 Extern.Sync.nothing:=⟨Tryz.func275,by kernel_rfl,rfl,by kernel_rfl,by kernel_rfl⟩
theorem lx:Ext Tryz.prog 277 Tryz.f277 Extern.OsHooks.nano:=⟨Tryz.func277,by kernel_rfl,rfl,by kernel_rfl,by kernel_rfl⟩
theorem uR:Ext Tryz.prog 278 Tryz.f278 Extern.Sync.semacquire:=⟨Tryz.func278,by kernel_rfl,rfl,by kernel_rfl,by kernel_rfl⟩
theorem ly:Ext Tryz.prog 280 Tryz.f280 Extern.Sync.semrelease:=⟨Tryz.func280,by kernel_rfl,rfl,by kernel_rfl,by kernel_rfl⟩
open Extern in
def adg:Array Value→Sem Value:=Race.marked .releaseMerge
theorem uM:Ext Tryz.prog 189 Tryz.f189 adg:=⟨Tryz.func189,by kernel_rfl,rfl,by kernel_rfl,by kernel_rfl⟩
theorem acF{x:Int}(h1:-100≤x)(h2:x≤1000):IntKind.i32.wrap x=x:=by rw[IntKind.wrap_i32];omega
noncomputable def usC:Code:=match Tryz.f271.body with | some (.seq _ (.seq _ (.cond _ (.seq _ (.block _ (.loop c))) _)))=>c | _=>.skip
theorem B9(o:Mu.Wd)(hc:o.c≤6):IntKind.i32.wrap ((BitVec.ofInt IntKind.i32.bits (Mu.enc o)&&& BitVec.ofInt IntKind.i32.bits 1).toNat:Int)=Mu.bi o.l:=Mu.aa4 o.l o.w o.s ⟨o.c,by omega⟩
theorem Ca(o:Mu.Wd)(hc:o.c≤6):IntKind.i32.wrap ((BitVec.ofInt IntKind.i32.bits (Mu.enc o)&&& BitVec.ofInt IntKind.i32.bits 2).toNat:Int)=2 *Mu.bi o.w:=Mu.aa5 o.l o.w o.s ⟨o.c,by omega⟩
theorem MK(o:Mu.Wd)(hc:o.c≤6):IntKind.i32.wrap ((BitVec.ofInt IntKind.i32.bits (Mu.enc o)&&& BitVec.ofInt IntKind.i32.bits 3).toNat:Int)=Mu.bi o.l+2 *Mu.bi o.w:=Mu.aa6 o.l o.w o.s ⟨o.c,by omega⟩
theorem rM(o:Mu.Wd)(hc:o.c≤6):IntKind.i32.wrap ((BitVec.ofInt IntKind.i32.bits (Mu.enc o)&&& BitVec.ofInt IntKind.i32.bits 4).toNat:Int)=4 *Mu.bi o.s:=Mu.aa7 o.l o.w o.s ⟨o.c,by omega⟩
theorem rN(o:Mu.Wd)(hc:o.c≤6):IntKind.i32.wrap ((BitVec.ofInt IntKind.i32.bits (Mu.enc o)&&& BitVec.ofInt IntKind.i32.bits 5).toNat:Int)=Mu.bi o.l+4 *Mu.bi o.s:=Mu.aa8 o.l o.w o.s ⟨o.c,by omega⟩
theorem MM(o:Mu.Wd)(hc:o.c≤6):IntKind.i32.wrap ((BitVec.ofInt IntKind.i32.bits (Mu.enc o)&&& BitVec.ofInt IntKind.i32.bits 7).toNat:Int)=Mu.bi o.l+2 *Mu.bi o.w+4 *Mu.bi o.s:=Mu.aa9 o.l o.w o.s ⟨o.c,by omega⟩
theorem Pr(o:Mu.Wd)(hc:o.c≤6):IntKind.i32.wrap ((BitVec.ofInt IntKind.i32.bits (Mu.enc o)||| BitVec.ofInt IntKind.i32.bits 1).toNat:Int)=Mu.enc {o with l:=true}:=Mu.or1 o.l o.w o.s ⟨o.c,by omega⟩
theorem FM(o:Mu.Wd)(hc:o.c≤6):IntKind.i32.wrap ((BitVec.ofInt IntKind.i32.bits (Mu.enc o)||| BitVec.ofInt IntKind.i32.bits 2).toNat:Int)=Mu.enc {o with w:=true}:=Mu.or2 o.l o.w o.s ⟨o.c,by omega⟩
theorem qN(o:Mu.Wd):(Mu.enc o).fdiv (2 ^ min 3 IntKind.i32.bits)=(o.c:Int):=by
 have e:((2:Int) ^ min 3 IntKind.i32.bits)=8:=by decide
 have:=Mu.DZ o;rw[e,Int.fdiv_eq_ediv_of_nonneg _ (by decide)];omega
theorem oK(o:Mu.Wd)(hc:o.c≤7):IntKind.i32.wrap (Mu.enc o)=Mu.enc o:=acF (by have:=Mu.DZ o;omega) (by have:=Mu.DZ o;omega)
theorem Td{o:Mu.Wd}{l:Nat}(h:o.c=0∨o.l=true∨o.w=true∨o.s=true):Mu.j0 {pc:=.u0,left:=l,old:=o}={pc:=.out,left:=l}:=by unfold Mu.j0;rw[if_pos h]
theorem Wi{o:Mu.Wd}{l:Nat}(h:¬(o.c=0∨o.l=true∨o.w=true∨o.s=true)):Mu.j0 {pc:=.u0,left:=l,old:=o}={pc:=.uc,left:=l,old:=o}:=by unfold Mu.j0;rw[if_neg h]
theorem Ob{z:RZ}{J:Option Nat}{C:Cx Tryz.prog}{L:LH}{l F:Nat}(hf:C.f=271)(r:sW C Tryz.f271 (fun Y v L'=>∃f',f'≤F∧Y=LZ z f' ⟨.fin,{pc:=.out,left:=l},J⟩∧v=.tuple #[]∧L'=L)):∀(f:Nat) (o:Mu.Wd),f≤F→o.c≤6→
  W (C.to (LZ z f ⟨vR (Mu.j0 {pc:=.u0,left:=l,old:=o}),Mu.j0 {pc:=.u0,left:=l,old:=o},J⟩)) 43 [] [.code usC,.inLoop usC,.inBlock 0] [(0,.v (iB ⟨z.X,5,none⟩)),(4,.v (.int .i32 (Mu.enc o)))] [] L:=by
 have aM:C.kd≠.early:=by rcases r.kd with e | e <;> rw[e] <;> decide
 intro f
 induction f using Nat.strongRecOn with
 | _ f ih=>
 intro o Eg hc;refine W.go 99 rfl ?_;rw[qN];have out:(o.c=0∨o.l=true∨o.w=true∨o.s=true)→∀{E:Env} {k:List Item},W (C.to (LZ z f ⟨vR (Mu.j0 {pc:=.u0,left:=l,old:=o}),Mu.j0 {pc:=.u0,left:=l,old:=o},J⟩)) 43 [] (.code .ret::k) E [] L:=by
  intro h E k;rw[Td h];exact W.iy (r.to _) (.inr ⟨_,rfl⟩) rfl rfl ⟨f,Eg,rfl,rfl,rfl⟩
 by_cases c0:o.c=0
 ·have e1:(((o.c:Nat):Int)==0)=true:=by simp[c0]
  rw[e1];refine W.cY 17 (p:=true) rfl rfl ?_;refine W.go 99 rfl ?_;exact out (.inl c0)
 ·have e1:(((o.c:Nat):Int)==0)=false:=by simp[c0]
  rw[e1];refine W.cY 17 (p:=false) rfl rfl ?_;refine W.go 99 rfl ?_;rw[MM o hc]
  by_cases hb:o.l=true∨o.w=true∨o.s=true
  ·have e2:(Mu.bi o.l+2 *Mu.bi o.w+4 *Mu.bi o.s !=0)=true:=by
    have:=Mu.lU o.l;have:=Mu.lU o.w;have:=Mu.lU o.s;rcases hb with e | e | e <;> rw[e] <;> simp[Mu.bi] at * <;> omega
   rw[e2];refine W.split rfl rfl rfl (fun c=>?_) (fun c=>absurd c (by decide));refine W.go 99 rfl ?_;exact out (.inr hb)
  ·have e2:(Mu.bi o.l+2 *Mu.bi o.w+4 *Mu.bi o.s !=0)=false:=by
    simp only[not_or,Bool.not_eq_true] at hb;rw[hb.1,hb.2.1,hb.2.2];rfl
   rw[e2];refine W.split rfl rfl rfl (fun c=>absurd c (by decide)) (fun c=>?_);refine W.go 99 rfl ?_;have s1:IntKind.i32.wrap (Mu.enc o - 8)=Mu.enc {o with c:=o.c - 1}:=by rw[Mu.acY c0];exact oK _ (by simp only;omega)
   rw[s1,FM _ (by simp only;omega),Wi (fun e=>e.elim c0 hb)];refine W.z8 (b:=z.b) (u:=true) (T:={pc:=.uc,left:=l,old:=o}) (J:=J) (old:=o) (nw:={o with w:=true,c:=o.c - 1}) (Ty:={pc:=.us,left:=l,h:=false}) (Tn:={pc:=.ux,left:=l,old:=o}) z.xo dB.func dB.name dB.body dB.next dB.find rfl r.ro aM rfl rfl rfl rfl rfl rfl (fun S hF e=>?_) (fun S hF e=>.ucn rfl e) (fun f' n9=>?_) (fun f' n9=>?_)
   ·subst e;exact .ucy rfl rfl
   ·refine W.go 99 rfl ?_;refine W.split rfl rfl rfl (fun c=>?_) (fun c=>absurd c (by decide));refine W.go 99 rfl ?_;refine W.Lh (b:=z.b) (T:={pc:=.us,left:=l,h:=false}) (J:=J) z.xo ly.func ly.name ly.body ly.next ly.find rfl rfl r.ro aM rfl rfl rfl rfl fun f2 jT=>?_;refine W.go 99 rfl ?_;exact W.iy (r.to _) (.inr ⟨_,rfl⟩) rfl rfl ⟨f2,by omega,rfl,rfl,rfl⟩
   ·refine W.go 99 rfl ?_;refine W.split rfl rfl rfl (fun c=>absurd c (by decide)) (fun c=>?_);refine W.go 99 rfl ?_;refine W.GR (b:=z.b) (u:=true) (T:={pc:=.ux,left:=l,old:=o}) (J:=J) z.xo (by show(Tryz.prog.funcs[C.f]?).any (·.norace)=true;rw[hf,Tryz.func271];rfl) rfl r.ro aM v9 rfl rfl rfl rfl fun S hF=>⟨_,.ux rfl,fun f2 jT=>?_⟩;refine W.go 99 rfl ?_;refine W.dJ ?_;refine W.cG (E':=[(0,.v (iB ⟨z.X,5,none⟩)),(4,.v (.int .i32 (Mu.enc S.w)))]) (B':=[]) ⟨rfl,rfl,trivial⟩ trivial ?_;exact ih f2 (by omega) S.w (by omega) hF.c6
theorem aaH(z:RZ)(J:Option Nat)(L:LH)(l f:Nat)(T:Mu.Th)(o:Mu.Wd)(hl:o.l=false)(hc:o.c≤6)(hT:(o.s=true∧T={pc:=.us,left:=l,h:=true})∨(o.s=false∧T=Mu.j0 {pc:=.u0,left:=l,old:=o})):
  jO (LZ z f ⟨vR T,T,J⟩) 271 [iB ⟨z.X,5,none⟩,.int .i32 (Mu.enc o)] L (fun Y v L'=>∃f',f'≤f∧Y=LZ z f' ⟨.fin,{pc:=.out,left:=l},J⟩∧v=.tuple #[]∧L'=L):=by
 refine jO.enter (n:=43) Tryz.func271 rfl rfl rfl rfl fun C hX hf aG r=>?_;have aM:C.kd≠.early:=by rcases r.kd with e | e <;> rw[e] <;> decide
 have s1:IntKind.i32.wrap (Mu.enc o+1)=Mu.enc {o with l:=true}:=by
  have:Mu.enc o+1=Mu.enc {o with l:=true}:=by unfold Mu.enc;rw[hl];simp[Mu.bi];omega
  rw[this];exact oK _ (by simp only;omega)
 obtain⟨X0,f0,BI,pf,Bq,Be,Bf⟩:=C;obtain rfl:X0=_:=hX;refine W.go 99 rfl ?_;rw[s1,B9 _ (by simp only;omega),show Mu.bi ({o with l:=true}:Mu.Wd).l=1 from rfl];refine W.split rfl rfl rfl (fun c=>absurd c (by decide)) (fun c=>?_);refine W.go 99 rfl ?_;rw[rM o hc];rcases hT with⟨hs,rfl⟩ | ⟨hs,rfl⟩
 ·rw[hs,show 4 *Mu.bi true=4 from rfl];refine W.split rfl rfl rfl (fun c=>absurd c (by decide)) (fun c=>?_);refine W.go 99 rfl ?_;refine W.Lh (b:=z.b) (T:={pc:=.us,left:=l,h:=true}) (J:=J) z.xo ly.func ly.name ly.body ly.next ly.find rfl rfl r.ro aM rfl rfl rfl rfl fun f2 jT=>?_;refine W.go 99 rfl ?_;exact W.iy (r.to _) (.inl rfl) rfl rfl ⟨f2,by omega,rfl,rfl,rfl⟩
 ·rw[hs,show 4 *Mu.bi false=0 from rfl];refine W.split rfl rfl rfl (fun c=>?_) (fun c=>absurd c (by decide));refine W.go 12 rfl ?_;refine W.kW ?_;refine W.cG (E':=[(0,.v (iB ⟨z.X,5,none⟩)),(4,.v (.int .i32 (Mu.enc o)))]) (B':=[]) ⟨rfl,rfl,trivial⟩ trivial ?_;exact Ob (C:=⟨LZ z f ⟨vR (Mu.j0 {pc:=.u0,left:=l,old:=o}),Mu.j0 {pc:=.u0,left:=l,old:=o},J⟩,f0,BI,pf,Bq,Be,Bf⟩) hf r f o (Nat.le_refl _) hc
theorem FK(o:Mu.Wd)(h:o.l=true)(hc:o.c≤6):IntKind.i32.wrap (Mu.enc o+-1)=Mu.enc {o with l:=false}:=by
 have:=Mu.acW h;rw[show Mu.enc o+-1=Mu.enc o - 1 by omega,this];exact oK _ (by simp only;omega)
theorem Vk(z:RZ)(J:Option Nat)(L:LH)(f:Nat)(T:Mu.Th)(hT:T.pc=.own):jO (LZ z f ⟨.put,T,J⟩) 258 [iB ⟨z.X,5,none⟩] L (fun Y v L'=>∃f',f'≤f∧Y=LZ z f' ⟨.idle,{pc:=.out,left:=T.left},J⟩∧v=.tuple #[]∧L'=L):=by
 refine jO.enter (n:=21) Tryz.func258 rfl rfl rfl rfl fun C hX hf aG r=>?_;have aM:C.kd≠.early:=by rcases r.kd with e | e <;> rw[e] <;> decide
 obtain⟨X0,f0,BI,pf,Bq,Be,Bf⟩:=C;obtain rfl:X0=_:=hX;refine W.go 99 rfl ?_;refine W.X9 rfl (by show(Tryz.prog.funcs[f0]?).any (·.norace)=true;rw[show f0=258 from hf,Tryz.func258];rfl) r.ro aM v9 (fun w hw=>(EH hw).1) rfl rfl rfl rfl fun v0=>?_;refine W.go 99 rfl ?_;refine W.tj rfl r.ro aM Tryz.underlying420 Tryz.underlying266 (by kernel_rfl) (fun w hw=>let⟨v,hv⟩:=(EH hw).1;⟨_,hv⟩) rfl rfl rfl rfl ?_;refine W.mkA (b:=z.b) (ad:=⟨z.X,5,none⟩) (s:=⟨.put,T,J⟩) (s2:=⟨.EJ,{T with pc:=.u0},J⟩) .releaseMerge (by simp) uM.func uM.name uM.body uM.next uM.find rfl r.ro aM (fun f' g0 g' L' _ h1 h2 h3=>⟨h1,g',h2,h3⟩) rfl rfl rfl rfl fun f1 qn=>?_;refine W.go 99 rfl ?_;refine W.ND (b:=z.b) (T:=T) (s:=⟨.EJ,{T with pc:=.u0},J⟩) (s2:=⟨.ul,{T with pc:=.u0},J⟩) .disable (by simp) ez.func ez.name ez.body ez.next ez.find rfl r.ro aM (fun f' g0 g' L' _ h1 h2 h3=>⟨h1,g',h2,h3⟩) rfl rfl rfl fun f2 jT=>?_;refine W.go 99 rfl ?_;refine W.EA (b:=z.b) (u:=true) (T:={T with pc:=.u0}) (J:=J) (dl:=-1) z.xo eB.func eB.name eB.body eB.next eB.find rfl r.ro aM rfl rfl rfl rfl rfl fun S hF=>?_;have hl:=hF.held (.inr rfl);have hc:=hF.c6
 by_cases h0:({S.w with l:=false}:Mu.Wd)=Mu.Wd.zero
 ·refine⟨_,_,.u0z rfl h0,FK _ hl hc,fun f3 Ee=>?_⟩;refine W.go 99 rfl ?_;rw[show Mu.enc {S.w with l:=false}=0 from Mu.Pq.2 h0];refine W.split rfl rfl rfl (fun c=>absurd c (by decide)) (fun c=>?_);refine W.go 99 rfl ?_;refine W.ND (b:=z.b) (T:=T) (s:=⟨.fin,{pc:=.out,left:=T.left},J⟩) (s2:=⟨.idle,{pc:=.out,left:=T.left},J⟩) .enable (by simp) bP.func bP.name bP.body bP.next bP.find rfl r.ro aM (fun f' g0 g' L' _ h1 h2 h3=>⟨h1,g',h2,h3⟩) rfl rfl rfl fun f4 By=>?_;refine W.go 99 rfl ?_;exact W.iy (r.to _) (.inl rfl) rfl rfl ⟨f4,by omega,rfl,rfl,rfl⟩
 ·have aY:(Mu.enc {S.w with l:=false} !=0)=true:=by
   have:Mu.enc {S.w with l:=false}≠0:=fun e=>h0 (Mu.Pq.1 e)
   simpa using this
  have key:∀(T':Mu.Th) (f3:Nat),((({S.w with l:=false}:Mu.Wd).s=true∧T'={pc:=.us,left:=T.left,h:=true})∨(({S.w with l:=false}:Mu.Wd).s=false∧T'=Mu.j0 {pc:=.u0,left:=T.left,old:={S.w with l:=false}}))→
    jO (LZ z f3 ⟨vR T',T',J⟩) 271 [iB ⟨z.X,5,none⟩,.int .i32 (Mu.enc {S.w with l:=false})] L (fun Y v L'=>∃f',f'≤f3∧Y=LZ z f' ⟨.fin,{pc:=.out,left:=T.left},J⟩∧v=.tuple #[]∧L'=L):=fun T' f3 hh=>aaH z J L T.left f3 T' _ rfl hc hh
  have step:∃T',Mu.Step {T with pc:=.u0} S T' {S with w:={S.w with l:=false}}∧((({S.w with l:=false}:Mu.Wd).s=true∧T'={pc:=.us,left:=T.left,h:=true})∨(({S.w with l:=false}:Mu.Wd).s=false∧T'=Mu.j0 {pc:=.u0,left:=T.left,old:={S.w with l:=false}})):=by
   cases hs:S.w.s with
   | true=>exact⟨_,.u0s rfl hs,.inl ⟨rfl,rfl⟩⟩
   | false=>exact⟨_,.u0n rfl hs,.inr ⟨rfl,rfl⟩⟩
  obtain⟨T',cu,yi⟩:=step;refine⟨T',_,cu,FK _ hl hc,fun f3 Ee=>?_⟩;refine W.go 99 rfl ?_;rw[aY];refine W.split rfl rfl rfl (fun c=>?_) (fun c=>absurd c (by decide));refine W.go 99 rfl ?_;refine W.kN (args:=[iB ⟨z.X,5,none⟩,.int .i32 (Mu.enc {S.w with l:=false})]) rfl rfl rfl rfl (key T' f3 yi) ?_;rintro Y v _ ⟨f4,By,rfl,rfl,rfl⟩;refine W.go 99 rfl ?_;refine W.ND (b:=z.b) (T:=T) (s:=⟨.fin,{pc:=.out,left:=T.left},J⟩) (s2:=⟨.idle,{pc:=.out,left:=T.left},J⟩) .enable (by simp) bP.func bP.name bP.body bP.next bP.find rfl r.ro aM (fun f' g0 g' L' _ h1 h2 h3=>⟨h1,g',h2,h3⟩) rfl rfl rfl fun f5 hf5=>?_;refine W.go 99 rfl ?_;exact W.iy (r.to _) (.inl rfl) rfl rfl ⟨f5,by omega,rfl,rfl,rfl⟩
end Go.Mz
set_option maxRecDepth 100000
namespace Go.Mz
open Go.Conc Go.ConcN Go.Proofs
open Go.ConcR (KK wgBlock WgAt stA smA rd wr)
namespace Mu
theorem Fits.next{T T':Th}{S S':Sh}(h:Fits T S)(hs:Step T S T' S'):Good T':=by
 obtain⟨l,hi,hT,_⟩:=h;obtain⟨k,hk⟩:=List.mem_iff_getElem?.1 hT;have:=r5 hi hk hs;exact this.xF T' (List.mem_of_getElem? (by rw[List.getElem?_set_self (List.getElem?_eq_some_iff.1 hk).1]))
end Mu
section
variable {P:Program}{E:a8}{B:List (Option Bx)}{L:LH}{t t2:TypeId}{x y:Operand}
theorem Vf.OX{kk:IntKind}{a b c:Int}(hx:aL E x=some (.v (.int kk a)))(hy:aL E y=some (.v (.int kk b)))(h:kk.wrap (BitVec.ofInt kk.bits a&&& ~~~ BitVec.ofInt kk.bits b).toNat=c):Vf P (.binOp .andNot t x y t2) E B L (.v (.int kk c)):=fun T R β hE _ _=>by
 have ex:=(Option.some.inj (hE.val hx)).symm;have ey:=(Option.some.inj (hE.val hy)).symm;refine⟨_,rfl,fun ty dst pos af gd Q H hq=>?_⟩;simp only[execOp,ex,ey,ae,eqGuard,binOp,ne_eq,not_true_eq_false,if_false,Op.intBits];rw[h];exact hq
end
noncomputable def Vv:Code:=match Tryz.f269.body with | some (.seq _ (.seq _ (.seq _ (.seq _ (.seq _ (.seq (.block _ (.loop c)) _))))))=>c | _=>.skip
noncomputable def lsT:Code:=match Tryz.f269.body with | some (.seq _ (.seq _ (.seq _ (.seq _ (.seq _ (.seq (.block _ (.loop _)) t))))))=>t | _=>.skip
noncomputable def GN:Code:=match Vv with | .block _ (.seq _ c)=>c | _=>.skip
noncomputable def lsP:Code:=match Vv with | .block _ (.seq (.seq _ (.cond _ (.seq _ c) _)) _)=>c | _=>.skip
noncomputable def lsS:Code:=match GN with | .seq _ (.seq _ (.seq _ (.seq _ (.seq _ c))))=>c | _=>.skip
noncomputable def lsX:Code:=match GN with | .seq _ (.seq _ c)=>c | _=>.skip
noncomputable def lsA:Code:=match GN with | .seq _ (.seq _ (.seq _ c))=>c | _=>.skip
noncomputable def lsB:Code:=match lsA with | .seq _ c=>c | _=>.skip
noncomputable def lsQ:Code:=match lsS with | .seq _ (.cond _ (.seq _ c) _)=>c | _=>.skip
noncomputable def lsU:Code:=match lsQ with | .seq _ (.seq _ c)=>c | _=>.skip
noncomputable def lsV:Code:=match lsU with | .seq _ (.seq _ c)=>c | _=>.skip
noncomputable def vu:List Item:=[.inLoop Vv,.inBlock 0,.code lsT]
noncomputable abbrev tX (z:RZ)(T:Mu.Th)(eG:Int):Env:=[(0,.v (iB ⟨z.X,5,none⟩)),(2,.v (.int .i64 eG)),(3,.v (.bool T.sv)),(4,.v (.bool T.aw)),(5,.v (.int .i64 T.it)),(6,.v (.int .i32 (Mu.enc T.old)))]
abbrev Dn(z:RZ)(J:Option Nat)(L:LH)(l F:Nat):ax Tryz.prog→Value→LH→Prop:=fun Y v L'=>∃f' K,f'≤F∧Y=LZ z f' ⟨.hold K,{pc:=.own,left:=l},J⟩∧(∀i,J=some i→i∉K)∧v=.tuple #[]∧L'=L
section
variable {z:RZ}{J:Option Nat}{C:Cx Tryz.prog}{L:LH}{l F:Nat}
theorem yM(r:sW C Tryz.f269 (Dn z J L l F))(f:Nat)(Eg:f≤F){E:Env}(hE:get E 0=some (.v (iB ⟨z.X,5,none⟩))):W (C.to (LZ z f ⟨.got,{pc:=.own,left:=l},J⟩)) 139 [] [.code lsT] E [] L:=by
 have aM:C.kd≠.early:=by rcases r.kd with e | e <;> rw[e] <;> decide
 refine W.cG (E':=[(0,.v (iB ⟨z.X,5,none⟩))]) (B':=[]) ⟨hE,trivial⟩ trivial ?_;refine W.go 99 rfl ?_;refine W.ND (b:=z.b) (T:={pc:=.own,left:=l}) (s:=⟨.got,{pc:=.own,left:=l},J⟩) (s2:=⟨.uX,{pc:=.own,left:=l},J⟩) .enable (by simp) bP.func bP.name bP.body bP.next bP.find rfl r.ro aM (fun f' g0 g' L' _ h1 h2 h3=>⟨h1,g',h2,h3⟩) rfl rfl rfl fun f1 qn=>?_;refine W.go 99 rfl ?_;refine W.tj rfl r.ro aM Tryz.underlying420 Tryz.underlying266 (by kernel_rfl) (fun w hw=>let⟨v,hv⟩:=(EH hw).1;⟨_,hv⟩) rfl rfl rfl rfl ?_;refine W.RV (b:=z.b) eA.func eA.name eA.body eA.next eA.find rfl r.ro aM rfl rfl rfl rfl fun f2 K jT hK=>?_;refine W.go 99 rfl ?_;exact W.iy (r.to _) (.inl rfl) rfl rfl ⟨f2,K,by omega,rfl,hK,rfl,rfl⟩
def nB(z:RZ)(J:Option Nat)(C:Cx Tryz.prog)(L:LH)(l f:Nat):Prop:=
 ∀(T:Mu.Th) (eG:Int),T.left=l→T.old.c≤6→T.ws=decide (eG≠0)→Mu.Good (Mu.hd T)→W (C.to (LZ z f ⟨xL (Mu.hd T),Mu.hd T,J⟩)) 139 [] (.code Vv::vu) (tX z T eG) [] L
theorem Il(o:Mu.Wd)(hc:o.c≤7):IntKind.i32.wrap ((BitVec.ofInt IntKind.i32.bits (Mu.enc o)&&& BitVec.ofInt IntKind.i32.bits 2).toNat:Int)=2 *Mu.bi o.w:=(show ∀(l w s:Bool) (c:Fin 8),bits .and .i32 (Mu.enc ⟨l,w,s,c⟩) 2=2 *Mu.bi w by decide+kernel) o.l o.w o.s ⟨o.c,by omega⟩
theorem MH(o:Mu.Wd)(hc:o.c≤7):IntKind.i32.wrap ((BitVec.ofInt IntKind.i32.bits (Mu.enc o)||| BitVec.ofInt IntKind.i32.bits 4).toNat:Int)=Mu.enc {o with s:=true}:=(show ∀(l w s:Bool) (c:Fin 8),bits .or .i32 (Mu.enc ⟨l,w,s,c⟩) 4=Mu.enc ⟨l,w,true,c⟩ by decide+kernel) o.l o.w o.s ⟨o.c,by omega⟩
theorem Im(o:Mu.Wd)(hc:o.c≤7):bits .andNot .i32 (Mu.enc o) 2=Mu.enc {o with w:=false}:=(show ∀(l w s:Bool) (c:Fin 8),bits .andNot .i32 (Mu.enc ⟨l,w,s,c⟩) 2=Mu.enc ⟨l,false,s,c⟩ by decide+kernel) o.l o.w o.s ⟨o.c,by omega⟩
theorem MJ(o:Mu.Wd)(hc:o.c≤6):IntKind.i32.wrap (Mu.enc o+8)=Mu.enc {o with c:=o.c+1}:=by rw[Mu.aa1];exact oK _ (by simp only;omega)
theorem OP{T:Mu.Th}{S:Mu.Sh}{R:Prop}(hF:Mu.Fits T S)(hp:T.pc=.a1)(h:T.sv=false∨T.old.c=1)(k:∀nw,Mu.Step T S {pc:=.own,left:=T.left} {S with w:=nw}→IntKind.i32.wrap (Mu.enc S.w+-11)=Mu.enc nw→R):R:=by
 obtain⟨e1,e2,e3,e4⟩:=hF.handed (by unfold Mu.dC;rw[hp];exact Nat.one_pos);refine k _ (.a1 hp) ?_;have hb:(S.w.s&&!(!T.sv||T.old.c==1))=false:=by
  rcases h with e | e <;> simp[e]
 rw[hb];have:=Mu.aaz e1 e2 (by omega);rw[show Mu.enc S.w+-11=Mu.enc S.w - 11 by omega,this];have:=hF.c6;exact oK _ (by simp only;omega)
theorem aa0{T:Mu.Th}{S:Mu.Sh}{R:Prop}(hF:Mu.Fits T S)(hp:T.pc=.a1)(h:T.sv=true)(hc:T.old.c≠1)(k:∀nw,Mu.Step T S {pc:=.own,left:=T.left} {S with w:=nw}→IntKind.i32.wrap (Mu.enc S.w+-7)=Mu.enc nw→R):R:=by
 obtain⟨e1,e2,e3,e4⟩:=hF.handed (by unfold Mu.dC;rw[hp];exact Nat.one_pos);refine k _ (.a1 hp) ?_;have hb:(S.w.s&&!(!T.sv||T.old.c==1))=S.w.s:=by
  simp[h,hc]
 rw[hb];have:=Mu.acX e1 (by omega);rw[show Mu.enc S.w+-7=Mu.enc S.w - 7 by omega,this];have:=hF.c6;exact oK _ (by simp only;omega)
theorem acG(hf:C.f=269)(r:sW C Tryz.f269 (Dn z J L l F))(f:Nat)(Eg:f≤F)(ih:∀m,m<f→nB z J C L l m)(T:Mu.Th)(eG:Int)(hp:T.pc=if T.ws then .s1 else .t1)(F5:T.aw=false)(hl:T.left=l)(hc:T.old.c≤6)(gU:T.ws=decide (eG≠0)){E:Env}(hE:gk E [(0,.v (iB ⟨z.X,5,none⟩)),(2,.v (.int .i64 eG)),(3,.v (.bool T.sv))]):
  W (C.to (LZ z f ⟨.lk,T,J⟩)) 139 [] (.code lsQ::.inBlock 1::vu) E [] L:=by
 have aM:C.kd≠.early:=by rcases r.kd with e | e <;> rw[e] <;> decide
 refine W.cG (B':=[]) hE (by exact trivial) ?_;obtain⟨pc,old,aw,sv,ws,it,left,hh⟩:=T;simp only at hp F5 hl hc gU;subst hl F5;have nr:(Tryz.prog.funcs[C.f]?).any (·.norace)=true:=by rw[hf,Tryz.func269];rfl
 have h2:∀(f2:Nat),f2≤f→∀(eG:Int) (E:Env) (sv ws hh:Bool),ws=decide (eG≠0)→gk E [(0,.v (iB ⟨z.X,5,none⟩)),(2,.v (.int .i64 eG)),(3,.v (.bool sv))]→
   W (C.to (LZ z f2 ⟨.lk,{pc:=.r2,old:=old,aw:=false,sv:=sv,ws:=ws,it:=it,left:=left,h:=hh},J⟩)) 139 [] (.code lsV::.inBlock 1::vu) E [] L:=by
  intro f2 jT eG E sv ws hh hw hE;refine W.cG (B':=[]) hE (by exact trivial) ?_;refine W.go 99 rfl ?_;refine W.GR (b:=z.b) (u:=false) (T:={pc:=.r2,old:=old,aw:=false,sv:=sv,ws:=ws,it:=it,left:=left,h:=hh}) (J:=J) z.xo nr rfl r.ro aM v9 rfl rfl rfl rfl fun S hF=>?_
  by_cases hs:S.w.s=true
  ·have fA:=hF.handed (hF.woken rfl hs);have Qp:=hF.c6;obtain⟨⟨sl,sw,ss,sc⟩,sn,sh⟩:=S;simp only at hs fA Qp;obtain⟨rfl,rfl,rfl,hsc⟩:=fA;refine⟨_,.r2s rfl rfl,fun f3 Ee=>?_⟩;refine W.go 99 rfl ?_;rw[rM _ Qp];refine W.split rfl rfl rfl (fun c=>?_) (fun c=>Bool.noConfusion (show true=false from c));refine W.go 99 rfl ?_;rw[MK _ Qp];refine W.cY 111 (p:=false) rfl rfl ?_;refine W.go 99 rfl ?_;rw[qN];have e1:(((sc:Nat):Int)==0)=false:=by simpa using Nat.pos_iff_ne_zero.1 hsc
   rw[e1];refine W.split rfl rfl rfl (fun c=>Bool.noConfusion (show false=true from c)) (fun c=>?_);refine W.go 99 rfl ?_;cases sv with
   | false=>
    refine W.cY 119 (p:=true) rfl rfl ?_;refine W.go 99 rfl ?_;rw[show IntKind.i32.wrap (-7 - 4)=-11 by decide];refine W.EA (b:=z.b) (u:=false) (T:={pc:=.a1,old:=⟨false,false,true,sc⟩,aw:=false,sv:=false,ws:=ws,it:=it,left:=left,h:=hh}) (J:=J) (dl:=-11) z.xo eB.func eB.name eB.body eB.next eB.find rfl r.ro aM rfl rfl rfl rfl rfl fun S' PV=>?_;refine OP PV rfl (.inl rfl) fun nw cu Q0=>⟨_,nw,cu,Q0,fun f4 By=>?_⟩;refine W.go 2 rfl ?_;refine yM (C:=C) r f4 (by omega) ?_
    rfl
   | true=>
    refine W.cY 119 (p:=false) rfl rfl ?_;refine W.go 99 rfl ?_;rw[qN]
    by_cases h1:sc=1
    ·subst h1;refine W.split rfl rfl rfl (fun c=>?_) (fun c=>Bool.noConfusion (show true=false from c));refine W.go 99 rfl ?_;rw[show IntKind.i32.wrap (-7 - 4)=-11 by decide];refine W.EA (b:=z.b) (u:=false) (T:={pc:=.a1,old:=⟨false,false,true,1⟩,aw:=false,sv:=true,ws:=ws,it:=it,left:=left,h:=hh}) (J:=J) (dl:=-11) z.xo eB.func eB.name eB.body eB.next eB.find rfl r.ro aM rfl rfl rfl rfl rfl fun S' PV=>?_;refine OP PV rfl (.inr rfl) fun nw cu Q0=>⟨_,nw,cu,Q0,fun f4 By=>?_⟩;refine W.go 2 rfl ?_;refine yM (C:=C) r f4 (by omega) ?_
     rfl
    ·have e2:(((sc:Nat):Int)==1)=false:=by
      have:((sc:Nat):Int)≠1:=by omega
      simpa using this
     rw[e2];refine W.split rfl rfl rfl (fun c=>Bool.noConfusion (show false=true from c)) (fun c=>?_);refine W.go 99 rfl ?_;refine W.EA (b:=z.b) (u:=false) (T:={pc:=.a1,old:=⟨false,false,true,sc⟩,aw:=false,sv:=true,ws:=ws,it:=it,left:=left,h:=hh}) (J:=J) (dl:=-7) z.xo eB.func eB.name eB.body eB.next eB.find rfl r.ro aM rfl rfl rfl rfl rfl fun S' PV=>?_;refine aa0 PV rfl rfl h1 fun nw cu Q0=>⟨_,nw,cu,Q0,fun f4 By=>?_⟩;refine W.go 2 rfl ?_;refine yM (C:=C) r f4 (by omega) ?_
     rfl
  ·have iA:S.w.s=false:=by simpa using hs
   refine⟨_,.VM rfl iA,fun f3 Ee=>?_⟩;have Qp:=hF.c6;have jU:=hF.next (.VM rfl iA);refine W.go 99 rfl ?_;rw[rM _ hF.c6,iA];refine W.split rfl rfl rfl (fun c=>Bool.noConfusion (show false=true from c)) (fun c=>?_);refine W.go 8 rfl ?_;refine W.go 2 rfl ?_;refine W.dJ ?_;refine W.A4 4 rfl ?_;refine W.cG (E':=tX z {pc:=.r2,old:=S.w,aw:=true,sv:=sv,ws:=ws,it:=0,left:=left,h:=hh} eG) (B':=[]) (by exact⟨rfl,rfl,rfl,rfl,rfl,rfl,trivial⟩) (by exact trivial) ?_;exact ih f3 (by omega) {pc:=.r2,old:=S.w,aw:=true,sv:=sv,ws:=ws,it:=0,left:=left,h:=hh} eG rfl Qp hw jU
 have h3:∀(f2:Nat),f2≤f→∀(eG:Int) (E:Env) (sv ws hh b8:Bool),ws=decide (eG≠0)→gk E [(0,.v (iB ⟨z.X,5,none⟩)),(2,.v (.int .i64 eG)),(3,.v (.bool sv)),(8,.v (.bool b8))]→
   W (C.to (LZ z f2 ⟨.lk,{pc:=.s1,old:=old,aw:=false,sv:=sv,ws:=ws,it:=it,left:=left,h:=hh},J⟩)) 139 [] (.code lsU::.inBlock 1::vu) E [] L:=by
  intro f2 jT eG E sv ws hh b8 hw hE;refine W.cG (B':=[]) hE (by exact trivial) ?_;refine W.go 99 rfl ?_;refine W.RX (b:=z.b) (T:={pc:=.s1,old:=old,aw:=false,sv:=sv,ws:=ws,it:=it,left:=left,h:=hh}) (J:=J) z.xo uR.func uR.name uR.body uR.next uR.find rfl rfl r.ro aM rfl rfl rfl rfl fun UN f3 Ee=>?_;cases sv with
  | true=>
   refine W.go 99 rfl ?_;refine W.cY 95 (p:=true) rfl rfl ?_;refine W.go 7 rfl ?_;refine W.A4 3 rfl ?_;exact h2 f3 (by omega) eG _ true ws UN hw ⟨rfl,rfl,rfl,trivial⟩
  | false=>
   refine W.go 99 rfl ?_;refine W.cY 95 (p:=false) rfl rfl ?_;refine W.go 99 rfl ?_;refine W.Ld (b:=z.b) (u:=false) (T:={pc:=.t2,old:=old,aw:=false,sv:=false,ws:=ws,it:=it,left:=left,h:=UN}) (J:=J) lx.func lx.name lx.body lx.next lx.find rfl rfl r.ro aM rfl rfl rfl fun v=>⟨{pc:=.r2,old:=old,aw:=false,sv:=decide (1000000<IntKind.i64.wrap (v - eG)),ws:=ws,it:=it,left:=left,h:=UN},fun S=>.t2 _ rfl,fun f4 By=>?_⟩;refine W.go 6 rfl ?_;exact h2 f4 (by omega) eG _ (decide (1000000<IntKind.i64.wrap (v - eG))) ws UN hw ⟨rfl,rfl,rfl,trivial⟩
 refine W.go 99 rfl ?_;cases ws with
 | true=>
  obtain rfl:pc=.s1:=hp;have e1:(eG==0)=false:=by simpa using gU.symm
  rw[e1];refine W.split rfl rfl rfl (fun c=>Bool.noConfusion (show false=true from c)) (fun c=>?_);refine W.go 2 rfl ?_;exact h3 f (Nat.le_refl _) eG _ sv true hh _ gU ⟨rfl,rfl,rfl,rfl,trivial⟩
 | false=>
  obtain rfl:pc=.t1:=hp;have e1:(eG==0)=true:=by simpa using gU.symm
  rw[e1];refine W.split rfl rfl rfl (fun c=>?_) (fun c=>Bool.noConfusion (show true=false from c));refine W.go 99 rfl ?_;refine W.Ld (b:=z.b) (u:=false) (T:={pc:=.t1,old:=old,aw:=false,sv:=sv,ws:=false,it:=it,left:=left,h:=hh}) (J:=J) lx.func lx.name lx.body lx.next lx.find rfl rfl r.ro aM rfl rfl rfl fun v=>⟨{pc:=.s1,old:=old,aw:=false,sv:=sv,ws:=decide (v≠0),it:=it,left:=left,h:=hh},fun S=>.t1 _ rfl,fun f3 Ee=>?_⟩;refine W.go 2 rfl ?_;exact h3 f3 (by omega) v _ sv (decide (v≠0)) hh _ rfl ⟨rfl,rfl,rfl,rfl,trivial⟩
theorem acH(hf:C.f=269)(r:sW C Tryz.f269 (Dn z J L l F))(f:Nat)(Eg:f≤F)(ih:∀m,m<f→nB z J C L l m)(T:Mu.Th)(eG:Int)(hp:T.pc=.c2)(hl:T.left=l)(hc:T.old.c≤6)(gU:T.ws=decide (eG≠0))(hg:Mu.Good T){E:Env}(hE:gk E ((7,.v (.int .i32 (Mu.enc (Mu.nw T))))::tX z T eG)):
  W (C.to (LZ z f ⟨.lk,T,J⟩)) 139 [] (.code lsS::.inBlock 1::vu) E [] L:=by
 have aM:C.kd≠.early:=by rcases r.kd with e | e <;> rw[e] <;> decide
 obtain⟨pc,⟨ol,ow,os,oc⟩,aw,sv,ws,it,left,hh⟩:=T;simp only at hp hl hc gU;subst hl hp;refine W.cG (B':=[]) hE (by exact trivial) ?_;have kF:∀(S:Mu.Sh),S.w≠⟨ol,ow,os,oc⟩→Mu.Step {pc:=.c2,old:=⟨ol,ow,os,oc⟩,aw:=aw,sv:=sv,ws:=ws,it:=it,left:=left,h:=hh} S {pc:=.r3,old:=⟨ol,ow,os,oc⟩,aw:=aw,sv:=sv,ws:=ws,it:=it,left:=left,h:=hh} S:=fun S e=>.Yg rfl e;have again:∀{f2:Nat} {E:Env},f=f2+1→gk E (tX z {pc:=.c2,old:=⟨ol,ow,os,oc⟩,aw:=aw,sv:=sv,ws:=ws,it:=it,left:=left,h:=hh} eG)→
   W (C.to (LZ z f2 ⟨.lk,{pc:=.r3,old:=⟨ol,ow,os,oc⟩,aw:=aw,sv:=sv,ws:=ws,it:=it,left:=left,h:=hh},J⟩)) 139 [] (.code (match lsS with | .seq _ (.cond _ _ c)=>c | _=>.skip)::.inBlock 1::vu) E [] L:=by
  intro f2 E jT hs;refine W.cG (B':=[]) hs (by exact trivial) ?_;refine W.go 99 rfl ?_;refine W.GR (b:=z.b) (u:=false) (T:={pc:=.r3,old:=⟨ol,ow,os,oc⟩,aw:=aw,sv:=sv,ws:=ws,it:=it,left:=left,h:=hh}) (J:=J) z.xo (by show(Tryz.prog.funcs[C.f]?).any (·.norace)=true;rw[hf,Tryz.func269];rfl) rfl r.ro aM v9 rfl rfl rfl rfl fun S hF=>⟨_,.r0 (.inr rfl),fun f3 Ee=>?_⟩;refine W.go 7 rfl ?_;refine W.dJ ?_;refine W.cG (E':=tX z {pc:=.r3,old:=S.w,aw:=aw,sv:=sv,ws:=ws,it:=it,left:=left,h:=hh} eG) (B':=[]) (by exact⟨rfl,rfl,rfl,rfl,rfl,rfl,trivial⟩) (by exact trivial) ?_;exact ih f3 (by omega) {pc:=.r3,old:=S.w,aw:=aw,sv:=sv,ws:=ws,it:=it,left:=left,h:=hh} eG rfl hF.c6 gU (hF.next (.r0 (.inr rfl)))
 refine W.go 99 rfl ?_
 by_cases hq:ol=true∨os=true
 ·refine W.z8 (b:=z.b) (u:=false) (T:={pc:=.c2,old:=⟨ol,ow,os,oc⟩,aw:=aw,sv:=sv,ws:=ws,it:=it,left:=left,h:=hh}) (J:=J) (old:=⟨ol,ow,os,oc⟩) (nw:=Mu.nw {pc:=.c2,old:=⟨ol,ow,os,oc⟩,aw:=aw,sv:=sv,ws:=ws,it:=it,left:=left,h:=hh}) (Ty:={pc:=if ws then .s1 else .t1,old:=⟨ol,ow,os,oc⟩,aw:=false,sv:=sv,ws:=ws,it:=it,left:=left,h:=hh}) (Tn:={pc:=.r3,old:=⟨ol,ow,os,oc⟩,aw:=aw,sv:=sv,ws:=ws,it:=it,left:=left,h:=hh}) z.xo dB.func dB.name dB.body dB.next dB.find rfl r.ro aM rfl rfl rfl rfl rfl rfl (fun S hF e=>.Yi rfl e hq) (fun S hF e=>kF S e) (fun f2 jT=>?_) (fun f2 jT=>?_)
  ·refine W.go 2 rfl ?_;refine W.split rfl rfl rfl (fun c=>?_) (fun c=>absurd c (by decide));refine W.go 99 rfl ?_;rw[rN ⟨ol,ow,os,oc⟩ hc];have e1:(Mu.bi ol+4 *Mu.bi os==0)=false:=by rcases hq with e | e <;> cases ol <;> cases os <;> first | rfl | cases e
   rw[e1];refine W.split rfl rfl rfl (fun c=>absurd c (by decide)) (fun c=>?_);refine W.go 2 rfl ?_;have:xL {pc:=if ws then .s1 else .t1,old:=⟨ol,ow,os,oc⟩,aw:=false,sv:=sv,ws:=ws,it:=it,left:=left,h:=hh}=.lk:=by cases ws <;> rfl
   show W (C.to (LZ z f2 ⟨xL _,_,J⟩)) _ _ _ _ _ _;rw[this];exact acG hf r f2 (by omega) (fun m hm=>ih m (by omega)) {pc:=if ws then .s1 else .t1,old:=⟨ol,ow,os,oc⟩,aw:=false,sv:=sv,ws:=ws,it:=it,left:=left,h:=hh} eG rfl rfl rfl hc gU ⟨rfl,rfl,rfl,trivial⟩
  ·refine W.go 2 rfl ?_;refine W.split rfl rfl rfl (fun c=>absurd c (by decide)) (fun c=>?_);refine W.go 1 rfl ?_;refine again jT ?_;exact⟨rfl,rfl,rfl,rfl,rfl,rfl,trivial⟩
 ·simp only[not_or,Bool.not_eq_true] at hq;obtain⟨rfl,rfl⟩:=hq;refine W.z8 (b:=z.b) (u:=false) (T:={pc:=.c2,old:=⟨false,ow,false,oc⟩,aw:=aw,sv:=sv,ws:=ws,it:=it,left:=left,h:=hh}) (J:=J) (old:=⟨false,ow,false,oc⟩) (nw:=Mu.nw {pc:=.c2,old:=⟨false,ow,false,oc⟩,aw:=aw,sv:=sv,ws:=ws,it:=it,left:=left,h:=hh}) (Ty:={pc:=.own,left:=left}) (Tn:={pc:=.r3,old:=⟨false,ow,false,oc⟩,aw:=aw,sv:=sv,ws:=ws,it:=it,left:=left,h:=hh}) z.xo dB.func dB.name dB.body dB.next dB.find rfl r.ro aM rfl rfl rfl rfl rfl rfl (fun S hF e=>.Yh rfl e rfl rfl) (fun S hF e=>kF S e) (fun f2 jT=>?_) (fun f2 jT=>?_)
  ·refine W.go 2 rfl ?_;refine W.split rfl rfl rfl (fun c=>?_) (fun c=>absurd c (by decide));refine W.go 99 rfl ?_;rw[rN ⟨false,ow,false,oc⟩ hc];have e1:(Mu.bi ({l:=false,w:=ow,s:=false,c:=oc}:Mu.Wd).l+4 *Mu.bi ({l:=false,w:=ow,s:=false,c:=oc}:Mu.Wd).s==0)=true:=rfl;rw[e1];refine W.split rfl rfl rfl (fun c=>?_) (fun c=>absurd c (by decide));refine W.go 2 rfl ?_;refine yM (C:=C) r f2 (by omega) ?_
   rfl
  ·refine W.go 2 rfl ?_;refine W.split rfl rfl rfl (fun c=>absurd c (by decide)) (fun c=>?_);refine W.go 1 rfl ?_;refine again jT ?_;exact⟨rfl,rfl,rfl,rfl,rfl,rfl,trivial⟩
theorem Vw(hf:C.f=269)(r:sW C Tryz.f269 (Dn z J L l F))(f:Nat)(Eg:f≤F)(ih:∀m,m<f→nB z J C L l m)(T:Mu.Th)(eG:Int)(hp:T.pc=.c2)(hl:T.left=l)(hc:T.old.c≤6)(gU:T.ws=decide (eG≠0))(hg:Mu.Good T):
  W (C.to (LZ z f ⟨.lk,T,J⟩)) 139 [] (.code GN::.inBlock 1::vu) (tX z T eG) [] L:=by
 have key:=fun(E:Env)=>@acH z J C L l F hf r f Eg ih T eG hp hl hc gU hg E;obtain⟨pc,⟨ol,ow,os,oc⟩,aw,sv,ws,it,left,hh⟩:=T;simp only at hp hl hc gU key ⊢;subst hl hp;have F5:aw=true→ow=true:=fun e=>hg.aw (.inr rfl) e;have h3:∀(E:Env),gk E ((7,.v (.int .i32 (Mu.enc ⟨ol||!os,ow,os||(sv&&ol),oc+if ol||os then 1 else 0⟩)))::tX z {pc:=.c2,old:=⟨ol,ow,os,oc⟩,aw:=aw,sv:=sv,ws:=ws,it:=it,left:=left,h:=hh} eG)→W (C.to (LZ z f ⟨.lk,{pc:=.c2,old:=⟨ol,ow,os,oc⟩,aw:=aw,sv:=sv,ws:=ws,it:=it,left:=left,h:=hh},J⟩)) 139 [] (.code lsB::.inBlock 1::vu) E [] L:=by
  intro E hE;have c7:oc+(if(ol||os)=true then 1 else 0)≤7:=by split <;> omega
  refine W.cG (B':=[]) hE (by exact trivial) ?_;cases aw with
  | false=>
   refine W.go 5 rfl ?_;refine W.split rfl rfl rfl (fun c=>Bool.noConfusion (show false=true from c)) (fun c=>?_);refine W.go 2 rfl ?_;refine key _ ?_;have:Mu.nw {pc:=.c2,old:=⟨ol,ow,os,oc⟩,aw:=false,sv:=sv,ws:=ws,it:=it,left:=left,h:=hh}=⟨ol||!os,ow,os||(sv&&ol),oc+if ol||os then 1 else 0⟩:=by simp[Mu.nw]
   rw[this];exact⟨rfl,rfl,rfl,rfl,rfl,rfl,rfl,trivial⟩
  | true=>
   obtain rfl:=F5 rfl;refine W.go 99 rfl ?_;refine W.split rfl rfl rfl (fun c=>?_) (fun c=>Bool.noConfusion (show true=false from c));refine W.go 99 rfl ?_;rw[Il _ c7];refine W.split rfl rfl rfl (fun c=>Bool.noConfusion (show false=true from c)) (fun c=>?_);refine W.go 9 rfl ?_;refine W.vf rfl rfl rfl rfl (Vf.OX rfl rfl (Im _ c7)) ?_;refine W.go 2 rfl ?_;refine key _ ?_;have:Mu.nw {pc:=.c2,old:=⟨ol,true,os,oc⟩,aw:=true,sv:=sv,ws:=ws,it:=it,left:=left,h:=hh}=⟨ol||!os,false,os||(sv&&ol),oc+if ol||os then 1 else 0⟩:=by simp[Mu.nw]
   rw[this];exact⟨rfl,rfl,rfl,rfl,rfl,rfl,rfl,trivial⟩
 have h2:∀(E:Env),gk E ((7,.v (.int .i32 (Mu.enc ⟨ol||!os,ow,os,oc+if ol||os then 1 else 0⟩)))::tX z {pc:=.c2,old:=⟨ol,ow,os,oc⟩,aw:=aw,sv:=sv,ws:=ws,it:=it,left:=left,h:=hh} eG)→W (C.to (LZ z f ⟨.lk,{pc:=.c2,old:=⟨ol,ow,os,oc⟩,aw:=aw,sv:=sv,ws:=ws,it:=it,left:=left,h:=hh},J⟩)) 139 [] (.code lsA::.inBlock 1::vu) E [] L:=by
  intro E hE;have c7:oc+(if(ol||os)=true then 1 else 0)≤7:=by split <;> omega
  refine W.cG (B':=[]) hE (by exact trivial) ?_;refine W.go 99 rfl ?_;cases sv with
  | false=>
   refine W.cY 61 (p:=false) rfl rfl ?_;refine W.go 7 rfl ?_;refine h3 _ ?_;rw[Bool.false_and,Bool.or_false];exact⟨rfl,rfl,rfl,rfl,rfl,rfl,rfl,trivial⟩
  | true=>
   refine W.cY 61 (p:=true) rfl rfl ?_;refine W.go 99 rfl ?_;rw[B9 ⟨ol,ow,os,oc⟩ hc];cases ol with
   | true=>
    have e1:(Mu.bi ({l:=true,w:=ow,s:=os,c:=oc}:Mu.Wd).l !=0)=true:=rfl;rw[e1];refine W.split rfl rfl rfl (fun c=>?_) (fun c=>Bool.noConfusion (show true=false from c));refine W.go 6 rfl ?_;rw[MH _ c7];refine h3 _ ?_;rw[show(os||(true&&true))=true by simp];exact⟨rfl,rfl,rfl,rfl,rfl,rfl,rfl,trivial⟩
   | false=>
    have e1:(Mu.bi ({l:=false,w:=ow,s:=os,c:=oc}:Mu.Wd).l !=0)=false:=rfl;rw[e1];refine W.split rfl rfl rfl (fun c=>Bool.noConfusion (show false=true from c)) (fun c=>?_);refine W.go 2 rfl ?_;refine h3 _ ?_;rw[show(os||(true&&false))=os by simp];exact⟨rfl,rfl,rfl,rfl,rfl,rfl,rfl,trivial⟩
 have h1:∀(E:Env),gk E ((7,.v (.int .i32 (Mu.enc ⟨ol||!os,ow,os,oc⟩)))::tX z {pc:=.c2,old:=⟨ol,ow,os,oc⟩,aw:=aw,sv:=sv,ws:=ws,it:=it,left:=left,h:=hh} eG)→W (C.to (LZ z f ⟨.lk,{pc:=.c2,old:=⟨ol,ow,os,oc⟩,aw:=aw,sv:=sv,ws:=ws,it:=it,left:=left,h:=hh},J⟩)) 139 [] (.code lsX::.inBlock 1::vu) E [] L:=by
  intro E hE;refine W.cG (B':=[]) hE (by exact trivial) ?_;refine W.go 99 rfl ?_;rw[rN ⟨ol,ow,os,oc⟩ hc]
  by_cases hq:ol=true∨os=true
  ·have e1:(Mu.bi ol+4 *Mu.bi os !=0)=true:=by rcases hq with e | e <;> cases ol <;> cases os <;> first | rfl | cases e
   rw[e1];refine W.split rfl rfl rfl (fun c=>?_) (fun c=>Bool.noConfusion (show true=false from c));refine W.go 6 rfl ?_;rw[MJ _ hc];refine h2 _ ?_;rw[if_pos (by simpa using hq)];exact⟨rfl,rfl,rfl,rfl,rfl,rfl,rfl,trivial⟩
  ·have e1:(Mu.bi ol+4 *Mu.bi os !=0)=false:=by
    simp only[not_or,Bool.not_eq_true] at hq;obtain⟨rfl,rfl⟩:=hq
    rfl
   rw[e1];refine W.split rfl rfl rfl (fun c=>Bool.noConfusion (show false=true from c)) (fun c=>?_);refine W.go 2 rfl ?_;refine h2 _ ?_;rw[if_neg (by simpa using hq),Nat.add_zero];exact⟨rfl,rfl,rfl,rfl,rfl,rfl,rfl,trivial⟩
 refine W.go 99 rfl ?_;rw[rM ⟨ol,ow,os,oc⟩ hc];cases os with
 | true=>
  have e1:(4 *Mu.bi ({l:=ol,w:=ow,s:=true,c:=oc}:Mu.Wd).s==0)=false:=rfl;rw[e1];refine W.split rfl rfl rfl (fun c=>Bool.noConfusion (show false=true from c)) (fun c=>?_);refine W.go 2 rfl ?_;refine h1 _ ?_;rw[show(ol||!true)=ol by simp];exact⟨rfl,rfl,rfl,rfl,rfl,rfl,rfl,trivial⟩
 | false=>
  have e1:(4 *Mu.bi ({l:=ol,w:=ow,s:=false,c:=oc}:Mu.Wd).s==0)=true:=rfl;rw[e1];refine W.split rfl rfl rfl (fun c=>?_) (fun c=>Bool.noConfusion (show true=false from c));refine W.go 6 rfl ?_;rw[Pr _ hc];refine h1 _ ?_;rw[show(ol||!false)=true by simp];exact⟨rfl,rfl,rfl,rfl,rfl,rfl,rfl,trivial⟩
theorem Fc{it:Nat}(h:it<1000):IntKind.i64.wrap ((it:Int)+1)=((it+1:Nat):Int):=by
 rw[IntKind.wrap_i64];omega
theorem Jm{C:Cx Tryz.prog}(hf:C.f=269):(Tryz.prog.funcs[C.f]?).any (·.norace)=true:=by rw[hf,Tryz.func269];rfl
theorem RO(hf:C.f=269)(r:sW C Tryz.f269 (Dn z J L l F))(f:Nat)(Eg:f≤F)(ih:∀m,m<f→nB z J C L l m)(T:Mu.Th)(eG:Int)(hp:T.pc=.r1)(hl:T.left=l)(hi:T.it<4)(gU:T.ws=decide (eG≠0)):
  W (C.to (LZ z f ⟨.lk,T,J⟩)) 139 [] (.code lsP::.code GN::.inBlock 1::vu) (tX z T eG) [] L:=by
 have aM:C.kd≠.early:=by rcases r.kd with e | e <;> rw[e] <;> decide
 refine W.go 99 rfl ?_;refine W.aB rfl rfl rfl (Ef.ext rfl (jN.pure Up fun _ _ _=>rfl)) ?_;rintro _ _ _ ⟨_,rfl,rfl,rfl,rfl⟩;refine W.go 99 rfl ?_;rw[Fc (show T.it<1000 by omega)];refine W.GR (b:=z.b) (u:=false) (T:=T) (J:=J) z.xo (Jm hf) rfl r.ro aM v9 rfl rfl rfl rfl fun S hF=>⟨_,.r1 hp,fun f2 jT=>?_⟩;refine W.go 7 rfl ?_;refine W.dJ ?_;refine W.cG (E':=tX z {T with old:=S.w,it:=T.it+1} eG) (B':=[]) (by exact⟨rfl,rfl,rfl,rfl,rfl,rfl,trivial⟩) (by exact trivial) ?_;exact ih f2 (by omega) {T with old:=S.w,it:=T.it+1} eG hl hF.c6 gU (hF.next (.r1 hp))
theorem RN(hf:C.f=269)(r:sW C Tryz.f269 (Dn z J L l F)):∀f,f≤F→nB z J C L l f:=by
 have aM:C.kd≠.early:=by rcases r.kd with e | e <;> rw[e] <;> decide
 intro f
 induction f using Nat.strongRecOn with
 | _ f ih=>
 intro Eg;replace ih:∀m,m<f→nB z J C L l m:=fun m hm=>ih m hm (by omega);rintro⟨pc,⟨ol,ow,os,oc⟩,aw,sv,ws,it,left,hh⟩ eG hl hc gU hg;simp only at hl hc gU;subst hl;have e5:=rN ⟨ol,ow,os,oc⟩ hc;have new:∀{E:Env} {f':Nat} {pc':Mu.Pc} {g:Mu.Good {pc:=.c2,old:=⟨ol,ow,os,oc⟩,aw:=aw,sv:=sv,ws:=ws,it:=it,left:=left,h:=hh}},f'≤F→(∀m,m<f'→nB z J C L left m)→gk E (tX z {pc:=.c2,old:=⟨ol,ow,os,oc⟩,aw:=aw,sv:=sv,ws:=ws,it:=it,left:=left,h:=hh} eG)→
   W (C.to (LZ z f' ⟨.lk,{pc:=.c2,old:=⟨ol,ow,os,oc⟩,aw:=aw,sv:=sv,ws:=ws,it:=it,left:=left,h:=hh},J⟩)) 139 [] (.code GN::.inBlock 1::vu) E [] L:=by
  intro E f' _ g Qv hi hs;exact W.cG hs (by exact trivial) (Vw hf r f' Qv hi _ eG rfl rfl hc gU g)
 refine W.cG (E':=[(0,.v (iB ⟨z.X,5,none⟩)),(2,.v (.int .i64 eG)),(3,.v (.bool sv)),(4,.v (.bool aw)),(5,.v (.int .i64 it)),(6,.v (.int .i32 (Mu.enc ⟨ol,ow,os,oc⟩)))]) (B':=[]) (by exact⟨rfl,rfl,rfl,rfl,rfl,rfl,trivial⟩) (by exact trivial) ?_;have Hv:∀{E:Env} {f':Nat} {T:Mu.Th},f'<f→T.pc=.r1→T.left=left→T.it<4→T.ws=decide (eG≠0)→gk E (tX z T eG)→W (C.to (LZ z f' ⟨.lk,T,J⟩)) 139 [] (.code lsP::.code GN::.inBlock 1::vu) E [] L:=by
  intro E f' T h1 h2 h3 h4 h5 hs;exact W.cG hs (by exact trivial) (RO hf r f' (by omega) (fun m hm=>ih m (by omega)) T eG h2 h3 h4 h5)
 by_cases jX:ol=true∧os=false
 ·obtain⟨rfl,rfl⟩:=jX;refine W.go 99 rfl ?_;rw[e5];refine W.cY 17 (p:=true) rfl rfl ?_;refine W.go 99 rfl ?_;have no:∀{E:Env} {f':Nat},f'≤F→(∀m,m<f'→nB z J C L left m)→gk E (tX z {pc:=.c2,old:=⟨true,ow,false,oc⟩,aw:=aw,sv:=sv,ws:=ws,it:=it,left:=left,h:=hh} eG)→
    W (C.to (LZ z f' ⟨.lk,{pc:=.c2,old:=⟨true,ow,false,oc⟩,aw:=aw,sv:=sv,ws:=ws,it:=it,left:=left,h:=hh},J⟩)) 139 [] (.code GN::.inBlock 1::vu) E [] L:=fun Qv hi hs=>new (pc':=.c2) (g:=⟨fun _=>hg.lp rfl,fun e=>(by cases e),fun e=>(by cases e),fun _=>hg.aw (.inl rfl),hg.it,fun e=>(by cases e),fun e=>(by cases e),fun e=>(by rcases e with e | e <;> cases e),fun e=>(by rcases e with e | e <;> cases e)⟩) Qv hi hs
  by_cases WZ:aw=false∧ow=false∧oc≠0
  ·obtain⟨rfl,rfl,IV⟩:=WZ;refine W.Lg (b:=z.b) (u:=false) (T:={pc:=.sq,old:=⟨true,false,false,oc⟩,aw:=false,sv:=sv,ws:=ws,it:=it,left:=left,h:=hh}) (J:=J) (Tt:={pc:=.c1,old:=⟨true,false,false,oc⟩,aw:=false,sv:=sv,ws:=ws,it:=it,left:=left,h:=hh}) (Tn:={pc:=.c2,old:=⟨true,false,false,oc⟩,aw:=false,sv:=sv,ws:=ws,it:=it,left:=left,h:=hh})
    lv.func lv.name lv.body lv.next lv.find rfl r.ro aM rfl rfl rfl rfl (fun h4 S=>.sqc rfl (show it<4 by omega) rfl rfl IV) (fun S=>.V7 rfl) (fun h4 f1 qn=>?_) (fun f1 qn=>?_)
   ·refine W.go 99 rfl ?_;refine W.split rfl rfl rfl (fun c=>?_) (fun c=>absurd c (by decide));refine W.go 99 rfl ?_;have h1:it<4:=by omega
    refine W.cY 23 (p:=true) rfl rfl ?_;refine W.go 99 rfl ?_;rw[Ca ⟨true,false,false,oc⟩ hc];refine W.cY 28 (p:=true) rfl rfl ?_;refine W.go 99 rfl ?_;rw[qN,show(((⟨true,false,false,oc⟩:Mu.Wd).c:Int) !=0)=true by simpa using IV];refine W.cY 33 (p:=true) rfl rfl ?_;refine W.go 99 rfl ?_;rw[FM ⟨true,false,false,oc⟩ hc];refine W.z8 (b:=z.b) (u:=false) (T:={pc:=.c1,old:=⟨true,false,false,oc⟩,aw:=false,sv:=sv,ws:=ws,it:=it,left:=left,h:=hh}) (J:=J) (old:=⟨true,false,false,oc⟩) (nw:=⟨true,true,false,oc⟩) (Ty:={pc:=.r1,old:=⟨true,false,false,oc⟩,aw:=true,sv:=sv,ws:=ws,it:=it,left:=left,h:=hh}) (Tn:={pc:=.r1,old:=⟨true,false,false,oc⟩,aw:=false,sv:=sv,ws:=ws,it:=it,left:=left,h:=hh}) z.xo dB.func dB.name dB.body dB.next dB.find rfl r.ro aM rfl rfl rfl rfl rfl rfl (fun S hF e=>?_) (fun S hF e=>.Ye rfl e) (fun f2 jT=>?_) (fun f2 jT=>?_)
    ·have:=Mu.Step.Yf (T:={pc:=.c1,old:=⟨true,false,false,oc⟩,aw:=false,sv:=sv,ws:=ws,it:=it,left:=left,h:=hh}) rfl e;rw[e] at this;exact this
    ·refine W.go 2 rfl ?_;refine W.split rfl rfl rfl (fun c=>?_) (fun c=>absurd c (by decide));refine W.go 4 rfl ?_;refine W.A4 4 rfl ?_;exact Hv (T:={pc:=.r1,old:=⟨true,false,false,oc⟩,aw:=true,sv:=sv,ws:=ws,it:=it,left:=left,h:=hh}) (by omega) rfl rfl h1 gU ⟨rfl,rfl,rfl,rfl,rfl,rfl,trivial⟩
    ·refine W.go 2 rfl ?_;refine W.split rfl rfl rfl (fun c=>absurd c (by decide)) (fun c=>?_);refine W.go 2 rfl ?_;exact Hv (T:={pc:=.r1,old:=⟨true,false,false,oc⟩,aw:=false,sv:=sv,ws:=ws,it:=it,left:=left,h:=hh}) (by omega) rfl rfl h1 gU ⟨rfl,rfl,rfl,rfl,rfl,rfl,trivial⟩
   ·refine W.go 99 rfl ?_;refine W.split rfl rfl rfl (fun c=>absurd c (by decide)) (fun c=>?_);refine W.go 2 rfl ?_;refine no (by omega) (fun m hm=>ih m (by omega)) ?_;exact⟨rfl,rfl,rfl,rfl,rfl,rfl,trivial⟩
  ·refine W.Lg (b:=z.b) (u:=false) (T:={pc:=.sq,old:=⟨true,ow,false,oc⟩,aw:=aw,sv:=sv,ws:=ws,it:=it,left:=left,h:=hh}) (J:=J) (Tt:={pc:=.r1,old:=⟨true,ow,false,oc⟩,aw:=aw,sv:=sv,ws:=ws,it:=it,left:=left,h:=hh}) (Tn:={pc:=.c2,old:=⟨true,ow,false,oc⟩,aw:=aw,sv:=sv,ws:=ws,it:=it,left:=left,h:=hh})
    lv.func lv.name lv.body lv.next lv.find rfl r.ro aM rfl rfl rfl rfl (fun h4 S=>.sqr rfl (show it<4 by omega)) (fun S=>.V7 rfl) (fun h4 f1 qn=>?_) (fun f1 qn=>?_)
   ·refine W.go 99 rfl ?_;refine W.split rfl rfl rfl (fun c=>?_) (fun c=>absurd c (by decide));refine W.go 99 rfl ?_;have h1:it<4:=by omega
    cases aw with
    | true=>
     refine W.cY 23 (p:=false) rfl rfl ?_;refine W.go 21 rfl ?_;exact Hv (T:={pc:=.r1,old:=⟨true,ow,false,oc⟩,aw:=true,sv:=sv,ws:=ws,it:=it,left:=left,h:=hh}) (by omega) rfl rfl h1 gU ⟨rfl,rfl,rfl,rfl,rfl,rfl,trivial⟩
    | false=>
     refine W.cY 23 (p:=true) rfl rfl ?_;refine W.go 99 rfl ?_;rw[Ca ⟨true,ow,false,oc⟩ hc];cases ow with
     | true=>
      refine W.cY 28 (p:=false) rfl rfl ?_;refine W.go 16 rfl ?_;exact Hv (T:={pc:=.r1,old:=⟨true,true,false,oc⟩,aw:=false,sv:=sv,ws:=ws,it:=it,left:=left,h:=hh}) (by omega) rfl rfl h1 gU ⟨rfl,rfl,rfl,rfl,rfl,rfl,trivial⟩
     | false=>
      have IV:oc=0:=Classical.byContradiction fun e=>WZ ⟨rfl,rfl,e⟩;subst IV;refine W.cY 28 (p:=true) rfl rfl ?_;refine W.go 99 rfl ?_;rw[qN];refine W.cY 33 (p:=false) rfl rfl ?_;refine W.go 11 rfl ?_;exact Hv (T:={pc:=.r1,old:=⟨true,false,false,0⟩,aw:=false,sv:=sv,ws:=ws,it:=it,left:=left,h:=hh}) (by omega) rfl rfl h1 gU ⟨rfl,rfl,rfl,rfl,rfl,rfl,trivial⟩
   ·refine W.go 99 rfl ?_;refine W.split rfl rfl rfl (fun c=>absurd c (by decide)) (fun c=>?_);refine W.go 2 rfl ?_;refine no (by omega) (fun m hm=>ih m (by omega)) ?_;exact⟨rfl,rfl,rfl,rfl,rfl,rfl,trivial⟩
 ·have ehd:Mu.hd ({pc:=pc,old:=⟨ol,ow,os,oc⟩,aw:=aw,sv:=sv,ws:=ws,it:=it,left:=left,h:=hh}:Mu.Th)={pc:=.c2,old:=⟨ol,ow,os,oc⟩,aw:=aw,sv:=sv,ws:=ws,it:=it,left:=left,h:=hh}:=by
   unfold Mu.hd;rw[if_neg (by simpa using jX)]
  rw[ehd] at hg ⊢;refine W.go 99 rfl ?_;rw[e5];have e1:(Mu.bi ol+4 *Mu.bi os==1)=false:=by cases ol <;> cases os <;> first | rfl | exact absurd ⟨rfl,rfl⟩ jX
  rw[e1];refine W.cY 17 (p:=false) rfl rfl ?_;refine W.go 6 rfl ?_;exact new (pc':=.c2) (g:=hg) Eg ih ⟨rfl,rfl,rfl,rfl,rfl,rfl,trivial⟩
end
theorem aac(z:RZ)(J:Option Nat)(L:LH)(l f:Nat):jO (LZ z f ⟨.lk,{pc:=.r0,left:=l},J⟩) 269 [iB ⟨z.X,5,none⟩] L (Dn z J L l f):=by
 refine jO.enter (n:=139) Tryz.func269 rfl rfl rfl rfl fun C hX hf aG r=>?_;have aM:C.kd≠.early:=by rcases r.kd with e | e <;> rw[e] <;> decide
 obtain⟨X0,f0,BI,pf,Bq,Be,Bf⟩:=C;obtain rfl:X0=_:=hX;refine W.go 99 rfl ?_;refine W.GR (b:=z.b) (u:=false) (T:={pc:=.r0,left:=l}) (J:=J) z.xo (by show(Tryz.prog.funcs[f0]?).any (·.norace)=true;rw[show f0=269 from hf,Tryz.func269];rfl) rfl r.ro aM v9 rfl rfl rfl rfl fun S hF=>⟨_,.r0 (.inl rfl),fun f2 jT=>?_⟩;refine W.go 5 rfl ?_;refine W.kW ?_;refine W.A4 3 rfl ?_;refine W.A4 4 rfl ?_;refine W.cG (E':=tX z {pc:=.r0,old:=S.w,left:=l} 0) (B':=[]) (by exact⟨rfl,rfl,rfl,rfl,rfl,rfl,trivial⟩) (by exact trivial) ?_;exact RN (C:=⟨LZ z f ⟨.lk,{pc:=.r0,left:=l},J⟩,f0,BI,pf,Bq,Be,Bf⟩) hf r f2 (by omega) {pc:=.r0,old:=S.w,left:=l} 0 rfl hF.c6 rfl (hF.next (.r0 (.inl rfl)))
theorem Vi(z:RZ)(J:Option Nat)(L:LH)(l f:Nat)(hl:l≠0)(i:Nat)(hJ:J=some i)(hk:z.keep i=true):jO (LZ z f ⟨.idle,{pc:=.out,left:=l},J⟩) 257 [iB ⟨z.X,5,none⟩] L (Dn z J L (l - 1) f):=by
 refine jO.enter (n:=13) Tryz.func257 rfl rfl rfl rfl fun C hX hf aG r=>?_;have aM:C.kd≠.early:=by rcases r.kd with e | e <;> rw[e] <;> decide
 obtain⟨X0,f0,BI,pf,Bq,Be,Bf⟩:=C;obtain rfl:X0=_:=hX;refine W.go 99 rfl ?_;refine W.ND (b:=z.b) (T:={pc:=.out,left:=l}) (s:=⟨.idle,{pc:=.out,left:=l},J⟩) (s2:=⟨.lk,{pc:=.l0,left:=l - 1},J⟩) .disable (by simp) ez.func ez.name ez.body ez.next ez.find rfl r.ro aM (fun f' g0 g' L' _ h1 h2 h3=>?_) rfl rfl rfl fun f1 qn=>?_
 ·exact⟨h1,.inr ⟨Nat.pos_of_ne_zero hl,⟨i,hJ,hk⟩,g',h2,h3⟩⟩
 refine W.go 99 rfl ?_;refine W.z8 (b:=z.b) (u:=false) (T:={pc:=.l0,left:=l - 1}) (J:=J) (old:=Mu.Wd.zero) (nw:=⟨true,false,false,0⟩) (Ty:={pc:=.own,left:=l - 1}) (Tn:={pc:=.r0,left:=l - 1}) z.xo dB.func dB.name dB.body dB.next dB.find rfl r.ro aM rfl rfl rfl rfl rfl rfl (fun S hF e=>.Z8 rfl e) (fun S hF e=>.Z7 rfl e) (fun f2 jT=>?_) (fun f2 jT=>?_)
 ·refine W.go 99 rfl ?_;refine W.split rfl rfl rfl (fun c=>?_) (fun c=>Bool.noConfusion (show true=false from c));refine W.go 99 rfl ?_;refine W.ND (b:=z.b) (T:={pc:=.own,left:=l - 1}) (s:=⟨.got,{pc:=.own,left:=l - 1},J⟩) (s2:=⟨.uX,{pc:=.own,left:=l - 1},J⟩) .enable (by simp) bP.func bP.name bP.body bP.next bP.find rfl r.ro aM (fun f' g0 g' L' _ h1 h2 h3=>⟨h1,g',h2,h3⟩) rfl rfl rfl fun f1 qn=>?_;refine W.go 99 rfl ?_;refine W.tj rfl r.ro aM Tryz.underlying420 Tryz.underlying266 (by kernel_rfl) (fun w hw=>let⟨v,hv⟩:=(EH hw).1;⟨_,hv⟩) rfl rfl rfl rfl ?_;refine W.RV (b:=z.b) eA.func eA.name eA.body eA.next eA.find rfl r.ro aM rfl rfl rfl rfl fun f2 K jT hK=>?_;refine W.go 99 rfl ?_;exact W.iy (r.to _) (.inr ⟨_,rfl⟩) rfl rfl ⟨f2,K,by omega,rfl,hK,rfl,rfl⟩
 ·refine W.go 99 rfl ?_;refine W.split rfl rfl rfl (fun c=>Bool.noConfusion (show false=true from c)) (fun c=>?_);refine W.go 99 rfl ?_;refine W.kN (args:=[iB ⟨z.X,5,none⟩]) rfl rfl rfl rfl (aac z J L (l - 1) f2) ?_;rintro Y v _ ⟨f4,K,By,rfl,hK,rfl,rfl⟩;refine W.go 99 rfl ?_;exact W.iy (r.to _) (.inl rfl) rfl rfl ⟨f4,K,by omega,rfl,hK,rfl,rfl⟩
theorem Z9(z:RZ)(J:Option Nat)(L:LH)(l f:Nat)(hl:l≠0)(i:Nat)(hJ:J=some i)(hk:z.keep i=true):jO (LZ z f ⟨.idle,{pc:=.out,left:=l},J⟩) 237 [iB ⟨z.X,5,none⟩] L (Dn z J L (l - 1) f):=by
 refine jO.enter (n:=6) Tryz.func237 rfl rfl rfl rfl fun C hX hf aG r=>?_;obtain⟨X0,f0,BI,pf,Bq,Be,Bf⟩:=C;obtain rfl:X0=_:=hX;refine W.go 99 rfl ?_;refine W.kN (args:=[iB ⟨z.X,5,none⟩]) rfl rfl rfl rfl (Vi z J L l f hl i hJ hk) ?_;rintro Y v _ ⟨f4,K,By,rfl,hK,rfl,rfl⟩;refine W.go 99 rfl ?_;exact W.iy (r.to _) (.inl rfl) rfl rfl ⟨f4,K,by omega,rfl,hK,rfl,rfl⟩
end Go.Mz
namespace Go.Mz
open Go
theorem Ly{c g:Int}(h0:0≤c)(h40:c≤40):eo c (gv (eJ c g) g):=by
 unfold eJ eo gv
 by_cases h1:g<c
 ·simp[h1];omega
 ·by_cases h2:c<g
  ·simp[h1,h2];omega
  ·simp[h1,h2];omega
theorem Vj{c g n:Int}(hn:n=0∨n=1∨n=2)(h:eo c (gv n g)):eJ c g=n:=by
 unfold eo gv at h;unfold eJ;rcases hn with rfl | rfl | rfl
 ·simp at h;rw[if_pos (by omega)]
 ·simp at h;rw[if_neg (by omega),if_neg (by omega)]
 ·simp at h;rw[if_neg (by omega),if_pos (by omega)]
theorem Ch:∀{l:List Gl} {f:List Int},f.length=l.length→(∀(i:Nat) (x:Int) (g:Gl),f[i]?=some x→l[i]?=some g→eo x g.bI)→f∈aS l
 | [],[],_,_=>List.mem_singleton.2 rfl
 | g::l,x::f,hl,hh=>by
  unfold aS;have h0:=hh 0 x g rfl rfl;refine List.mem_flatMap.2 ⟨f,Ch (by simpa using hl) fun i y t h1 h2=>hh (i+1) y t (by simpa using h1) (by simpa using h2),List.mem_map.2 ⟨x,?_,rfl⟩⟩;unfold eo at h0;unfold fI;exact List.mem_map.2 ⟨(x - g.bI.lo).toNat,List.mem_range.2 (by omega),by omega⟩
structure Dv(r:Ro)(f cs:List Int):Prop where
 fl:f.length=r.ai.length
 fi:∀(i:Nat) (x:Int) (g:Gl),f[i]?=some x→r.ai[i]?=some g→eo x g.bI
 cl:cs.length=r.samples.length
 ci:∀(i:Nat) (x:Int) (s:bV),cs[i]?=some x→r.samples[i]?=some s→eo x s
def nN(r:Ro)(f cs:List Int)(s:Sg):Prop:=eo (cs.getD s.aJ.toNat 0) (gv s.found (bQ r f s.cZ.toNat s.year))
theorem pG{r:Ro}{f cs:List Int}:∀(ss:List Sg) (g:List bV),(∀s∈ss,nN r f cs s)→(∀(i:Nat) (x:Int) (s:bV),cs[i]?=some x→g[i]?=some s→eo x s)→
  ∀(i:Nat) (x:Int) (s:bV),cs[i]?=some x→(ss.foldl (fun g s=>g.modify s.aJ.toNat fun x=>dj x (gv s.found (bQ r f s.cZ.toNat s.year))) g)[i]?=some s→eo x s
 | [],_,_,hg=>hg
 | p::ps,g,hp,hg=>by
  rw[List.foldl_cons];refine pG ps _ (fun q hq=>hp q (List.mem_cons_of_mem _ hq)) fun i x s hx hs=>?_;rw[List.getElem?_modify] at hs;obtain⟨s0,h0,hs⟩:=Option.map_eq_some_iff.1 (show Option.map _ g[i]?=some s from hs);have h1:=hg i x s0 hx h0;subst hs
  by_cases e:p.aJ.toNat=i
  ·rw[if_pos e];have h2:=hp p List.mem_cons_self;unfold nN at h2;rw[e,List.getD_eq_getElem?_getD,hx,Option.getD_some] at h2;exact Nv h1 h2
  ·rw[if_neg e];exact h1
theorem fR(r:Ro)(f:List Int)(ss:List Sg):(aI r f ss).length=r.samples.length:=by
 unfold aI;generalize r.samples=g
 induction ss generalizing g with
 | nil=>rfl
 | cons p ps ih=>rw[List.foldl_cons,ih,List.length_modify]
theorem pU{r:Ro}{f cs:List Int}{ss:List Sg}(ht:Dv r f cs)(hp:∀s∈ss,nN r f cs s):(f,aI r f ss)∈aT r ss:=by
 unfold aT;refine List.mem_filter.2 ⟨List.mem_map.2 ⟨f,Ch ht.fl ht.fi,rfl⟩,?_⟩;have:0<bz (aI r f ss):=CU fun n hn=>by
  obtain⟨s,hs,rfl⟩:=List.mem_map.1 hn;obtain⟨i,hi⟩:=List.mem_iff_getElem?.1 hs;have hl:=(List.getElem?_eq_some_iff.1 hi).1;rw[fR,←ht.cl] at hl;have:=pG ss r.samples hp ht.ci i cs[i] s (List.getElem?_eq_getElem hl) hi;unfold eo at this;unfold bR;omega
 exact decide_eq_true this
theorem w6{l:List Int}(h:0<gG l)(h0:∀x∈l,0≤x):∀x∈l,0<x:=by
 have z:∀l:List Int,l.foldl (· * ·) (0:Int)=0:=fun l=>by
  induction l with
  | nil=>rfl
  | cons x l ih=>rw[List.foldl_cons,Int.zero_mul,ih]
 have key:∀(l:List Int) (a:Int),0<l.foldl (· * ·) a→(∀x∈l,0≤x)→∀x∈l,0<x:=by
  intro l
  induction l with
  | nil=>exact fun _ _ _ x hx=>by cases hx
  | cons y l ih=>
   intro a ha hn x hx;rw[List.foldl_cons] at ha;rcases List.mem_cons.1 hx with rfl | hx
   ·have h1:=hn x List.mem_cons_self;rcases Int.lt_or_eq_of_le h1 with h2 | h2
    ·exact h2
    ·rw[←h2,Int.mul_zero,z] at ha;exact absurd ha (by decide)
   ·exact ih _ ha (fun w hw=>hn w (List.mem_cons_of_mem _ hw)) x hx
 exact key l 1 h h0
theorem qP{r:Ro}{f:List Int}:∀(ts:List Sg) (g:List bV) {i:Nat} {s':bV},(ts.foldl (fun g s=>g.modify s.aJ.toNat fun x=>dj x (gv s.found (bQ r f s.cZ.toNat s.year))) g)[i]?=some s'→
  ∃s,g[i]?=some s∧∀x,eo x s'→eo x s∧∀t∈ts,t.aJ.toNat=i→eo x (gv t.found (bQ r f t.cZ.toNat t.year))
 | [],_,_,s',h=>⟨s',h,fun x hx=>⟨hx,fun t ht=>by cases ht⟩⟩
 | p::ts,g,i,s',h=>by
  rw[List.foldl_cons] at h;obtain⟨s1,h1,h2⟩:=qP ts _ h;rw[List.getElem?_modify] at h1;obtain⟨s0,h0,h1⟩:=Option.map_eq_some_iff.1 (show Option.map _ g[i]?=some s1 from h1);refine⟨s0,h0,fun x hx=>?_⟩;obtain⟨h3,h4⟩:=h2 x hx;subst h1
  by_cases e:p.aJ.toNat=i
  ·rw[if_pos e] at h3;unfold eo dj at h3;dsimp only at h3;refine⟨by unfold eo;omega,fun t ht he=>?_⟩;rcases List.mem_cons.1 ht with rfl | ht
   ·unfold eo;omega
   ·exact h4 t ht he
  ·rw[if_neg e] at h3;refine⟨h3,fun t ht he=>?_⟩;rcases List.mem_cons.1 ht with rfl | ht
   ·exact absurd he e
   ·exact h4 t ht he
def jz(r:Ro)(f:List Int)(c year:Int)(gl:List Nat):List Int:=gl.map fun n=>eJ c (bQ r f n year)
def C4(r:Ro)(aJ:Nat)(year:Int)(gl:List Nat):Prop:=
 ∀x∈aT r r.ak,∀y∈aT r r.ak,∀c d:Int,eo c (x.2.getD aJ ⟨0,0⟩)→eo d (y.2.getD aJ ⟨0,0⟩)→jz r x.1 c year gl=jz r y.1 d year gl→bT r c=bT r d
def gx(r:Ro)(f:List Int)(c:Int)(aJ:Nat)(year:Int)(gl:List Nat):List Sg:=gl.map fun(n:Nat)=>(⟨aJ,n,year,eJ c (bQ r f n year)⟩:Sg)
theorem yT(c g:Int):eJ c g=0∨eJ c g=1∨eJ c g=2:=by unfold eJ;split <;> (try split) <;> simp
theorem AF{r:Ro}{f cs:List Int}{aJ:Nat}{year:Int}{gl:List Nat}(ht:Dv r f cs)(hp:∀s∈r.ak,nN r f cs s)(hs:aJ<r.samples.length)(h:C4 r aJ year gl)
  {x:List Int×List bV}(hx:x∈aT r (r.ak++gx r f (cs.getD aJ 0) aJ year gl)){c:Int}(hc:eo c (x.2.getD aJ ⟨0,0⟩)):bT r c=bT r (cs.getD aJ 0):=by
 obtain⟨h1,h2⟩:=List.mem_filter.1 hx;obtain⟨f',n9,rfl⟩:=List.mem_map.1 h1;dsimp only at hc h2;have h2:0<bz (aI r f' (r.ak++gx r f (cs.getD aJ 0) aJ year gl)):=of_decide_eq_true h2;obtain⟨s',hg⟩:∃s',(aI r f' (r.ak++gx r f (cs.getD aJ 0) aJ year gl))[aJ]?=some s':=⟨_,List.getElem?_eq_getElem (by rw[fR];exact hs)⟩;rw[List.getD_eq_getElem?_getD,hg,Option.getD_some] at hc;unfold aI at hg;rw[List.foldl_append] at hg;obtain⟨s0,h3,h4⟩:=qP (r:=r) (f:=f') (gx r f (cs.getD aJ 0) aJ year gl) (aI r f' r.ak) hg;obtain⟨h5,h6⟩:=h4 c hc;have hk:(f',aI r f' r.ak)∈aT r r.ak:=by
  refine List.mem_filter.2 ⟨List.mem_map.2 ⟨f',n9,rfl⟩,?_⟩;have:0<bz (aI r f' r.ak):=CU fun n hn=>by
   obtain⟨s,yz,rfl⟩:=List.mem_map.1 hn;obtain⟨i,hi⟩:=List.mem_iff_getElem?.1 yz;have fB:=(List.getElem?_eq_some_iff.1 hi).1;rw[fR] at fB;obtain⟨s2,tK⟩:∃s2,(aI r f' (r.ak++gx r f (cs.getD aJ 0) aJ year gl))[i]?=some s2:=⟨_,List.getElem?_eq_getElem (by rw[fR];exact fB)⟩;have El:=w6 h2 (fun y hy=>by obtain⟨z,_,rfl⟩:=List.mem_map.1 hy;unfold bR;omega) (bR s2) (List.mem_map.2 ⟨s2,List.mem_of_getElem? tK,rfl⟩);unfold aI at tK;rw[List.foldl_append] at tK;obtain⟨s3,h7,h8⟩:=qP (r:=r) (f:=f') (gx r f (cs.getD aJ 0) aJ year gl) (aI r f' r.ak) tK;rw[hi] at h7;cases h7;have:=(h8 s2.lo (by unfold bR at El;unfold eo;omega)).1;unfold eo at this;unfold bR;omega
  exact decide_eq_true this
 have hT:=pU ht hp;have jR:aJ<cs.length:=by rw[ht.cl];exact hs
 have iN:aJ<(aI r f r.ak).length:=by rw[fR];exact hs
 refine h _ hk _ hT c (cs.getD aJ 0) ?_ ?_ ?_
 ·dsimp only;rw[List.getD_eq_getElem?_getD,h3,Option.getD_some];exact h5
 ·dsimp only;rw[List.getD_eq_getElem?_getD (l:=cs),List.getElem?_eq_getElem jR,Option.getD_some,List.getD_eq_getElem?_getD (l:=aI r f r.ak),List.getElem?_eq_getElem iN,Option.getD_some];exact pG r.ak r.samples hp ht.ci aJ _ _ (List.getElem?_eq_getElem jR) (List.getElem?_eq_getElem iN)
 ·unfold jz;refine List.map_congr_left fun n hn=>?_;exact Vj (yT _ _) (h6 ⟨aJ,n,year,eJ (cs.getD aJ 0) (bQ r f n year)⟩ (List.mem_map.2 ⟨n,hn,rfl⟩) (Int.toNat_natCast _))
theorem js:∀{l:List Gl} {f:List Int},f∈aS l→f.length=l.length∧∀(i:Nat) (x:Int),f[i]?=some x→∃g,l[i]?=some g∧eo x g.bI
 | [],f,h=>by
  obtain rfl:=List.mem_singleton.1 h;exact⟨rfl,fun i x hx=>by simp at hx⟩
 | g::l,f,h=>by
  unfold aS at h;obtain⟨t,ht,h2⟩:=List.mem_flatMap.1 h;obtain⟨x,hx,rfl⟩:=List.mem_map.1 h2;obtain⟨h3,h4⟩:=js ht;refine⟨by simp[h3],fun i y hy=>?_⟩;cases i with
  | zero=>
   obtain rfl:x=y:=by simpa using hy
   refine⟨g,rfl,?_⟩;unfold fI at hx;obtain⟨n,hn,rfl⟩:=List.mem_map.1 hx;have:=List.mem_range.1 hn;unfold eo;omega
  | succ i=>exact h4 i y (by simpa using hy)
theorem pE:∀l:List Gl,(aS l).Nodup
 | []=>by simp[aS]
 | g::l=>by
  unfold aS List.Nodup;rw[List.pairwise_flatMap];refine⟨fun t _=>?_,(pE l).imp fun{a c} h x hx y hy e=>?_⟩
  ·rw[List.pairwise_map];exact(EX g.bI).imp fun h e=>h (List.cons.inj e).1
  ·obtain⟨p,_,rfl⟩:=List.mem_map.1 hx;obtain⟨q,_,rfl⟩:=List.mem_map.1 hy;exact h (List.cons.inj e).2
theorem JR{s:bV}(h:0≤s.lo∧s.lo≤s.hi∧s.hi≤3):(fI s).length≤4:=by
 unfold fI;rw[List.length_map,List.length_range];omega
theorem pD:∀{l:List Gl},(∀g∈l,0≤g.bI.lo∧g.bI.lo≤g.bI.hi∧g.bI.hi≤3)→(aS l).length≤4 ^ l.length
 | [],_=>by simp[aS]
 | g::l,h=>by
  have h1:=pD (l:=l) fun x hx=>h x (List.mem_cons_of_mem _ hx);have h2:=JR (h g List.mem_cons_self);unfold aS;rw[List.length_flatMap];simp only[List.length_map];rw[List.map_const',List.sum_replicate_nat,List.length_cons,Nat.pow_succ];exact Nat.mul_le_mul h1 h2
def eM:List Gl→List Int→List Int
 | g::l,x::f=>if x+1≤g.bI.hi then(x+1)::f else g.bI.lo::eM l f
 | _,_=>[]
def dp(l:List Gl):List Int:=l.map (·.bI.lo)
def KU(l:List Gl):List Int:=l.map (·.bI.hi)
theorem Aa:∀l:List Gl,eM l (KU l)=dp l
 | []=>rfl
 | g::l=>by
  show(if g.bI.hi+1≤g.bI.hi then _ else g.bI.lo::eM l (KU l))=g.bI.lo::dp l;rw[if_neg (by omega),Aa l]
inductive r9(nx:List Int→List Int):List (List Int)→Prop
 | nil:r9 nx []
 | one (a:List Int):r9 nx [a]
 | cons (a b:List Int) (l:List (List Int)):b=nx a→r9 nx (b::l)→r9 nx (a::b::l)
theorem r9.get{nx:List Int→List Int}:∀{l:List (List Int)},r9 nx l→∀(k:Nat) (a b:List Int),l[k]?=some a→l[k+1]?=some b→b=nx a
 | _,.nil,k,a,b,h,_=>by simp at h
 | _,.one _,k,a,b,_,h=>by cases k <;> simp at h
 | _,.cons x y l h1 h2,0,a,b,ha,hb=>by
  simp at ha hb;subst ha hb;exact h1
 | _,.cons x y l h1 h2,k+1,a,b,ha,hb=>h2.get k a b (by simpa using ha) (by simpa using hb)
theorem r9.app{nx:List Int→List Int}:∀{l m:List (List Int)},r9 nx l→r9 nx m→(∀a b,l.getLast?=some a→m.head?=some b→b=nx a)→r9 nx (l++m)
 | [],m,_,hm,_=>hm
 | [a],[],_,_,_=>.one a
 | [a],b::m,_,hm,h=>.cons a b m (h a b rfl rfl) hm
 | a::b::l,m,.cons _ _ _ h1 h2,hm,h=>.cons a b (l++m) h1 (r9.app h2 hm fun x y hx hy=>h x y (by rw[List.getLast?_cons_cons];exact hx) hy)
theorem zC:∀{l:List Gl},(∀g∈l,g.bI.lo≤g.bI.hi)→r9 (eM l) (aS l)∧(aS l).head?=some (dp l)∧(aS l).getLast?=some (KU l)
 | [],_=>⟨.one [],rfl,rfl⟩
 | g::l,h=>by
  obtain⟨h1,h2,h3⟩:=zC (l:=l) fun x hx=>h x (List.mem_cons_of_mem _ hx);have hg:=h g List.mem_cons_self;obtain⟨m,hm⟩:∃m:Nat,(g.bI.hi - g.bI.lo+1).toNat=m+1:=⟨(g.bI.hi - g.bI.lo).toNat,by omega⟩;have hs:fI g.bI=(List.range (m+1)).map fun(n:Nat)=>g.bI.lo+n:=by unfold fI;rw[hm]
  -- one block
  have blk:∀(t:List Int) (j:Nat),j≤m→r9 (eM (g::l)) (((List.range (j+1)).map fun(n:Nat)=>g.bI.lo+n).map (·::t))∧(((List.range (j+1)).map fun(n:Nat)=>g.bI.lo+n).map (·::t)).getLast?=some ((g.bI.lo+(j:Int))::t):=by
   intro t j
   induction j with
   | zero=>intro _;exact⟨.one _,by simp⟩
   | succ j ih=>
    intro hj;obtain⟨i1,i2⟩:=ih (by omega);rw[List.range_succ,List.map_append,List.map_append];refine⟨i1.app (.one _) fun a b ha hb=>?_,by simp⟩;rw[i2] at ha;simp at ha hb;subst ha hb;show _=if g.bI.lo+(j:Int)+1≤g.bI.hi then _ else _;rw[if_pos (by omega)]
    congr 1;omega
  have hd:∀t:List Int,((fI g.bI).map (·::t)).head?=some (g.bI.lo::t):=fun t=>by
   rw[hs,List.range_succ_eq_map];simp
  have all:∀ts:List (List Int),r9 (eM l) ts→r9 (eM (g::l)) (ts.flatMap fun t=>(fI g.bI).map (·::t))∧(ts.flatMap fun t=>(fI g.bI).map (·::t)).head?=ts.head?.map (g.bI.lo::·)∧(ts.flatMap fun t=>(fI g.bI).map (·::t)).getLast?=ts.getLast?.map (g.bI.hi::·):=by
   intro ts
   induction ts with
   | nil=>intro _;exact⟨.nil,rfl,rfl⟩
   | cons t ts ih=>
    intro hc;have hb:=blk t m (Nat.le_refl _);rw[←hs] at hb;have he:g.bI.lo+(m:Int)=g.bI.hi:=by omega
    rw[he] at hb;have aY:((fI g.bI).map (·::t))≠[]:=fun e=>by have:=hd t;rw[e] at this;cases this
    rw[List.flatMap_cons];have nk:r9 (eM l) ts:=by
     cases hc with
     | one=>exact .nil
     | cons _ _ _ _ h=>exact h
    obtain⟨j1,j2,j3⟩:=ih nk;refine⟨hb.1.app j1 fun a b ha eR=>?_,?_,?_⟩
    ·rw[hb.2] at ha;rw[j2] at eR;cases hc with
     | one=>cases eR
     | cons _ t2 l2 h _=>
      simp at ha eR;subst ha eR;show _=if g.bI.hi+1≤g.bI.hi then _ else _;rw[if_neg (by omega),h]
    ·rw[List.head?_append,hd];rfl
    ·cases ts with
     | nil=>simp only[List.flatMap_nil,List.append_nil];rw[hb.2];rfl
     | cons t2 ts=>
      rw[List.getLast?_append,j3,List.getLast?_cons_cons];cases hx:(t2::ts).getLast? with
      | none=>simp at hx
      | some y=>rfl
  obtain⟨k1,k2,k3⟩:=all _ h1;refine⟨by unfold aS;exact k1,?_,?_⟩
  ·unfold aS;rw[k2,h2];rfl
  ·unfold aS;rw[k3,h3];rfl
structure zb(r:Ro)(s:Sg):Prop where
 s0:0≤s.aJ
 s1:s.aJ<r.samples.length
 g0:0≤s.cZ
 g1:s.cZ<r.ai.length
 y0:0≤s.year
 y1:s.year≤60
 fd:s.found=0∨s.found=1∨s.found=2
structure gj(r:Ro):Prop where
 g1:1≤r.ai.length
 g4:r.ai.length≤4
 gl:∀g∈r.ai,0≤g.made∧g.made≤60∧0≤g.cS∧g.cS≤40∧0≤g.bI.lo∧g.bI.lo≤g.bI.hi∧g.bI.hi≤3
 t1:1≤r.steps.length
 t3:r.steps.length≤3
 st:∀n∈r.steps,1≤n∧n≤40
 d1:r.aA.length=r.steps.length+1
 du:∀n∈r.aA,0≤n∧n≤99
 p1:1≤r.samples.length
 p2:r.samples.length≤2
 sp:∀s∈r.samples,0≤s.lo∧s.lo≤s.hi∧s.hi≤40
 s8:r.ak.length≤8
 si:∀s∈r.ak,zb r s
 OY:r.steps.Pairwise (·<·)
theorem vn{n lo hi:Int}(h:bq n lo hi=true):lo≤n∧n≤hi:=by unfold bq at h;simpa using h
theorem xf{n m:Int}(h:bA n 1 m=0):1≤n∧n≤m:=by
 unfold bA at h
 split at h
 ·cases h
 ·split at h
  ·cases h
  ·omega
theorem Hu{s:bV}{m:Int}(h:eE s m=0):0≤s.lo∧s.lo≤s.hi∧s.hi≤m:=by
 unfold eE at h
 split at h
 ·cases h
 ·rename_i h1
  split at h
  ·cases h
  ·rename_i h2;simp[bq] at h1;omega
theorem AU{m:Int}:∀{l:List bV},fq m l=0→∀s∈l,0≤s.lo∧s.lo≤s.hi∧s.hi≤m
 | [],_,s,hs=>by cases hs
 | x::l,h,s,hs=>by
  unfold fq at h
  split at h
  ·contradiction
  ·rename_i h1;rcases List.mem_cons.1 hs with rfl | hs
   ·exact Hu (by simpa using h1)
   ·exact AU h s hs
theorem Iy{g:Gl}(h:ix g=0):0≤g.made∧g.made≤60∧0≤g.cS∧g.cS≤40∧0≤g.bI.lo∧g.bI.lo≤g.bI.hi∧g.bI.hi≤3:=by
 unfold ix at h
 split at h
 ·cases h
 ·rename_i h1;have:=Hu h;simp[bq] at h1;omega
theorem uV:∀{l:List Gl},c8 l=0→∀g∈l,ix g=0
 | [],_,g,hg=>by cases hg
 | x::l,h,g,hg=>by
  unfold c8 at h
  split at h
  ·contradiction
  ·rename_i h1;rcases List.mem_cons.1 hg with rfl | hg
   ·simpa using h1
   ·exact uV h g hg
theorem AX:∀{l:List Int} {p:Option Int},df p l=0→∀n∈l,1≤n∧n≤40
 | [],_,_,n,hn=>by cases hn
 | x::l,p,h,n,hn=>by
  have key:bq x 1 40=true∧df (some x) l=0:=by
   cases hx:bq x 1 40 with
   | false=>cases p <;> simp[df,hx] at h
   | true=>
    refine⟨rfl,?_⟩;cases p with
    | none=>simpa [df,hx] using h
    | some q=>
     by_cases hq:x≤q
     ·simp[df,hx,hq] at h
     ·simpa [df,hx,hq] using h
  rcases List.mem_cons.1 hn with rfl | hn
  ·exact vn key.1
  ·exact AX key.2 n hn
theorem xX:∀{l:List Int} {p:Option Int},df p l=0→(∀q,p=some q→∀n∈l,q<n)∧l.Pairwise (·<·)
 | [],_,_=>⟨fun _ _ n hn=>(by cases hn),List.Pairwise.nil⟩
 | x::l,p,h=>by
  have key:(∀q,p=some q→q<x)∧df (some x) l=0:=by
   cases hx:bq x 1 40 with
   | false=>cases p <;> simp[df,hx] at h
   | true=>
    cases p with
    | none=>exact⟨fun q e=>(by cases e),by simpa [df,hx] using h⟩
    | some q=>
     by_cases hq:x≤q
     ·simp[df,hx,hq] at h
     ·exact⟨fun q' e=>(by obtain rfl:=Option.some.inj e;omega),by simpa [df,hx,hq] using h⟩
  obtain⟨h1,h2⟩:=xX key.2;refine⟨fun q e n hn=>?_,List.pairwise_cons.2 ⟨fun n hn=>h1 x rfl n hn,h2⟩⟩;rcases List.mem_cons.1 hn with rfl | hn
  ·exact key.1 q e
  ·exact Int.lt_trans (key.1 q e) (h1 x rfl n hn)
theorem C8{r:Ro}{s:Sg}(h:de r s=0):zb r s:=by
 unfold de at h
 split at h
 ·cases h
 ·rename_i h1
  split at h
  ·cases h
  ·rename_i h2
   split at h
   ·cases h
   ·split at h
    ·cases h
    ·rename_i h4;simp[bq] at h1 h2 h4;exact⟨by omega,by omega,by omega,by omega,by omega,by omega,by omega⟩
theorem AL{r:Ro}:∀{l:List Sg},ib r l=0→∀s∈l,de r s=0
 | [],_,s,hs=>by cases hs
 | x::l,h,s,hs=>by
  unfold ib at h
  split at h
  ·contradiction
  ·rename_i h1;rcases List.mem_cons.1 hs with rfl | hs
   ·simpa using h1
   ·exact AL h s hs
theorem Sq{r:Ro}(h:dK r=0):gj r:=by
 unfold dK at h
 split at h
 ·contradiction
 rename_i h1
 split at h
 ·contradiction
 rename_i h2
 split at h
 ·contradiction
 rename_i h3
 split at h
 ·contradiction
 rename_i h4
 split at h
 ·cases h
 rename_i h5
 split at h
 ·cases h
 rename_i h6
 split at h
 ·contradiction
 rename_i h7
 split at h
 ·cases h
 rename_i h8;have a1:=xf (by simpa using h1:bA r.ai.length 1 4=0);have a3:=xf (by simpa using h3:bA r.steps.length 1 3=0);have a7:dq r.samples 2 40=0:=by simpa using h7
 have a5:r.aA.length=r.steps.length+1:=by simpa using h5
 unfold dq at a7
 split at a7
 ·contradiction
 rename_i h9;have a9:=xf (by simpa using h9:bA r.samples.length 1 2=0);refine⟨by omega,by omega,fun g hg=>Iy (uV (by simpa using h2) g hg),by omega,by omega,AX (by simpa using h4),a5,fun n hn=>?_,by omega,by omega,AU a7,by omega,fun s hs=>C8 (AL h s hs),(xX (by simpa using h4)).2⟩;have:(r.aA.all fun n=>bq n 0 99)=true:=by simpa using h6
 exact vn (List.all_eq_true.1 this n hn)
end Go.Mz
set_option maxRecDepth 100000
namespace Go.Mz
open Go.Conc Go.Proofs
variable {X:ax Tryz.prog}
def KJ(n:Int):Value:=if n=0 then .iface 296 (.agg #[]) else if n=1 then .iface 293 (.agg #[]) else .iface 297 (.agg #[])
abbrev yD(s:bV):Value:=.agg (di s).toArray
theorem VX(g:Int)(L:LH):Sp X 318 [.agg #[],.int .i64 g] L (fun v L'=>v=yD ⟨g,g⟩∧L=L'):=by
 refine Sp.enter (n:=8) Tryz.func318 rfl rfl rfl rfl fun C hX _ aG r=>?_;refine W.go 99 rfl ?_;exact W.ret r rfl rfl ⟨rfl,rfl⟩
theorem MB(g:Int)(L:LH)(h:0≤g∧g≤1000):Sp X 319 [.agg #[],.int .i64 g] L (fun v L'=>v=yD ⟨g+1,40⟩∧L=L'):=by
 refine Sp.enter (n:=8) Tryz.func319 rfl rfl rfl rfl fun C hX _ aG r=>?_;refine W.go 99 rfl ?_;rw[wrap64_in (g+1) (by omega) (by omega)];exact W.ret r rfl rfl ⟨rfl,rfl⟩
theorem I9(g:Int)(L:LH)(h:0≤g∧g≤1000):Sp X 320 [.agg #[],.int .i64 g] L (fun v L'=>v=yD ⟨0,g - 1⟩∧L=L'):=by
 refine Sp.enter (n:=8) Tryz.func320 rfl rfl rfl rfl fun C hX _ aG r=>?_;refine W.go 99 rfl ?_;rw[wrap64_in (g - 1) (by omega) (by omega)];exact W.ret r rfl rfl ⟨rfl,rfl⟩
theorem FE{C:Cx Tryz.prog}{E:a8}{B:List (Option Bx)}{L:LH}{dst:Option Tmp}{ty:TypeId}{pos:String}{af:Array Edge}{gd:Option (Nat×Bool)}{y z:Operand}{ts:Array TypeId}(n g:Int)(h:n=0∨n=1∨n=2)(hg:0≤g∧g≤1000)(hy:aL E y=some (.v (KJ n)))(hz:aL E z=some (.v (.int .i64 g))):
  Ef C ⟨dst,.call {callee:=.invoke y "muscovado/glass.colours",args:=#[z],argTypes:=ts},ty,pos,af,gd⟩ E B L (mO B fun v L'=>v=yD (gv n g)∧L=L'):=by
 have Z1:oH E [z]=some [.int .i64 g]:=by
  unfold oH uL uL;rw[hz]
  rfl
 rcases h with rfl | rfl | rfl
 ·exact Ef.inv hy rfl Z1 (fun Q H R=>by kernel_rfl) (.inl (MB g L hg))
 ·exact Ef.inv hy rfl Z1 (fun Q H R=>by kernel_rfl) (.inl (VX g L))
 ·exact Ef.inv hy rfl Z1 (fun Q H R=>by kernel_rfl) (.inl (I9 g L hg))
theorem Iv{E:a8}{B:List (Option Bx)}{L:LH}{x:Operand}(n:Int)(h:n=0∨n=1∨n=2)(hx:aL E x=some (.f (.method "muscovado/glass.colours") [.v (KJ n)] [])):Vf Tryz.prog (.nilCheck x) E B L (.v (.func (.method "muscovado/glass.colours") #[KJ n] #[])):=by
 rcases h with rfl | rfl | rfl
 ·exact Vf.Af hx rfl rfl fun Q H R=>by kernel_rfl
 ·exact Vf.Af hx rfl rfl fun Q H R=>by kernel_rfl
 ·exact Vf.Af hx rfl rfl fun Q H R=>by kernel_rfl
theorem PN(n:Int)(L:LH)(h:n=0∨n=1∨n=2):Sp X 235 [.int .i64 n] L (fun v L'=>v=KJ n∧L=L'):=by
 rcases h with rfl | rfl | rfl
 ·refine Sp.enter (n:=12) Tryz.func235 rfl rfl rfl rfl fun C hX _ aG r=>?_;refine W.go 99 rfl ?_;refine W.vf rfl rfl rfl rfl (Vf.index (i:=0) rfl rfl rfl Tryz.underlying406 AM Dy (by decide) rfl) ?_;refine W.go 99 rfl ?_;exact W.ret r rfl rfl ⟨rfl,rfl⟩
 ·refine Sp.enter (n:=12) Tryz.func235 rfl rfl rfl rfl fun C hX _ aG r=>?_;refine W.go 99 rfl ?_;refine W.vf rfl rfl rfl rfl (Vf.index (i:=1) rfl rfl rfl Tryz.underlying406 AM Dy (by decide) rfl) ?_;refine W.go 99 rfl ?_;exact W.ret r rfl rfl ⟨rfl,rfl⟩
 ·refine Sp.enter (n:=12) Tryz.func235 rfl rfl rfl rfl fun C hX _ aG r=>?_;refine W.go 99 rfl ?_;refine W.vf rfl rfl rfl rfl (Vf.index (i:=2) rfl rfl rfl Tryz.underlying406 AM Dy (by decide) rfl) ?_;refine W.go 99 rfl ?_;exact W.ret r rfl rfl ⟨rfl,rfl⟩
theorem Ex(a b:Int):(if b>a then b else a)=max a b:=by omega
theorem Ez(a b:Int):(if b<a then b else a)=min a b:=by omega
theorem RR(a:Int):(if a>0 then a else 0)=max 0 a:=by omega
theorem Ey(a b:bV)(L:LH):Sp X 234 [yD a,yD b] L (fun v L'=>v=yD (dj a b)∧L=L'):=by
 refine Sp.enter (n:=16) Tryz.func234 rfl rfl rfl rfl fun C hX _ aG r=>?_;refine W.go 99 rfl ?_;rw[Ex,Ez];exact W.ret r rfl rfl ⟨rfl,rfl⟩
theorem mZ(s:bV)(L:LH)(h:-1000≤s.lo∧s.lo≤1000∧-1000≤s.hi∧s.hi≤1000):Sp X 236 [yD s] L (fun v L'=>v=.int .i64 (bR s)∧L=L'):=by
 refine Sp.enter (n:=10) Tryz.func236 rfl rfl rfl rfl fun C hX _ aG r=>?_;refine W.go 99 rfl ?_;rw[wrap64_in (s.hi - s.lo) (by omega) (by omega),wrap64_in (s.hi - s.lo+1) (by omega) (by omega),RR];exact W.ret r rfl rfl ⟨rfl,rfl⟩
def fb(f:List Int):List Int:=[f.getD 0 0,f.getD 1 0,f.getD 2 0,f.getD 3 0]
structure Fq(X:ax Tryz.prog)(L:LH)(b:Nat)(r:Ro)(p:BP):Prop where
 h0:Rd X L ⟨b,0,none⟩ (.slice p.a0 r.ai.length p.c0)
 h3:Rd X L ⟨b,3,none⟩ (.slice p.a3 r.samples.length p.c3)
theorem Fq.le{X:ax Tryz.prog}{L L':LH}{b:Nat}{r:Ro}{p:BP}(h:Fq X L b r p)(hl:Le L L'):Fq X L' b r p:=⟨h.h0.le hl,h.h3.le hl⟩
theorem BZ{ro:Ro}{p:BP}{b:Nat}(f:List Int)(i:Nat)(y:Int)(L:LH)(hr:gj ro)(hd:Fq X L b ro p)(cA:aX L p.a0 4 eY ro.ai)(hf:∀i,0≤f.getD i 0∧f.getD i 0≤3)(hi:i<ro.ai.length)(hy:0≤y∧y≤60):
  Sp X 123 [pt b,.agg ((fb f).map (Value.int .i64)).toArray,.int .i64 i,.int .i64 y] L (fun v L'=>v=.int .i64 (bQ ro f i y)∧L=L'):=by
 have h4:=hr.g4;obtain⟨a0,a1,a2,a3,a4,k0,k1,k2,k3,k4⟩:=p;obtain⟨a,ha⟩:=cA.addr hi;obtain rfl:a0=some a:=ha;have zQ:=cA.whole (List.getElem?_eq_getElem hi) rfl;have hg:=hr.gl _ (List.getElem_mem hi);have IM:=hf i;have jU:ro.ai.getD i ⟨0,0,⟨0,0⟩⟩=ro.ai[i]:=by rw[List.getD_eq_getElem?_getD,List.getElem?_eq_getElem hi];rfl
 generalize Zm:ro.ai[i]=g at zQ hg jU;have e1:IntKind.i64.wrap (y - g.made)=y - g.made:=wrap64_in _ (by omega) (by omega);have hb:-1000≤f.getD i 0 * (y - g.made)∧f.getD i 0 * (y - g.made)≤1000:=by
  have h1:f.getD i 0=0∨f.getD i 0=1∨f.getD i 0=2∨f.getD i 0=3:=by omega
  rcases h1 with e | e | e | e <;> rw[e] <;> omega
 have e2:IntKind.i64.wrap (f.getD i 0 * (y - g.made))=f.getD i 0 * (y - g.made):=wrap64_in _ (by omega) (by omega);have e3:IntKind.i64.wrap (g.cS - f.getD i 0 * (y - g.made))=g.cS - f.getD i 0 * (y - g.made):=wrap64_in _ (by omega) (by omega);have e4:bQ ro f i y=max 0 (g.cS - f.getD i 0 * (y - g.made)):=by unfold bQ;rw[jU]
 have bW:nth (eK (.v (.agg ((fb f).map (Value.int .i64)).toArray))) (0+i * 1)=some (.v (.int .i64 (f.getD i 0))):=by
  match i,(show i<4 by omega) with
  | 0,_=>rfl
  | 1,_=>rfl
  | 2,_=>rfl
  | 3,_=>rfl
 refine Sp.enter (n:=30) Tryz.func123 rfl rfl rfl rfl fun C hX _ aG r=>?_;refine W.go 99 rfl ?_;refine W.rd (by rw[hX];exact hd.h0) r.ro rfl rfl rfl rfl rfl rfl ?_;refine W.go 99 rfl ?_;refine W.vf rfl rfl rfl rfl (Vf.idx rfl rfl rfl rfl rfl rfl hi) ?_;refine W.go 99 rfl ?_;refine W.vf rfl rfl rfl rfl (Vf.cO rfl rfl rfl (zQ)) ?_;refine W.go 99 rfl ?_;refine W.drawn (by kernel_rfl) _ (Le.refl _) ?_;refine DD.run' [0,1,2] rfl ?_;refine DD.vf 3 rfl rfl rfl rfl rfl (Vf.oX rfl rfl rfl rfl rfl rfl ((show i<4 by omega))) ?_;refine DD.vf 4 rfl rfl rfl rfl rfl (Vf.zW rfl rfl rfl rfl (bW)) ?_;refine DD.run' [5,6,7,8,9,10,11,12] rfl ?_;refine .fin rfl ?_;refine W.go 99 rfl ?_;rw[e1,e2,e3,RR,←e4];exact W.ret r rfl rfl ⟨rfl,rfl⟩
end Go.Mz
