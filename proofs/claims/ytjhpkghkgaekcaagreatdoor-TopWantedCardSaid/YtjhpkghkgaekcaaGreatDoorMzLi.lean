/- Lemmas for the claim. -/
import Derived.Test.YtjhpkghkgaekcaaGreatDoorMzLh
import Derived.Conc.WgGenN3
set_option linter.defProp false
set_option maxRecDepth 100000
namespace Go.Mz
open Go.Conc
variable {P:aV}{α:Type}{n k m:Nat}{L R J:LH}{t e:bh}{w u:World}{h:α->List Value}{c:Int}{B:aX}{x:aW}{Y:Trace}{l:aH}{r:List α}{s:Sw}{q:aU}{Q:bC}{E:cK}{j:aR}{D:bt}{d:bA}{F:Env}{g:aT}{o:bD}{C:bH}{N:Nm}{K:bI}{z:SV}{I:cj}{H:ck}{X:aM Proofs.Tryz.prog}
section
open Go.ConcN Go.Proofs
open Go.ConcR (KK wgBlock WgAt stA smA rd wr mk)
abbrev lnk:Go.Conc.Lib.WgLink:={add:=151,done:=153,wait:=155,relMerge:=189,disable:=190,enable:=191,inBubble:=192,associate:=193,fatal:=194,uOr:=195,uAdd:=196,raceRead:=197,uLoad:=198,uStore:=199,disassociate:=200,semrelease:=201,acquire:=202,isAssociated:=203,uCas:=204,raceWrite:=205,semacquire:=206,orU64:=227,addU64:=228,loadU64:=229,storeU64:=230,casU64:=231,tWgP:=331,tUP:=266,tAssoc:=333,tWg:=284,tAU:=282,tU64:=94,tUint:=180,tU32:=225,tPU32:=337,tPAU:=383,tPU64:=385,tNoCopy:=224,tANoCopy:=279,tAlign64:=280}
def Xm:Go.Conc.Lib.WgLib Tryz.prog lnk:=
 ⟨Tryz.func151,Tryz.func153,Tryz.func155,Tryz.func189,Tryz.func190,Tryz.func191,Tryz.func192,Tryz.func193,Tryz.func194,Tryz.func195,Tryz.func196,Tryz.func197,Tryz.func198,Tryz.func199,Tryz.func200,Tryz.func201,Tryz.func202,Tryz.func203,Tryz.func204,Tryz.func205,Tryz.func206,Tryz.func227,Tryz.func228,Tryz.func229,Tryz.func230,Tryz.func231,Tryz.underlying331,Tryz.runUnderlying331,Tryz.sizeOf331,Tryz.isAgg331,Tryz.zeroValue331,Tryz.underlying266,Tryz.runUnderlying266,Tryz.sizeOf266,Tryz.isAgg266,Tryz.zeroValue266,Tryz.underlying333,Tryz.runUnderlying333,Tryz.sizeOf333,Tryz.isAgg333,Tryz.zeroValue333,Tryz.underlying284,Tryz.runUnderlying284,Tryz.sizeOf284,Tryz.isAgg284,Tryz.zeroValue284,Tryz.underlying282,Tryz.runUnderlying282,Tryz.sizeOf282,Tryz.isAgg282,Tryz.zeroValue282,Tryz.underlying94,Tryz.runUnderlying94,Tryz.sizeOf94,Tryz.isAgg94,Tryz.zeroValue94,Tryz.underlying180,Tryz.runUnderlying180,Tryz.sizeOf180,Tryz.isAgg180,Tryz.zeroValue180,Tryz.underlying225,Tryz.runUnderlying225,Tryz.sizeOf225,Tryz.isAgg225,Tryz.zeroValue225,Tryz.underlying337,Tryz.runUnderlying337,Tryz.sizeOf337,Tryz.isAgg337,Tryz.zeroValue337,Tryz.underlying383,Tryz.runUnderlying383,Tryz.sizeOf383,Tryz.isAgg383,Tryz.zeroValue383,Tryz.underlying385,Tryz.runUnderlying385,Tryz.sizeOf385,Tryz.isAgg385,Tryz.zeroValue385,Tryz.underlying0,Tryz.runUnderlying0,Tryz.sizeOf0,Tryz.isAgg0,Tryz.zeroValue0,Tryz.underlying3,Tryz.runUnderlying3,Tryz.sizeOf3,Tryz.isAgg3,Tryz.zeroValue3,Tryz.underlying4,Tryz.runUnderlying4,Tryz.sizeOf4,Tryz.isAgg4,Tryz.zeroValue4,Tryz.underlying9,Tryz.runUnderlying9,Tryz.sizeOf9,Tryz.isAgg9,Tryz.zeroValue9,Tryz.underlying20,Tryz.runUnderlying20,Tryz.sizeOf20,Tryz.isAgg20,Tryz.zeroValue20,Tryz.underlying21,Tryz.runUnderlying21,Tryz.sizeOf21,Tryz.isAgg21,Tryz.zeroValue21,aN,aN⟩
open Extern in
def ajA:Array Value->Sem Value:=λ_=>do mark .disable;pure Race.none_
open Extern in
def ajB:Array Value->Sem Value:=λ_=>do mark .enable;pure Race.none_
open Extern in
def ajD:Array Value->Sem Value:=Race.marked .read
open Extern in
def ajE:Array Value->Sem Value:=Race.marked .acquire
open Extern in
def ajF:Array Value->Sem Value:=Race.marked .write
open Extern in
def ajH:Array Value->Sem Value:=Atomic.update (Op.intArith .add) .u64 true
open Extern in
def ajI:Array Value->Sem Value:=Atomic.loadT (.int .u64)
open Extern in
def ajJ:Array Value->Sem Value:=Atomic.casT (.int .u64)
open Extern in
def ajG:Array Value->Sem Value:=Sync.semacquire
def ajC:Array Value->Sem Value:=λ_=>pure false
def ae1:Ext Tryz.prog 192 Tryz.f192 ajC:=⟨Tryz.func192,aN,rfl,aN,aN⟩
def jc:Ext Tryz.prog 190 Tryz.f190 ajA:=⟨Tryz.func190,aN,rfl,aN,aN⟩
def dK:Ext Tryz.prog 191 Tryz.f191 ajB:=⟨Tryz.func191,aN,rfl,aN,aN⟩
def DW:Ext Tryz.prog 197 Tryz.f197 ajD:=⟨Tryz.func197,aN,rfl,aN,aN⟩
def jd:Ext Tryz.prog 202 Tryz.f202 ajE:=⟨Tryz.func202,aN,rfl,aN,aN⟩
def DX:Ext Tryz.prog 205 Tryz.f205 ajF:=⟨Tryz.func205,aN,rfl,aN,aN⟩
def DY:Ext Tryz.prog 228 Tryz.f228 ajH:=⟨Tryz.func228,aN,rfl,aN,aN⟩
def lQ:Ext Tryz.prog 229 Tryz.f229 ajI:=⟨Tryz.func229,aN,rfl,aN,aN⟩
def rC:Ext Tryz.prog 231 Tryz.f231 ajJ:=⟨Tryz.func231,aN,rfl,aN,aN⟩
def rB:Ext Tryz.prog 206 Tryz.f206 ajG:=⟨Tryz.func206,aN,rfl,aN,aN⟩
abbrev mT(a:Addr):Value:=.pointer (some a)
structure Xr(Φ:World->Prop)(W:Nat)(S1 S2 S3 S4 S5:Goroutine->LH->Prop):Prop where
 h1:∀g g' L,g.status=.running->(∀w,stepG Tryz.prog true g w=.go g' w #[mk .disable])->Way Tryz.prog true Φ S2 g' L->S1 g L
 h2:∀g L,g.status=.running->(∀v:Nat,v<2147483647->∃g',(∀w,WgAt 284 W w ((v:Int) *KK) 0->stepG Tryz.prog true g w=.go g' (w.setCell (stA W) (.int .u64 (((v:Int)+1) *KK))) #[rd (stA W),wr (stA W)])/\
  (Way Tryz.prog true Φ S3 g' L\/Way Tryz.prog true Φ S4 g' L))->S2 g L
 h3:∀g g' L,g.status=.running->(∀w,stepG Tryz.prog true g w=.go g' w #[mk (.read (smA W))])->Way Tryz.prog true Φ S4 g' L->S3 g L
 h4:∀g g' L,g.status=.running->(∀w,stepG Tryz.prog true g w=.go g' w #[mk .enable])->Way Tryz.prog true Φ S5 g' L->S4 g L
def afo(v:Nat)(g:v<2147483647):IntKind.u64.wrap ((v:Int) *KK+4294967296)=((v:Int)+1) *KK:=by
 rw[IntKind.wrap_u64];simp[KK];omega
def ad8{Φ:iF}{i l b f s:cg}(H:Xr Φ k i l b f s)(L:LH):pL (iY Tryz.prog true Φ l) 196 [mT (stA k),.int .u64 4294967296] L
  (λY v x=>∃m:Nat,m<2147483647/\v=.int .u64 (((m:Int)+1) *KK)/\x=L/\(m=0->Y=iY Tryz.prog true Φ b)/\(m≠0->Y=iY Tryz.prog true Φ f)):=by
 refine pL.enter Tryz.func196 O O O O λC j _ d r=>?_;let o:C.kd≠.early:=lZ
 refine .g O (W.atom j r.ro O O O O λT R g fin q t y I a z c=>?_);refine H.h2 _ _ z λv p=>⟨fin (.int .u64 (((v:Int)+1) *KK)),λw u=>?_,?_⟩
 .rw[I,a];exact(stepG_add_atomic y t o O DY.func DY.name DY.body DY.next .u64 DY.find (q _ _ _ O O) (q _ _ _ O O) u.cellSt (u.thaw 0)).trans (by rw[afo v p];rfl)
 .by_cases e:v=0
  .refine .inl (c (iY Tryz.prog true Φ b) _ (.g O ?_));exact W.mO (r.to _) (.inr ⟨_,rfl⟩) O O ⟨v,p,rfl,rfl,λ_=>rfl,λh=>ar e h⟩
  .refine .inr (c (iY Tryz.prog true Φ f) _ (.g O ?_));exact W.mO (r.to _) (.inr ⟨_,rfl⟩) O O ⟨v,p,rfl,rfl,λh=>ar h e,λ_=>rfl⟩
def XC{Φ:iF}{y l b g p:cg}(q:∀w,Φ w->WgLive 284 k w)(H:Xr Φ k y l b g p)(L:LH):pL (iY Tryz.prog true Φ y) 151 [mT (stA k),.int .i64 1] L
  (λY v s=>Y=iY Tryz.prog true Φ p/\v=.tuple #[]/\s=L):=by
 refine pL.enter Tryz.func151 O O O O λC j _ d r=>?_;have o:C.kd≠.early:=lZ
 refine .K O (.g O (W.zV .disable U jc.func jc.name jc.body jc.next jc.find j r.ro o H.h1 O O O ?_));refine .g O (W.HR r.ro O O O ?_);refine .v O (Ef.ext O (pK.pure ae1 λ_ _ _=>rfl)) ?_;rintro _ _ _ ⟨_,rfl,rfl,rfl,rfl⟩;refine .K O (.g O ?_);refine W.oF (args:=[mT (stA k),.int .u64 4294967296]) O O O O (ad8 H L) ?_;rintro Y v _ ⟨m,I,rfl,rfl,i,c⟩;obtain⟨aA,f⟩:∃aA:Int,aA=(m:Int)+1:=⟨_,rfl⟩;obtain⟨S,a⟩:∃S:Int,S=aA *KK:=⟨_,rfl⟩;rw[<-f,<-a];have a1:S.fdiv (2 ^ min 32 IntKind.u64.bits)=aA:=by
  have e:((2:Int) ^ min 32 IntKind.u64.bits)=4294967296:=V
  rw[e,Int.fdiv_eq_ediv_of_nonneg _ V,a];simp only[KK];omega
 have x:IntKind.u64.wrap ((BitVec.ofInt IntKind.u64.bits S&&& BitVec.ofInt IntKind.u64.bits 2147483648).toNat:Int)=0:=by
  have:bits .and .u64 S 2147483648=0:=by rw[a,f];have:=Go.ConcN.st_flag (m+1) 0 M M;simpa [KK] using this
  exact this
 have h:IntKind.u64.wrap ((BitVec.ofInt IntKind.u64.bits S&&& BitVec.ofInt IntKind.u64.bits 2147483647).toNat:Int)=0:=by
  have:bits .and .u64 S 2147483647=0:=by rw[a,f];have:=Go.ConcN.st_waiters (m+1) 0 M M;simpa [KK] using this
  exact this
 have c1:IntKind.i32.wrap aA=aA:=QK
 refine .g O ?_;rw[x];refine .F O (.g O ?_);rw[h,a1];refine .T O (.g O ?_);rw[c1];refine .s O (λe=>?_) (λe=>?_)
 .have t:m=0:=by simp at e;rw[show IntKind.i32.wrap 1=1 by decide] at e;omega
  have z:=i t;subst z;refine .g O ?_;refine W.Cu rfl r.ro o Tryz.underlying337 Tryz.underlying266 aN (λw u=>let⟨_,_,u⟩:=q w u;⟨_,u.cellSm⟩) rfl rfl rfl rfl ?_;refine W.V7 (ad:=smA k) .read U DW.func DW.name DW.body DW.next DW.find O r.ro o H.h3 O O O O ?_;refine .I O (λe=>ar e bU) (λe=>(.K O (.I O (λe=>?_) (λe=>ar e bU))));refine .g O ?_;refine W.out r.ro (.inr .ret) ?_;refine WM.zV .enable U dK.func dK.name dK.body dK.next dK.find O r.ro H.h4 ?_;exact WM.mO (r.to _) O O ⟨rfl,rfl,rfl⟩
 .have t:m≠0:=λt=>by subst t;rw[f] at e;revert e;decide
  have z:=c t;subst z;refine .I O (λe=>ar e bU) (λe=>(.K O (.I O (λe=>?_) (λe=>ar e bU))));refine .g O ?_;refine W.out r.ro (.inr .ret) ?_;refine WM.zV .enable U dK.func dK.name dK.body dK.next dK.find O r.ro H.h4 ?_;exact WM.mO (r.to _) O O ⟨rfl,rfl,rfl⟩
structure yL(mn:Bool)(Φ:World->Prop)(W:Nat)(Sd Sl:Goroutine->LH->Prop)(Sc:Nat->Goroutine->LH->Prop)(Ss Sm S4 Se Sa:Goroutine->LH->Prop)(Yx:aM Tryz.prog)(An:Goroutine->LH->Prop):Prop where
 h1:∀g g' L,g.status=.running->(∀w,stepG Tryz.prog mn g w=.go g' w #[mk .disable])->Way Tryz.prog mn Φ Sl g' L->Sd g L
 h2:∀g L,g.status=.running->(∃g',(∀w,WgAt 284 W w 0 0->stepG Tryz.prog mn g w=.go g' w #[rd (stA W)])/\Way Tryz.prog mn Φ Se g' L)->
  (∀v:Nat,0<v->v<2147483648->∃g',(∀w,WgAt 284 W w ((v:Int) *KK) 0->stepG Tryz.prog mn g w=.go g' w #[rd (stA W)])/\Way Tryz.prog mn Φ (Sc v) g' L)->Sl g L
 h3:∀(vs:Nat) g L,g.status=.running->(∃g',(∀w,WgAt 284 W w ((vs:Int) *KK) 0->stepG Tryz.prog mn g w=.go g' (w.setCell (stA W) (.int .u64 ((vs:Int) *KK+1))) #[rd (stA W),wr (stA W)])/\Way Tryz.prog mn Φ Ss g' L)->
  (∃g',(∀w (v:Nat),v≠vs->v<2147483648->WgAt 284 W w ((v:Int) *KK) 0->stepG Tryz.prog mn g w=.go g' w #[rd (stA W)])/\Way Tryz.prog mn Φ An g' L)->Sc vs g L
 h4:∀g g' L,g.status=.running->(∀w,stepG Tryz.prog mn g w=.go g' w #[mk (.write (smA W))])->Way Tryz.prog mn Φ Sm g' L->Ss g L
 h5:∀g L,g.status=.running->g.offers=none->(∀w st,WgAt 284 W w st 0->stepG Tryz.prog mn g w=.go {g with status:=.blocked} w #[])->
  (∃g',(∀w,WgAt 284 W w 0 1->stepG Tryz.prog mn g w=.go g' (w.setCell (smA W) (.int .u32 0)) (semEvents (smA W)))/\Way Tryz.prog mn Φ S4 g' L)->Sm g L
 h6:∀g L,g.status=.running->(∃g',(∀w,WgAt 284 W w 0 0->stepG Tryz.prog mn g w=.go g' w #[rd (stA W)])/\Way Tryz.prog mn Φ Se g' L)->S4 g L
 h7:∀g g' L,g.status=.running->(∀w,stepG Tryz.prog mn g w=.go g' w #[mk .enable])->Way Tryz.prog mn Φ Sa g' L->Se g L
 h8:∀g g' L,g.status=.running->(∀w,stepG Tryz.prog mn g w=.go g' w #[mk (.acquire (stA W))])->Yx.Go g' L->Sa g L
abbrev LW(mn:Bool)(Φ:World->Prop)(S:Goroutine->LH->Prop):aM Tryz.prog:=iY Tryz.prog mn Φ S
def aaW{s:Bool}{Φ:iF}{z h:cg}{p:Gm}{J l K b D:cg}{i:cg}(H:yL s Φ k z h p J l K b D X i)(L:LH):pL (LW s Φ h) 198 [mT (stA k)] L
  (λY v F=>F=L/\((v=.int .u64 0/\Y=LW s Φ b)\/∃m:Nat,0<m/\m<2147483648/\v=.int .u64 ((m:Int) *KK)/\Y=LW s Φ (p m))):=by
 refine pL.enter Tryz.func198 O O O O λC j _ d r=>?_;let o:C.kd≠.early:=lZ
 refine .g O (W.atom j r.ro O O O O λT R g fin q f t I a y c=>?_);refine H.h2 _ _ y ⟨fin (.int .u64 0),λw u=>?_,?_⟩ λv x G=>⟨fin (.int .u64 ((v:Int) *KK)),λw u=>?_,?_⟩
 .rw[I,a];exact stepG_load_atomic t f o O lQ.func lQ.name lQ.body lQ.next .u64 lQ.find (q _ _ _ O O) u.cellSt
 .refine c (LW s Φ b) _ (.g O ?_);exact W.mO (r.to _) (.inr ⟨_,rfl⟩) O O ⟨rfl,.inl ⟨rfl,rfl⟩⟩
 .rw[I,a];exact stepG_load_atomic t f o O lQ.func lQ.name lQ.body lQ.next .u64 lQ.find (q _ _ _ O O) u.cellSt
 .refine c (LW s Φ (p v)) _ (.g O ?_);exact W.mO (r.to _) (.inr ⟨_,rfl⟩) O O ⟨rfl,.inr ⟨v,x,G,rfl,rfl⟩⟩
def Xj{s:Bool}{Φ:iF}{z b:cg}{x:Gm}{h l p f I:cg}{i:cg}(H:yL s Φ k z b x h l p f I X i)(L:LH):pL (LW s Φ p) 198 [mT (stA k)] L
  (λY v J=>J=L/\v=.int .u64 0/\Y=LW s Φ f):=by
 refine pL.enter Tryz.func198 O O O O λC j _ d r=>?_;let o:C.kd≠.early:=lZ
 refine .g O (W.atom j r.ro O O O O λT R g fin t m y K a q c=>?_);refine H.h6 _ _ q ⟨fin (.int .u64 0),λw u=>?_,?_⟩
 .rw[K,a];exact stepG_load_atomic y m o O lQ.func lQ.name lQ.body lQ.next .u64 lQ.find (t _ _ _ O O) u.cellSt
 .refine c (LW s Φ f) _ (.g O ?_);exact W.mO (r.to _) (.inr ⟨_,rfl⟩) O O ⟨rfl,rfl,rfl⟩
def ad9{s:Bool}{Φ:iF}{z I:cg}{b:Gm}{p l J K D:cg}{i:cg}(H:yL s Φ k z I b p l J K D X i)(m:Nat)(x:0<m)(Q:m<2147483648)(L:LH):pL (LW s Φ (b m)) 204 [mT (stA k),.int .u64 ((m:Int) *KK),.int .u64 ((m:Int) *KK+1)] L
  (λY v F=>F=L/\((v=true/\Y=LW s Φ p)\/(v=false/\Y=LW s Φ i))):=by
 refine pL.enter Tryz.func204 O O O O λC j _ d r=>?_;have o:C.kd≠.early:=lZ
 refine .g O (W.atom j r.ro O O O O λT R g fin c f t h a y q=>?_);refine H.h3 m _ _ y ⟨fin true,λw u=>?_,?_⟩ ⟨fin false,λw v G S u=>?_,?_⟩
 .rw[h,a];exact stepG_cas_hit t f o O rC.func rC.name rC.body rC.next .u64 rC.find (c _ _ _ O O) (c _ _ _ O O) (c _ _ _ O O) u.cellSt (u.thaw 0)
 .refine q (LW s Φ p) _ (.g O ?_);exact W.mO (r.to _) (.inr ⟨_,rfl⟩) O O ⟨rfl,.inl ⟨rfl,rfl⟩⟩
 .rw[h,a];exact stepG_cas_miss t f o O rC.func rC.name rC.body rC.next .u64 rC.find (c _ _ _ O O) (c _ _ _ O O) (c _ _ _ O O) u.cellSt (u.thaw 0) (by simp[KK];omega)
 .refine q (LW s Φ i) _ (.g O ?_);exact W.mO (r.to _) (.inr ⟨_,rfl⟩) O O ⟨rfl,.inr ⟨rfl,rfl⟩⟩
noncomputable def wtC:Code:=match Tryz.f155.body with | some (.seq _ (.block _ (.loop c)))=>c | _=>.skip
noncomputable def wtK:List Item:=[.inLoop wtC,.inBlock 0]
def Rl(mn:Bool)(Φ:iF)(W0:Nat)(Yx:aM Tryz.prog)(g:aT)(R:LH):Prop:=
 ∃(T:aK) (kd:dW) (c:Frame) (cs:dX),T.size=84/\T.getD 0 undef=mT (stA W0)/\(kd=.normal\/kd=.wrapped)/\g=G (Fr 155 T wtK [] .run kd none) (c::cs)/\∀R',Le R R'->Yx.Go (G (c.finish (.tuple #[])) cs) R'
abbrev Vh(mn:Bool)(Φ:World->Prop)(Yx:aM Tryz.prog)(L:LH):aM Tryz.prog->Value->LH->Prop:=λY v L'=>Y=Yx/\v=.tuple #[]/\L'=L
def Hy{s:Bool}{Φ:iF}{z E:cg}{Sc:Gm}{Ss Sm S4 Se Sa:cg}{j:aM Tryz.prog}(t:∀w,Φ w->WgLive 284 k w)(H:yL s Φ k z E Sc Ss Sm S4 Se Sa j (Rl s Φ k j)){C:Cx Tryz.prog}(hX:C.X=LW s Φ E)(hf:C.f=155)(hL:C.L0=L)(r:Cd C Tryz.f155 (Vh s Φ j L)):W C 84 [] (.code wtC::wtK) [(0,mT (stA k))] [] L:=by
 let o:C.kd≠.early:=lZ
 refine .g O (W.oF O O O O (by rw[hX];exact aaW H L) ?_);rintro Y v L' ⟨rfl,⟨rfl,rfl⟩ | ⟨m,Q,hm,rfl,rfl⟩⟩
 .refine .N O (.g O ?_);refine W.zV .enable U dK.func dK.name dK.body dK.next dK.find O r.ro o H.h7 O O O ?_;refine .g O ?_;refine W.Cu rfl r.ro o Tryz.underlying331 Tryz.underlying266 aN (λw u=>let⟨_,_,u⟩:=t w u;⟨_,u.cellSt⟩) rfl rfl rfl rfl ?_;refine W.X6 .acquire U jd.func jd.name jd.body jd.next jd.find O r.ro o H.h8 O O O O ?_;refine .N O (.K O (.g O ?_));exact W.mO (r.to _) (.inr ⟨_,rfl⟩) O O ⟨rfl,rfl,rfl⟩
 .let S:((2:Int) ^ min 32 IntKind.u64.bits)=4294967296:=by decide
  let a1:((m:Int) *KK).fdiv (2 ^ min 32 IntKind.u64.bits)=m:=by
   rw[S,Int.fdiv_eq_ediv_of_nonneg _ V];simp only[KK];omega
  let c1:IntKind.i32.wrap (m:Int)=m:=QK
  let b1:IntKind.u64.wrap ((BitVec.ofInt IntKind.u64.bits ((m:Int) *KK)&&& BitVec.ofInt IntKind.u64.bits 2147483648).toNat:Int)=0:=by
   have:bits .and .u64 ((m:Int) *KK) 2147483648=0:=by have:=Go.ConcN.st_flag m 0 M M;simpa [KK] using this
   exact this
  let b2:IntKind.u64.wrap ((BitVec.ofInt IntKind.u64.bits ((m:Int) *KK)&&& BitVec.ofInt IntKind.u64.bits 2147483647).toNat:Int)=0:=by
   have:bits .and .u64 ((m:Int) *KK) 2147483647=0:=by have:=Go.ConcN.st_waiters m 0 M M;simpa [KK] using this
   exact this
  let w1:IntKind.u64.wrap ((m:Int) *KK+1)=(m:Int) *KK+1:=by rw[IntKind.wrap_u64];simp only[KK];omega
  refine .g O ?_;rw[a1,c1,b2];refine .s O (λe=>ar e bU) (λe=>?_);refine .g O ?_;rw[w1];refine W.oF O O O O (ad9 H m Q hm L') ?_;rintro Y v _ ⟨rfl,⟨rfl,rfl⟩ | ⟨rfl,rfl⟩⟩
  .refine .N O (.N O (.g O ?_));refine W.Cu rfl r.ro o Tryz.underlying337 Tryz.underlying266 aN (λw u=>let⟨_,_,u⟩:=t w u;⟨_,u.cellSm⟩) rfl rfl rfl rfl ?_;refine W.V7 (ad:=smA k) .write U DX.func DX.name DX.body DX.next DX.find O r.ro o H.h4 O O O O ?_;refine .g O ?_;rw[b1];refine .F O (.g O ?_);refine W.atom O r.ro O O O O λT R g fin p I J B a K D=>?_;refine H.h5 _ _ K (by rw[B];rfl) (λw st u=>?_) ⟨fin (.tuple #[]),λw u=>?_,?_⟩
   .rw[B];exact stepG_semacquire_wait (ad:=smA k) J I O rB.func rB.name rB.body rB.next rB.find (by let d:=p (.tmp 70) _ _ O O;simp[d];rfl) u.cellSm
   .rw[B,a];exact stepG_semacquire (ad:=smA k) (n:=1) J I o O rB.func rB.name rB.body rB.next rB.find (by let d:=p (.tmp 70) _ _ O O;simp[d];rfl) u.cellSm V (u.thaw 1)
   .refine D (LW s Φ S4) _ ?_;refine .g O ?_;refine W.oF O O O O (Xj H _) ?_;rintro Y v _ ⟨rfl,rfl,rfl⟩;refine .g O ?_;refine W.zV .enable U dK.func dK.name dK.body dK.next dK.find O r.ro o H.h7 O O O ?_;refine .g O ?_;refine W.Cu rfl r.ro o Tryz.underlying331 Tryz.underlying266 aN (λw u=>let⟨_,_,u⟩:=t w u;⟨_,u.cellSt⟩) rfl rfl rfl rfl ?_;refine W.X6 .acquire U jd.func jd.name jd.body jd.next jd.find O r.ro o H.h8 O O O O ?_;refine .K O (.g O ?_);exact W.mO (r.to _) (.inr ⟨_,rfl⟩) O O ⟨rfl,rfl,rfl⟩
  .refine .K O (.g O ?_);refine W.stop O λT R β hT hE F=>?_;obtain⟨_,y,hk,c,i,h,q⟩:=r;refine⟨T,C.kd,c,i,hT,?_,hk,?_,λR' l=>q j _ R' _ ⟨rfl,rfl,rfl⟩ ⟨F.post.le.trans l,λb x g1 g2=>l _ _ (F.post.keep b x g1 g2),F.post.fresh,F.post.jZ⟩⟩
   .exact(bR (hE 0 _ O)).symm
   .show G (Fr C.f T _ [] .run C.kd C.ro) C.cs=_;rw[hf,y,h]
def RY{t:Bool}{Φ:iF}{z m:cg}{y:Gm}{p l I J K:cg}(o:∀w,Φ w->WgLive 284 n w)(H:yL t Φ n z m y p l I J K X (Rl t Φ n X)):∀g L,Rl t Φ n X g L->Way Tryz.prog t Φ m g L:=by
 rintro _ R ⟨T,kd,c,i,D,F,f,rfl,G⟩;let r:Cd (⟨LW t Φ m,155,kd,none,c::i,R,R⟩:Cx Tryz.prog) Tryz.f155 (Vh t Φ X R):=⟨Tryz.func155,rfl,f,c,i,rfl,by
  rintro Y v Q W ⟨rfl,rfl,rfl⟩ a;exact G Q a.le⟩
 let j:=Hy o H rfl rfl rfl r T R fe D (λs x u=>by
  rw[dO] at u
  split at u
  .rename_i e;subst e;cases u;exact aJ some F.symm
  .cases u) ⟨(λ_ _ _ h=>by cases h),(λ_ _ h=>by cases h),(λ_ _ h=>by cases h),(λk b x f=>by cases f),Le.refl _,(λb x q S=>ar (q.symm.trans S) U),λb d=>.inl d,λb d=>d⟩
 exact(LW t Φ m).inLoop j
def UH{q:Bool}{Φ:iF}{z c:cg}{t:Gm}{m l g y p:cg}(o:∀w,Φ w->WgLive 284 k w)(H:yL q Φ k z c t m l g y p X (Rl q Φ k X))(L:LH):pL (LW q Φ z) 155 [mT (stA k)] L (Vh q Φ X L):=by
 refine pL.enter Tryz.func155 O O O O λC b a d r=>?_;have i:C.kd≠.early:=lZ
 refine .g O (W.zV .disable U jc.func jc.name jc.body jc.next jc.find b r.ro i H.h1 O O O ?_);refine .g O λT R β h I J=>?_;have j:=Hy o H (C:=C.to (LW q Φ c)) (L:=L) rfl a d (r.to _);have f:bS fe (get [(0,SV.v (mT (stA k)))]) T:=λs x u=>by
  rw[dO] at u
  split at u
  .rename_i e;subst e;cases u;exact I 0 _ O
  .cases u
 exact(LW q Φ c).loop (j T R β h (f.mono (PZ β)) J)
end
end Go.Mz
