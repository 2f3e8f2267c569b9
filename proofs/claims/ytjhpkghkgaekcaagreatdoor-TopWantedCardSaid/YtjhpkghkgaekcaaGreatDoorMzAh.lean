/- Lemmas for the claim. -/
import Derived.Test.YtjhpkghkgaekcaaGreatDoorMzAf
import Derived.Laws.Strings
set_option linter.defProp false
set_option maxRecDepth 100000
namespace Go.Mz
open Go.Conc
variable {P:aV}{α:Type}{X:aM P}{n k m:Nat}{L R J:LH}{t e:bh}{w u:World}{h:α->List Value}{c:Int}{B:aX}{x:aW}{Y:Trace}{l:aH}{r:List α}{q:aU}{Q:bC}{E:cK}{j:aR}{D:bt}{d:bA}{F:Env}{g:aT}{o:bD}{N:Nm}{K:bI}{z:SV}{I:cj}{H:ck}
def vM(β:Nm)(B:aX)(R:LH):Prop:=
 ∀(k b:Nat) (x:Bx),β k=some b->B[k]?=x->∃cs,cW β x.cells=some cs/\R b=some (.cells cs.toArray x.ty (0,0),true)
def bJ.boxes{q:LH}(h:bJ J q N B L R):vM N B R:=λk b x f u=>(h.box k b x f u).2.2
def pQ(P:aV)(β:Nm)(op:Op)(T:aK)(R:LH)(sv:SV):Prop:=∃v,den β sv=some v/\∀ty,cE P op ty T R v
def Ex(E:cK)(x:aW):Option SV:=bZ E x
def T2{T:aK}(u:bS N E T)(h:Ex E x=some z):pQ P N (.move x) T R z:=⟨_,u.val h,λ_=>cE.move rfl⟩
def My{T:aK}(u:bS N E T)(h:Ex E x=some z):pQ P N (.assign x) T R z:=⟨_,u.val h,λ_=>cE.assign rfl⟩
def KG(E:cK)(c a b:aW):Option SV:=match bZ E c with
 | some (.lit true)=>bZ E a
 | some (.lit false)=>bZ E b
 | _=>none
def T3{T:aK}(u:bS N E T){a b:aW}(h:KG E x a b=some z):pQ P N (.pick x a b) T R z:=by
 unfold KG at h
 split at h
 .rename_i q;have:=u.val q;exact⟨_,u.val h,λ_=>cE.ahM (bR this).symm rfl⟩
 .rename_i q;have:=u.val q;exact⟨_,u.val h,λ_=>cE.ahL (bR this).symm rfl⟩
 .cases h
def sH{v:Value}(h:den N (.p k n)=v):∃b,N k=some b/\v=.pointer (some ⟨b,n,none⟩):=by
 unfold den at h;cases f:N k with
 | none=>rw[f] at h;cases h
 | some b=>rw[f] at h;cases h;exact⟨b,rfl,rfl⟩
def uQ(τ:TT)(E:cK)(B:aX)(t:bh)(x:aW):Option SV:=match bZ E x with
 | some (.p k off)=>
  match nth B k,τ.find t with
  | some (some bx),some ti=>
   match ti.agg with
   | true=>match part bx.cells off ti.size with | some l=>some (.a l) | none=>none
   | false=>nth bx.cells off
  | _,_=>none
 | _=>none
theorem Al{τ:TT}{T:aK}(f:τ.Ok P)(e:bS N E T)(d:vM N B R)(h:uQ τ E B t x=z):pQ P N (.load t x) T R z:=by
 unfold uQ at h
 split at h
 ·rename_i k off u;let⟨b,I,g⟩:=sH (e.val u)
  split at h
  .rename_i J K y s;let o:=TT.bj f s;let⟨D,r,w⟩:=d k b J I (by rwa[<-dF])
   split at h
   .rename_i j
    split at h
    .rename_i l a;cases h;let⟨n,q,m⟩:=Cw r a;refine⟨.agg n.toArray,by unfold den;rw[q],λp=>cE.JH (by rw[o.agg,j]) o.size g ⟨?_,λi v c=>?_⟩⟩
     .rw[lO q,xG a]
     .rw[bM];exact aF w (by rw[gq];exact m i v c)
    .cases h
   .rename_i j;let⟨v,q,m⟩:=Ft r h;exact⟨v,q,λp=>cE.acX (by rw[o.agg,j]) g (aF w (by rwa[gq]))⟩
  .cases h
 .cases h
def ahd{d:Go.Fn}{u l:gn}{v:Value}(h:den N (.f d u l)=v):∃c g,cW N u=some c/\cW N l=some g/\v=.func d c.toArray g.toArray:=by
 unfold den at h;cases q:cW N u with
 | none=>rw[q] at h;cases h
 | some a=>
  cases z:cW N l with
  | none=>rw[q,z] at h;cases h
  | some b=>rw[q,z] at h;cases h;exact⟨a,b,rfl,rfl,rfl⟩
def Qh(E:cK)(x:aW):Option SV:=match bZ E x with
 | some (.p k off)=>some (.p k off)
 | some (.v (.pointer (some a)))=>a
 | some (.f (.func g) f1 f2)=>some (.f (.func g) f1 f2)
 | some (.v (.func (.func g) f1 f2))=>some (.v (.func (.func g) f1 f2))
 | some (.v (.func (.yield g) f1 f2))=>some (.v (.func (.yield g) f1 f2))
 | some (.v (.iface t v))=>some (.v (.iface t v))
 | _=>none
def WK{T:aK}(q:bS N E T)(h:Qh E x=z):pQ P N (.nilCheck x) T R z:=by
 unfold Qh at h
 split at h <;> first | cases h;done | skip
 .rename_i u;cases h;let⟨b,d,g⟩:=sH (q.val u);exact⟨_,by rw[<-g];exact q.val u,λ_=>cE.JZ g⟩
 .rename_i u;cases h;exact⟨_,q.val u,λ_=>by have:=bR (q.val u);rw[<-this];exact cE.JZ this.symm⟩
 .rename_i u;cases h;let⟨i,f,_,_,g⟩:=ahd (q.val u);exact⟨_,by rw[<-g];exact q.val u,λ_=>cE.JY g⟩
 .rename_i u;cases h;exact⟨_,q.val u,λ_=>by have:=bR (q.val u);rw[<-this];exact cE.JY this.symm⟩
 .rename_i u;cases h;exact⟨_,q.val u,λ_=>by have:=bR (q.val u);rw[<-this];exact cE.Wj this.symm⟩
 .rename_i t v u;cases h;refine⟨_,q.val u,λ_=>?_⟩;have:=bR (q.val u);rw[<-this];intro w s l o Q H c;simp[execOp,<-this];exact c
def kEq:IntKind->IntKind->Bool
 | .i8,.i8 | .i16,.i16 | .i32,.i32 | .i64,.i64 | .u8,.u8 | .u16,.u16 | .u32,.u32 | .u64,.u64=>true
 | _,_=>false
def X2{k v:fE}(h:kEq k v=true):k=v:=by cases k <;> cases v <;> first | rfl | cases h
def XI(op:BinOp)(k:fE)(a b:Int):Option Value:=match op with
 | .quo | .rem=>none
 | .shl | .shr=>none
 | op=>vy op k a b
def On(op:BinOp)(k:fE)(a:Int):Int->Option Value
 | .ofNat n=>match op with
  | .shl=>some (.int k (k.wrap (a * 2 ^ min n k.bits)))
  | .shr=>some (.int k (a.fdiv (2 ^ min n k.bits)))
  | _=>none
 | _=>none
def mL:SV->Option Bool
 | .lit b=>some b
 | .v (.bool b)=>some b
 | _=>none
def GM{β:Nm}{b:Bool}(h:mL z=b):den β z=b:=by
 unfold mL at h
 split at h <;> cases h <;> rfl
def sBI(op:BinOp)(k:fE)(a:Int):SV->Option SV
 | .v (.int k' b)=>match XI op k a b with
  | some r=>match kEq k k' with | true=>some (.v r) | false=>none
  | none=>match On op k a b with | some r=>some (.v r) | none=>none
 | _=>none
def tf(op:BinOp)(c:Bool):Option SV:=match op with | .eql=>c | .neq=>↑(!c) | _=>none
def tfL(op:BinOp)(c:Bool):Option SV:=match op with | .eql=>some (.lit c) | .neq=>some (.lit (match c with | true=>false | false=>true)) | _=>none
def sBN(op:BinOp)(d:TD)(y:aW):SV->Option SV
 | .v .nilIface=>match d,y with
  | .iface,.const _=>tfL op true
  | _,_=>none
 | _=>none
def sBF(op:BinOp)(d:TD):SV->Option SV
 | .v .nilIface=>match d with
  | .iface=>tfL op false
  | _=>none
 | _=>none
def sBS(op:BinOp)(d:TD)(a:bA):SV->Option SV
 | .v (.slice none _ _)=>match d with
  | .slice _=>tf op a.isNone
  | _=>none
 | _=>none
def sBP(op:BinOp)(d:TD)(a:bA):SV->Option SV
 | .v (.pointer none)=>match d with
  | .ptr _=>tf op a.isNone
  | _=>none
 | _=>none
def sBB(op:BinOp)(d:TD)(a:Bool)(y:SV):Option SV:=match d,mL y with
 | .bool,some b=>tf op (a==b)
 | _,_=>none
def uD:List UInt8->List UInt8->Bool
 | [],[]=>true
 | a::l,b::r=>match Nat.beq a.toNat b.toNat with | true=>uD l r | false=>false
 | _,_=>false
def tC:∀(a b:ko),uD a b=(a==b)
 | [],[]=>rfl
 | [],_::_=>rfl
 | _::_,[]=>rfl
 | a::l,b::r=>by
  unfold uD;rw[List.cons_beq_cons,<-tC l r]
  by_cases h:a=b
  .subst h;simp
  .have q:(a==b)=false:=by simpa using h
   have z:Nat.beq a.toNat b.toNat=false:=by
    cases d:Nat.beq a.toNat b.toNat with
    | false=>rfl
    | true=>exact ar (UInt8.toNat_inj.1 (uq d)) h
   rw[q,z];rfl
def sBT(op:BinOp)(a:ByteArray):SV->Option SV
 | .v (.string b)=>match op with
  | .eql=>some (.v (.bool (uD a.data.toList b.data.toList)))
  | .neq=>some (.v (.bool (!uD a.data.toList b.data.toList)))
  | _=>none
 | _=>none
def TX(op:BinOp)(d:TD)(y:aW)(a b:SV):Option SV:=match a with
 | .v x=>match x with
  | .int k a=>sBI op k a b
  | .nilIface=>sBN op d y b
  | .iface _ _=>sBF op d b
  | .slice a _ _=>sBS op d a b
  | .pointer a=>sBP op d a b
  | .bool a=>sBB op d a b
  | .string a=>sBT op a b
  | _=>none
 | .lit a=>sBB op d a b
 | _=>none
def Qa(τ:TT)(E:cK)(op:BinOp)(t:bh)(x y:aW):Option SV:=match bZ E x,bZ E y,τ.find t with
 | some a,some b,some ti=>TX op ti.d y a b
 | _,_,_=>none
def zx(op:BinOp)(c:Bool):Bool:=match op with | .eql=>c | _=>!c
def cE.uD{T:aK}{y:aW}{u w:Value}{c:Bool}{k:BinOp}(q:ev T x=u)(g:ev T y=w)(v:∀(Q:x6) (H:bC),Q () R->aP P Q H (eqGuard k t x y u w) R)
  (z:∀(n:Nat) (Q:mc) (H:bC),Q c R->aP P Q H (Op.equalIn (n+1) t u w) R)
  (d:binOp k t u w=(match k with | .eql=>do pure ↑(<-Op.equal t u w) | _=>do pure ↑(!(<-Op.equal t u w))))
  {p:bh}:cE P (.binOp k t x y e) p T R (zx k (c)):=by
 intro i s l o Q H f;simp only[execOp,q,g];rw[Z,Z];refine v _ _ ?_;rw[d];cases k <;> (simp only[Z,aI];exact z 9999 _ _ f)
def acn{c:mc}{y:Q4}(u:P.underlying t=some (.interface y))(q:c true R):aP P c Q (Op.equalIn (n+1) t .nilIface .nilIface) R:=by
 rw[Op.equalIn,Z,aD u];exact q
def acm{c:mc}{y:Q4}{l:Value}(u:P.underlying t=some (.interface y))(q:c false R):aP P c Q (Op.equalIn (n+1) t (.iface e l) .nilIface) R:=by
 rw[Op.equalIn,Z,aD u];exact q
def acp{g:mc}{c q:Nat}(u:P.underlying t=some (.slice e))(v:g d.isNone R):aP P g Q (Op.equalIn (n+1) t (.slice d k m) (.slice none c q)) R:=by
 rw[Op.equalIn,Z,aD u];cases d <;> exact v
def aco{c:mc}(u:P.underlying t=some (.pointer e))(q:c d.isNone R):aP P c Q (Op.equalIn (n+1) t (.pointer d) (.pointer none)) R:=by
 rw[Op.equalIn,Z,aD u];cases d <;> exact q
def ack{c:mc}{a b:Bool}(u:P.underlying t=some .bool)(q:c (a==b) R):aP P c Q (Op.equalIn (n+1) t a b) R:=by
 rw[Op.equalIn,Z,aD u];exact q
def cE.aiO{T:aK}{k:BinOp}{y:Q4}{w:Value}(u:P.underlying t=some (.interface y))(q:ev T x=.nilIface)(g:ev T (.const w)=.nilIface)(j:k=.eql\/k=.neq){p:bh}:cE P (.binOp k t x (.const w) e) p T R (.bool (zx k (true))):=by
 rcases j with rfl | rfl
 .exact cE.uD q g (λ_ _ c=>by simp[eqGuard,Bool.or_true];exact c) (λ_ _ _ c=>acn u c) rfl
 .exact cE.uD q g (λ_ _ c=>by simp[eqGuard,Bool.or_true];exact c) (λ_ _ _ c=>acn u c) rfl
def cE.aiN{T:aK}{y:aW}{k:BinOp}{v:Q4}{z:bh}{l:Value}(u:P.underlying t=some (.interface v))(q:ev T x=.iface z l)(g:ev T y=.nilIface)(j:k=.eql\/k=.neq){p:bh}:cE P (.binOp k t x y e) p T R (.bool (zx k (false))):=by
 rcases j with rfl | rfl
 .exact cE.uD q g (λ_ _ c=>by exact c) (λ_ _ _ c=>acm u c) rfl
 .exact cE.uD q g (λ_ _ c=>by exact c) (λ_ _ _ c=>acm u c) rfl
def cE.aiQ{T:aK}{s:bh}{y:aW}{q:BinOp}{z:Nat}(u:P.underlying t=some (.slice e))(v:ev T x=.slice d n k)(g:ev T y=.slice none m z)(j:q=.eql\/q=.neq){p:bh}:cE P (.binOp q t x y s) p T R (.bool (zx q (d.isNone))):=by
 rcases j with rfl | rfl
 .exact cE.uD v g (λ_ _ c=>by exact c) (λ_ _ _ c=>acp u c) rfl
 .exact cE.uD v g (λ_ _ c=>by exact c) (λ_ _ _ c=>acp u c) rfl
def cE.aiP{T:aK}{s:bh}{y:aW}{k:BinOp}(u:P.underlying t=some (.pointer e))(q:ev T x=.pointer d)(g:ev T y=.pointer none)(j:k=.eql\/k=.neq){p:bh}:cE P (.binOp k t x y s) p T R (.bool (zx k (d.isNone))):=by
 rcases j with rfl | rfl
 .exact cE.uD q g (λ_ _ c=>by exact c) (λ_ _ _ c=>aco u c) rfl
 .exact cE.uD q g (λ_ _ c=>by exact c) (λ_ _ _ c=>aco u c) rfl
def cE.aiM{T:aK}{y:aW}{k:BinOp}{a b:Bool}(u:P.underlying t=some .bool)(q:ev T x=a)(g:ev T y=b)(j:k=.eql\/k=.neq){p:bh}:cE P (.binOp k t x y e) p T R (zx k (a==b)):=by
 rcases j with rfl | rfl
 .exact cE.uD q g (λ_ _ c=>by exact c) (λ_ _ _ c=>ack u c) rfl
 .exact cE.uD q g (λ_ _ c=>by exact c) (λ_ _ _ c=>ack u c) rfl
def W6{β:Nm}{k:BinOp}{c:Bool}(h:tf k c=z):(k=.eql\/k=.neq)/\den β z=zx k (c):=by
 unfold tf at h
 split at h <;> cases h
 .exact⟨.inl rfl,rfl⟩
 .exact⟨.inr rfl,rfl⟩
def YR{β:Nm}{k:BinOp}{c:Bool}(h:tfL k c=z):(k=.eql\/k=.neq)/\den β z=zx k (c):=by
 unfold tfL at h
 split at h <;> cases h
 .exact⟨.inl rfl,rfl⟩
 .exact⟨.inr rfl,by cases c <;> rfl⟩
def afK{T:aK}{d:BinOp}{t2:bh}{y:aW}{b:SV}{k:fE}(u:ev T x=.int k c)(g:den N b=ev T y)(h:sBI d k c b=z):pQ P N (.binOp d t x y t2) T R z:=by
 unfold sBI at h
 split at h
 .rename_i v b;let j:=(bR g).symm
  split at h
  .rename_i r q
   split at h
   .rename_i f;cases h;obtain rfl:=X2 f;refine⟨r,rfl,λp=>cE.bin u j ?_⟩;unfold XI at q
    split at q <;> first | cases q;done | exact q
   .cases h
  .split at h
   .rename_i r q;cases h;unfold On at q
    split at q
    .rename_i n _;let e:(Int.ofNat n).toNat=n:=rfl
     split at q
     .cases q;refine⟨_,rfl,λp=>?_⟩;have:=cE.shl (P:=P) (L:=R) (ty:=p) (t:=t) (t2:=t2) u j (Int.natCast_nonneg n);rw[e] at this;exact this
     .cases q;refine⟨_,rfl,λp=>?_⟩;have:=cE.shr (P:=P) (L:=R) (ty:=p) (t:=t) (t2:=t2) u j (Int.natCast_nonneg n);rw[e] at this;exact this
     .cases q
    .cases q
   .cases h
 .cases h
def afL{β:Nm}{T:aK}{k:BinOp}{y:aW}{b:SV}{d:TD}(a:EJ P t d)(u:ev T x=.nilIface)(g:den β b=ev T y)(h:sBN k d y b=z):pQ P β (.binOp k t x y e) T R z:=by
 unfold sBN at h
 split at h
 .have j:=(bR g).symm
  split at h
  .let⟨f,q⟩:=a;let⟨v,i⟩:=YR (β:=β) h;exact⟨_,i,λp=>cE.aiO q u j v⟩
  .cases h
 .cases h
def afJ{β:Nm}{T:aK}{k:BinOp}{y:aW}{b:SV}{d:TD}{q:bh}{l:Value}(a:EJ P t d)(u:ev T x=.iface q l)(g:den β b=ev T y)(h:sBF k d b=z):pQ P β (.binOp k t x y e) T R z:=by
 unfold sBF at h
 split at h
 .have j:=(bR g).symm
  split at h
  .let⟨o,v⟩:=a;let⟨i,f⟩:=YR (β:=β) h;exact⟨_,f,λp=>cE.aiN v u j i⟩
  .cases h
 .cases h
def afN{β:Nm}{T:aK}{q:BinOp}{y:aW}{b:SV}{g:TD}(a:EJ P t g)(u:ev T x=.slice d n k)(v:den β b=ev T y)(h:sBS q g d b=z):pQ P β (.binOp q t x y e) T R z:=by
 unfold sBS at h
 split at h
 .have j:=(bR v).symm
  split at h
  .let⟨i,f⟩:=W6 (β:=β) h;exact⟨_,f,λp=>cE.aiQ a u j i⟩
  .cases h
 .cases h
def afM{β:Nm}{T:aK}{k:BinOp}{y:aW}{b:SV}{c:TD}(a:EJ P t c)(u:ev T x=.pointer d)(g:den β b=ev T y)(h:sBP k c d b=z):pQ P β (.binOp k t x y e) T R z:=by
 unfold sBP at h
 split at h
 .have j:=(bR g).symm
  split at h
  .let⟨q,v⟩:=W6 (β:=β) h;exact⟨_,v,λp=>cE.aiP a u j q⟩
  .cases h
 .cases h
def Ys{β:Nm}{T:aK}{k:BinOp}{y:aW}{b:SV}{d:TD}{a:Bool}(q:EJ P t d)(u:ev T x=a)(g:den β b=ev T y)(h:sBB k d a b=z):pQ P β (.binOp k t x y e) T R z:=by
 unfold sBB at h
 split at h
 .rename_i o v;have j:=bR (g.symm.trans (GM v));let⟨i,f⟩:=W6 (β:=β) h;exact⟨_,f,λp=>cE.aiM q u j i⟩
 .cases h
def afO{T:aK}{k:BinOp}{y:aW}{a:ByteArray}{b:SV}(u:ev T x=.string a)(g:den N b=ev T y)(h:sBT k a b=z):pQ P N (.binOp k t x y e) T R z:=by
 unfold sBT at h
 split at h
 .rename_i q;have j:=(bR g).symm
  split at h <;> cases h
  all_goals
   refine⟨_,rfl,λp w s l o Q H c=>?_⟩;simp only[execOp,u,j];rw[Z,Z];rw[tC,<-ByteArray.toList_eq,<-ByteArray.toList_eq] at c;exact c
 .cases h
def WB{τ:TT}{T:aK}(v:τ.Ok P)(i:bS N E T){k:BinOp}{y:aW}(h:Qa τ E k t x y=some z):pQ P N (.binOp k t x y e) T R z:=by
 unfold Qa at h
 split at h
 .rename_i a b o u g f;let hd:=(TT.bj v f).d;let s:=i.val u;let n:=i.val g;unfold TX at h
  split at h
  .let q:=(bR s).symm
   split at h
   .exact afK q n h
   .exact afL hd q n h
   .exact afJ hd q n h
   .exact afN hd q n h
   .exact afM hd q n h
   .exact Ys hd q n h
   .exact afO q n h
   .cases h
  .exact Ys hd (bR s).symm n h
  .cases h
 .cases h
section
variable {P:aV}{τ:TT}{β:Nm}{E:cK}{B:aX}{T:aK}{R:LH}{g:SV}
def WN(E:cK)(op:UnOp)(x:aW):Option SV:=match op,bZ E x with
 | .not,some (.lit b)=>some (.lit (match b with | true=>false | false=>true))
 | .not,some (.v (.bool p))=>↑(!p)
 | .neg,some (.v (.int k a))=>some (.v (.int k (k.wrap (0 - a))))
 | _,_=>none
def aaC(v:bS β E T){z:UnOp}(h:WN E z x=g):pQ P β (.unOp z t x) T R g:=by
 unfold WN at h
 split at h
 .rename_i b u;cases h;let q:=(bR (v.val u)).symm;exact⟨↑(!b),by cases b <;> rfl,λd=>cE.not q⟩
 .rename_i p u;cases h;exact⟨_,rfl,λd=>cE.not (bR (v.val u)).symm⟩
 .rename_i k a u;cases h;exact⟨_,rfl,λd=>cE.neg (bR (v.val u)).symm⟩
 .cases h
def KF(τ:TT)(E:cK)(src dst:bh)(x:aW):Option SV:=match τ.find src,τ.find dst,bZ E x with
 | some _,some ti,some (.v (.int _ a))=>match ti.d with
  | .int k'=>some (.v (.int k' (k'.wrap a)))
  | _=>none
 | _,_,_=>none
def TZ(z:τ.Ok P)(i:bS β E T)(h:KF τ E t e x=some g):pQ P β (.convert t e x) T R g:=by
 unfold KF at h
 split at h
 .rename_i m c k a f o u
  split at h
  .rename_i v hd;cases h;let q:=(TT.bj z o).d;rw[hd] at q;let⟨j,p⟩:=(TT.bj z f).und;exact⟨_,rfl,λy=>cE.conv p q (bR (i.val u)).symm⟩
  .cases h
 .cases h
def Jo(τ:TT)(t:bh)(fi:Nat):Option Nat:=match τ.find t with
 | some ti=>match ti.d with
  | .str fs=>match nth fs fi with
   | some (off,ft)=>match τ.find ft with
    | some tf=>match Nat.beq tf.size 0 with | false=>off | true=>none
    | none=>none
   | none=>none
  | _=>none
 | none=>none
def SM(z:τ.Ok P)(h:Jo τ t n=k):
  ∃(s:Array Field) (v:Field) (c:Nat),P.underlying t=some (.struct s)/\s[n]?=v/\(P.info? v.type).map (·.size)=c/\c≠0/\v.offset=k:=by
 unfold Jo at h
 split at h
 .rename_i r i
  split at h
  .rename_i s hd
   split at h
   .rename_i o w y
    split at h
    .rename_i tf a
     split at h
     .rename_i p;cases h;have e:=(TT.bj z i).d;rw[hd] at e;let⟨f,m,q⟩:=e;rw[dF,<-q,im,il] at y;let⟨g,u,j⟩:=y;cases j;refine⟨f,g,tf.size,m,by rwa[<-iN],(TT.bj z a).size,(λe=>by rw[e] at p;cases p),rfl⟩
     .cases h
    .cases h
   .cases h
  .cases h
 .cases h
def Qe(τ:TT)(E:cK)(t:bh)(x:aW)(fi:Nat):Option SV:=match Jo τ t fi with
 | some o=>match bZ E x with
  | some (.p k off)=>some (.p k (off+o))
  | some (.v (.pointer (some ad)))=>(ad.add o)
  | _=>none
 | none=>none
def WG(z:τ.Ok P)(v:bS β E T)(h:Qe τ E t x n=g):pQ P β (.fieldAddr t x n) T R g:=by
 unfold Qe at h
 split at h
 ·rename_i o j;let⟨s,e,c,q,i,r,f,a⟩:=SM z j
  split at h
  .rename_i k off u;cases h;let⟨b,d,m⟩:=sH (v.val u);refine⟨.pointer (some ⟨b,off+o,none⟩),by unfold den;rw[d],λp=>cE.field q i r f m (by rw[a,bM])⟩
  .rename_i l u;cases h;exact⟨_,rfl,λp=>cE.field q i r f (bR (v.val u)).symm (by rw[a])⟩
  .cases h
 .cases h
def Qd(E:cK)(x:aW)(n:Nat):Option SV:=match bZ E x with
 | some (.v (.tuple vs))=>match nth vs.toList n with | some v=>v | none=>none
 | _=>none
def WE(z:bS β E T)(h:Qd E x n=some g):pQ P β (.extract x n) T R g:=by
 unfold Qd at h
 split at h
 .rename_i j u
  split at h
  .rename_i v q;cases h;exact⟨v,rfl,λp=>cE.extract (bR (z.val u)).symm (by rw[dF,iN] at q;exact q)⟩
  .cases h
 .cases h
def WI(E:cK)(fn:Go.Fn)(f1 f2:jk):Option SV:=match zy E f1.toList,zy E f2.toList with
 | some a,some b=>some (.f fn a b)
 | _,_=>none
theorem aaz(v:bS β E T){q:Go.Fn}{u l:jk}(h:WI E q u l=g):pQ P β (.makeFunc q u l) T R g:=by
 unfold WI at h
 split at h
 .rename_i a b d z;cases h;refine⟨.func q (u.map (ev T)) (l.map (ev T)),?_,λp=>cE.makeFunc rfl rfl⟩;unfold den;rw[v.YW d,v.YW z];simp[<-Array.toList_map]
 .cases h
def WJ(τ:TT)(E:cK)(t:bh)(x:aW):Option SV:=match τ.find t with
 | some ti=>match ti.d.Nc with
  | true=>match bZ E x with
   | some s=>match den fe s with
    | some v=>some (.v (.iface t v))
    | none=>some (.i t s)
   | none=>none
  | false=>none
 | none=>none
def aaA(z:τ.Ok P)(f:bS β E T)(h:WJ τ E t x=g):pQ P β (.makeInterface t x) T R g:=by
 unfold WJ at h
 split at h
 .rename_i o a
  split at h
  .rename_i b;let⟨d,hd,q⟩:=(TT.bj z a).Nc b
   split at h
   .rename_i s u;let i:=f.val u;refine⟨.iface t (ev T x),?_,λp=>cE.V2 hd q rfl⟩
    split at h
    .rename_i v y;cases h;have:=(fw y β).symm.trans i;cases this
     rfl
    .cases h;unfold den;rw[i]
   .cases h
  .cases h
 .cases h
def sTA(z:Value)(asserted:bh)(ok:Bool):SV->Option SV
 | .v (.iface t v)=>match Nat.beq t asserted with
  | true=>match ok with | true=>some (.v (.tuple #[v,.bool true])) | false=>some (svC v)
  | false=>match ok with | true=>some (.v (.tuple #[z,.bool false])) | false=>none
 | .v .nilIface=>match ok with | true=>some (.v (.tuple #[z,.bool false])) | false=>none
 | _=>none
def WL(τ:TT)(E:cK)(x:aW)(asserted:bh)(ok:Bool):Option SV:=match τ.find asserted with
 | some ti=>match ti.d.Nc with
  | true=>match bZ E x with
   | some s=>sTA ti.z asserted ok s
   | none=>none
  | false=>none
 | none=>none
def tc{d:TypeDesc}{e q t:bh}{v:Value}{s:Bool}{H:bC}{Q:bC}(u:P.underlying e=d)(y:∀z,d≠.interface z):
  aP P Q H (Instr.typeAssert (.iface t v) q e s) R=aP P Q H (if t=e then(pure (if s then .tuple #[v,true] else v):Sem Value) else(do if s then pure (.tuple #[<-zeroValue e,.bool false]) else runtimePanic (.typeAssertion (some q) (some t) e ""))) R:=by
 unfold Instr.typeAssert;rw[Z,aD u];cases d <;> first | exact ar rfl (y _) | rfl
def Gt{d:TypeDesc}{e t:bh}{s:Bool}{H:bC}{Q:bC}(u:P.underlying e=d)(y:∀q,d≠.interface q):
  aP P Q H (Instr.typeAssert .nilIface t e s) R=aP P Q H (do if s then pure (.tuple #[<-zeroValue e,.bool false]) else runtimePanic (.typeAssertion (some t) none e "")) R:=by
 unfold Instr.typeAssert;rw[Z,aD u];cases d <;> first | exact ar rfl (y _) | rfl
def aaB(z:τ.Ok P)(I:bS β E T){n:Bool}(h:WL τ E x e n=some g):pQ P β (.typeAssert x t e n) T R g:=by
 unfold WL at h
 split at h
 .rename_i K J
  split at h
  .rename_i b;let i:=TT.bj z J;let⟨d,hd,f⟩:=i.Nc b
   split at h
   .rename_i s u;let k:=I.val u;unfold sTA at h
    split at h
    .rename_i c v;let q:=(bR k).symm
     split at h
     .rename_i y;obtain rfl:=uq y
      split at h
      .cases h;refine⟨_,rfl,λp w a l o Q H m=>?_⟩;simp only[execOp,q];rw[Z,tc hd f];simp[if_true,aI];exact m
      .cases h;refine⟨_,Sr β v,λp w a l o Q H m=>?_⟩;simp only[execOp,q];rw[Z,tc hd f];simp[if_true,iM,if_false,aI];exact m
     .rename_i y;let r:c≠e:=λj=>by subst j;simp at y
      split at h
      .cases h;refine⟨_,rfl,λp w a l o Q H m=>?_⟩;simp only[execOp,q];rw[Z,tc hd f,A r];simp only[if_true];rw[Z,gA i.zero];exact m
      .cases h
    .let q:=(bR k).symm
     split at h
     .cases h;refine⟨_,rfl,λp w a l o Q H m=>?_⟩;simp only[execOp,q];rw[Z,Gt hd f];simp only[if_true];rw[Z,gA i.zero];exact m
     .cases h
    .cases h
   .cases h
  .cases h
 .cases h
def Ab(τ:TT):List (Nat×TypeId)->Option (List (Nat×Nat))
 | []=>some []
 | (o,t)::r=>match τ.find t,Ab τ r with
  | some ti,some l=>some ((o,ti.size)::l)
  | _,_=>none
theorem Hf(z:τ.Ok P):∀{c:List Field} {k:C6},Ab τ (c.map λg=>(g.offset,g.type))=some k->c.map (λf=>((P.info? f.type).map (·.size)).map (λn=>(f.offset,n)))=k.map some
 | [],k,h=>by cases h;rfl
 | g::c,k,h=>by
  rw[iH] at h;unfold Ab at h;cases q:τ.find g.type with
  | none=>rw[q] at h;cases h
  | some u=>
   cases v:Ab τ (c.map λg=>(g.offset,g.type)) with
   | none=>rw[q,v] at h;cases h
   | some l=>
    rw[q,v] at h;cases h;exact plc (TT.bj z q).size (Hf z v)
def ll(n size:Nat):List (Nat×Nat):=match n with
 | 0=>[]
 | n+1=>ll n size++[(n *size,size)]
def xr:∀(n z i:Nat),i<n->nth (ll n z) i=some (i *z,z)
 | 0,_,_,h=>by omega
 | n+1,z,i,h=>by
  unfold ll;rw[dF];have f:∀n,(ll n z)=n:=by
   intro n
   induction n with
   | zero=>rfl
   | succ n l=>simp[ll,l]
  by_cases e:i<n
  .rw[kS (by rwa[f]),<-dF,xr n z i e]
  .have:i=n:=by omega
   subst this;rw[lh (by rw[f];exact dA _),f];simp
def Pb(h:n<=m):nth (ll n k) m=none:=by
 rw[dF];refine mh ?_;have f:∀n,(ll n k)=n:=by
  intro n
  induction n with
  | zero=>rfl
  | succ n l=>unfold ll;simp[l]
 rwa[f]
def cE.aeE{p:bh}{s:LP}{z:Value}{pv:LQ}{f:aK}{T:aK}(q:(P.info? t).bind (·.zero)=z)(u:P.underlying t=some (.array n e))(a:(P.info? e).map (·.size)=m)
  (v:(s.map λ(i,x)=>(i,ev T x)).toList=pv)(b:Instr.fill (λi=>↑(i *m,m)) z.cells pv=f):
  cE P (.build t s) p T L (.agg f):=by
 intro w d l o Q H c;simp only[execOp];rw[Z];unfold Instr.build;rw[Z,gA q,Z,aD u];rw[Z,cQ a,v];simp[b];exact c
def FW(τ:TT)(E:cK)(t:bh)(parts:LP):Option SV:=match τ.find t with
 | some ti=>match ti.d with
  | .str fs=>match Ab τ fs,xH E parts.toList with
   | some pl,some ps=>match Cy pl (ti.z.cells.toList.map .v) ps with
    | some l=>some (.a l)
    | none=>none
   | _,_=>none
  | .arr n e=>match τ.find e,xH E parts.toList with
   | some te,some ps=>match Cy (ll n te.size) (ti.z.cells.toList.map .v) ps with
    | some l=>some (.a l)
    | none=>none
   | _,_=>none
  | _=>none
 | none=>none
def Qb(z:τ.Ok P)(I:bS β E T){s:LP}(h:FW τ E t s=g):pQ P β (.build t s) T R g:=by
 unfold FW at h
 split at h
 .rename_i H K;let v:=TT.bj z K
  split at h
  .rename_i Q hd
   split at h
   .rename_i k D m u
    split at h
    .rename_i l o;cases h;let e:=v.d;rw[hd] at e;let⟨c,p,F⟩:=e;let⟨a,j,q⟩:=Pr (place:=(k.toArray[·]?)) (λi=>by rw[dF];simp) (vC I u) (lL β _) o;refine⟨.agg a.toArray,by unfold den;rw[j],λG=>?_⟩;refine cE.build (pv:=s.toList.map λ(i,x)=>(i,ev T x)) v.zero p U (places (Hf z (by rw[F];exact m))) ?_
     simpa using q
    .cases h
   .cases h
  .rename_i n e hd
   split at h
   .rename_i b D r u
    split at h
    .rename_i l o;cases h;let J:=v.d;rw[hd] at J;let w:=TT.bj z r;obtain⟨a,j,q⟩:=rG (place:=λi=>some (i *b.size,b.size)) (λi y f=>by
      by_cases v:i<n
      .rw[xr _ _ _ v] at f;exact f
      .rw[Pb M] at f;cases f) (vC I u) (lL β _) o
     refine⟨.agg a.toArray,by unfold den;rw[j],λG=>?_⟩;refine cE.aeE (pv:=s.toList.map λ(i,x)=>(i,ev T x)) v.zero J w.size U ?_
     simpa using q
    .cases h
   .cases h
  .cases h
 .cases h
def Qf(τ:TT)(E:cK)(t:bh)(x:aW):Option SV:=match τ.find t with
 | some ti=>match ti.d with
  | .slice _=>match bZ E x with
   | some (.v (.slice _ len _))=>len
   | some (.sl _ _ len _)=>len
   | _=>none
  | .arr n _=>n
  | .text=>match bZ E x with
   | some (.v (.string s))=>s.data.toList
   | _=>none
  | _=>none
 | none=>none
def cE.acU{s:ByteArray}(u:P.underlying t=some .string)(q:ev T x=.string s):cE P (.call {callee:=.builtin .len,args:=#[x],argTypes:=#[t]}) e T R (.int .i64 s.data.toList.length):=by
 intro w v l o Q H c;simp only[execOp,resolve,oY,iH,nG,q,pure,Sem.bind,bind,invoke,builtin,Builtin.len_];simp[gq,zc];show aP P Q H ((_>>= _)>>= _) R;rwa[Z,Z,aD u]
def cE.Na{p:bh}(u:P.underlying t=some (.slice e))(q:ev T x=.slice d n k):cE P (.call {callee:=.builtin .cap,args:=#[x],argTypes:=#[t]}) p T R (.int .i64 k):=by
 intro w s l o Q H c;simp only[execOp,resolve,oY,iH,nG,q,pure,Sem.bind,bind,invoke,builtin,Builtin.cap_];simp[gq,zc];show aP P Q H ((_>>= _)>>= _) R;rwa[Z,Z,aD u]
def Qc(τ:TT)(E:cK)(t:bh)(x:aW):Option SV:=match τ.find t with
 | some ti=>match ti.d with
  | .slice _=>match bZ E x with
   | some (.v (.slice _ _ cap))=>cap
   | some (.sl _ _ _ cap)=>cap
   | _=>none
  | _=>none
 | none=>none
def WC(z:τ.Ok P)(i:bS β E T)(h:Qc τ E t x=some g):pQ P β (.call {callee:=.builtin .cap,args:=#[x],argTypes:=#[t]}) T R g:=by
 unfold Qc at h
 split at h
 .rename_i c s;let hd:=(TT.bj z s).d
  split at h
  .rename_i e o;rw[o] at hd
   split at h
   .rename_i a m v u;cases h;exact⟨_,rfl,λp=>cE.Na hd (bR (i.val u)).symm⟩
   .rename_i k off m v u;cases h;let q:=i.val u;unfold den at q;cases f:β k with
    | none=>rw[f] at q;cases q
    | some b=>rw[f] at q;exact⟨_,rfl,λp=>cE.Na hd (bR q).symm⟩
   .cases h
  .cases h
 .cases h
def WH(v:τ.Ok P)(i:bS β E T)(h:Qf τ E t x=some g):pQ P β (.call {callee:=.builtin .len,args:=#[x],argTypes:=#[t]}) T R g:=by
 unfold Qf at h
 split at h
 .rename_i j c;let hd:=(TT.bj v c).d
  split at h
  .rename_i e z;rw[z] at hd
   split at h
   .rename_i a m o u;cases h;exact⟨_,rfl,λp=>cE.NM hd (bR (i.val u)).symm⟩
   .rename_i k off m o u;cases h;let q:=i.val u;unfold den at q;cases f:β k with
    | none=>rw[f] at q;cases q
    | some b=>rw[f] at q;exact⟨_,rfl,λp=>cE.NM hd (bR q).symm⟩
   .cases h
  .rename_i n e z;rw[z] at hd;cases h;exact⟨_,rfl,λp=>cE.afr hd⟩
  .rename_i z;rw[z] at hd
   split at h
   .rename_i s u;cases h;exact⟨_,rfl,λp=>cE.acU hd (bR (i.val u)).symm⟩
   .cases h
  .cases h
 .cases h
def Qg(mx:Bool)(E:cK)(x y:aW):Option SV:=match bZ E x,bZ E y with
 | some (.v (.int k a)),some (.v (.int k' b))=>match kEq k k' with
  | true=>match mx with
   | true=>some (.v (.int k (if b>a then b else a)))
   | false=>some (.v (.int k (if b<a then b else a)))
  | false=>none
 | _,_=>none
def Oi(q:bS β E T){mx:Bool}{y:aW}{d:fX}(h:Qg mx E x y=some g):pQ P β (.call {callee:=.builtin (match mx with | true=>.max | false=>.min),args:=#[x,y],argTypes:=d}) T R g:=by
 unfold Qg at h
 split at h
 .rename_i k a v b u z
  split at h
  .rename_i f;obtain rfl:=X2 f
   split at h
   .cases h;exact⟨_,rfl,λp=>cE.max (bR (q.val u)).symm (bR (q.val z)).symm⟩
   .cases h;exact⟨_,rfl,λp=>cE.min (bR (q.val u)).symm (bR (q.val z)).symm⟩
  .cases h
 .cases h
def KE(τ:TT)(E:cK)(c:Call):Option SV:=match c.callee,c.args.toList,c.argTypes.toList with
 | .builtin .len,[x],[t]=>Qf τ E t x
 | .builtin .cap,[x],[t]=>Qc τ E t x
 | .builtin .max,[x,y],_=>Qg true E x y
 | .builtin .min,[x,y],_=>Qg false E x y
 | _,_,_=>none
def TY(z:τ.Ok P)(v:bS β E T){c:Call}(h:KE τ E c=some g):pQ P β (.call c) T R g:=by
 let⟨m,e,u⟩:=c;unfold KE at h;simp only at h
 split at h
 .rename_i x t q d;have p:e=#[x]:=by rw[<-GJ (xs:=e),q]
  have i:u=#[t]:=by rw[<-GJ (xs:=u),d]
  subst p i;exact WH z v h
 .rename_i x t q d;have p:e=#[x]:=by rw[<-GJ (xs:=e),q]
  have i:u=#[t]:=by rw[<-GJ (xs:=u),d]
  subst p i;exact WC z v h
 .rename_i _ x y q;have p:e=#[x,y]:=by rw[<-GJ (xs:=e),q]
  subst p;exact Oi (mx:=true) v h
 .rename_i _ x y q;have p:e=#[x,y]:=by rw[<-GJ (xs:=e),q]
  subst p;exact Oi (mx:=false) v h
 .cases h
def Oj(τ:TT)(E:cK)(B:aX):Op->Option SV
 | .move x=>Ex E x
 | .assign x=>Ex E x
 | .pick c a b=>KG E c a b
 | .load t x=>uQ τ E B t x
 | .nilCheck x=>Qh E x
 | .binOp op t x y _=>Qa τ E op t x y
 | .unOp op _ x=>WN E op x
 | .convert s d x=>KF τ E s d x
 | .fieldAddr t x fi=>Qe τ E t x fi
 | .extract x n=>Qd E x n
 | .makeFunc fn f1 f2=>WI E fn f1 f2
 | .makeInterface t x=>WJ τ E t x
 | .typeAssert x _ a ok=>WL τ E x a ok
 | .build t ps=>FW τ E t ps
 | .call c=>KE τ E c
 | _=>none
def KI(z:τ.Ok P)(u:bS β E T)(d:vM β B R){k:Op}(h:Oj τ E B k=some g):pQ P β k T R g:=by
 unfold Oj at h
 split at h
 .exact T2 u h
 .exact My u h
 .exact T3 u h
 .exact Al z u d h
 .exact WK u h
 .exact WB z u h
 .exact aaC u h
 .exact TZ z u h
 .exact WG z u h
 .exact WE u h
 .exact aaz u h
 .exact aaA z u h
 .exact aaB z u h
 .exact Qb z u h
 .exact TY z u h
 .cases h
def UN(len:Nat)(te:TI):List Value:=(List.range (len *te.size)).map (λi=>(if len *te.size=0 then#[] else te.z.cells)[i % (if len *te.size=0 then(#[]:Array Value) else te.z.cells).size]!)
def Oh(τ:TT)(E:cK):Op->Option (Bx×(Nat->SV))
 | .alloc t=>match τ.find t with
  | some ti=>some (⟨ti.z.cells.toList.map .v,t⟩,λk=>.p k 0)
  | none=>none
 | .box t x=>match bZ E x with
  | some s=>some (⟨cL s,t⟩,λk=>.p k 0)
  | none=>none
 | .buildSlice t len parts=>match τ.find t with
  | some ti=>match ti.d with
   | .slice e=>match τ.find e,xH E parts.toList with
    | some te,some ps=>match Nat.ble (len *te.size) 16777216,Cy (ll len te.size) ((UN len te).map .v) ps with
     | true,some l=>some (⟨l,e⟩,λk=>.sl k 0 len len)
     | _,_=>none
    | _,_=>none
   | _=>none
  | none=>none
 | _=>none
def P0{y:km}(h:nth (ll n k) m=some y):y=(m *k,k):=by
 let f:∀n,(ll n k)=n:=by
  intro n
  induction n with
  | zero=>rfl
  | succ n l=>simp[ll,l]
 let i:m<n:=by
  rw[dF] at h;have:=(eO.1 h).1;rw[f] at this;exact this
 rw[xr n k m i] at h;cases h;rfl
def TW(z:τ.Ok P)(r:bS β E T){n:Op}{x:Bx}{a:Nat->SV}(h:Oh τ E n=some (x,a)):∃w mk,cW β x.cells=some w/\(∀(γ:Nm) (k b:Nat),γ k=b->den γ (a k)=mk b)/\∀p R,Df P n p T R mk (.cells w.toArray x.ty):=by
 unfold Oh at h
 split at h
 .split at h
  .rename_i J c;cases h;exact⟨_,λb=>.pointer (some ⟨b,0,none⟩),lL β _,λγ k b f=>by unfold den;rw[f],λp R=>Df.alloc (TT.bj z c).zero U⟩
  .cases h
 .split at h
  .rename_i s K;cases h;exact⟨_,λb=>.pointer (some ⟨b,0,none⟩),zq (r.val K),λγ k b f=>by unfold den;rw[f],λp R=>Df.box rfl U⟩
  .cases h
 .rename_i t m v
  split at h
  .rename_i J c
   split at h
   .rename_i e D
    split at h
    .rename_i I W j u
     split at h
     .rename_i l q F;cases h;have G:=TT.bj z c;have o:=TT.bj z j;have hd:=G.d;rw[D] at hd;let⟨H,Q,S⟩:=rG (place:=λi=>some (i *I.size,I.size)) (λi y g=>by rw[P0 g]) (vC r u) (lL β _) F;refine⟨H,λb=>.slice (some ⟨b,0,none⟩) m m,Q,λγ k b f=>by unfold den;rw[f],λp R=>?_⟩;refine Df.buildSlice (pv:=v.toList.map λ(i,x)=>(i,ev T x)) hd o.size (qE q) o.zero U ?_;rw[<-S]
      congr 1
      unfold UN;rw[<-oY]
      congr 1
      apply Array.ext';simp
     .cases h
    .cases h
   .cases h
  .cases h
 .cases h
def KH(τ:TT)(E:cK)(B:aX):Op->Option (Nat×Bx)
 | .store t x y=>match bZ E x,bZ E y,τ.find t with
  | some (.p k off),some s,some ti=>match nth B k with
   | some (some bx)=>match Nat.beq (cL s).length ti.size,Nat.ble (off+ti.size) bx.cells.length,KP (cL s) with
    | true,true,true=>some (k,⟨BR bx.cells off (cL s),bx.ty⟩)
    | _,_,_=>none
   | _=>none
  | _,_,_=>none
 | _=>none
def T4(j:τ.Ok P)(D:bS β E T){F:LH}(G:bJ J F β B L R){S:Op}{x:Bx}(h:KH τ E B S=some (k,x))(w:fD)(p:bh)(I:ck)(l:cR)(o:cZ)(Q:Ay)(H:bC)
  (c:∀r,bJ J F β (B.set k (some x)) L r->Q .skip r):aP P Q H (execOp (ev T) ⟨w,S,p,I,l,o⟩) R:=by
 unfold KH at h
 split at h
 .rename_i t a y
  split at h
  .rename_i k' off s u C g ht
   split at h
   .rename_i d hn
    split at h
    .rename_i q h2 h3;cases h;let⟨b,W,hv⟩:=sH (D.val C);have m:B[k]?=d:=by rwa[<-dF]
     let⟨_,_,i,X,hR⟩:=G.box k b d W m;have z:=zq (D.val g);have f:=lO z;have e1:=uq q;have e2:=qE h2;simp only[execOp,hv];rw[Z];unfold Instr.storeAt;rw[Z];simp only[Instr.sureAddr,aI];unfold storeVar;rw[Z,cQ (TT.bj j ht).size];have n:(ev T y).cells.size=u.size:=by rw[<-e1,<-f,GH]
     simp only[n,ne_eq,not_true_eq_false,if_false];refine ky (e:=d.ty) _ 0 _ R hR (by rw[GH,n,wG,lO X];omega) (λv K=>Ol z h3 v K) (λr g1 g2=>?_);refine c r (G.Ez W m (AL X z) ?_ g2);rw[g1,pT];have:=qt (ev T y).cells.toList i.toArray off;rw[List.toList_toArray] at this;rw[<-this]
    .cases h
   .cases h
  .cases h
 .cases h
end
structure Cx(P:Program) where
 X:aM P
 f:FuncId
 kd:CallKind
 ro:Option Nat
 cs:List Frame
 L0:LH
 R0:LH
def W{P:aV}(C:Cx P)(n:Nat)(ds:cj)(k:bI)(E:Env)(B:aX)(L:LH):Prop:=
 ∀(T:aK) (R:LH) (β:Nm),T.size=n->bS β (get E) T->bJ C.L0 C.R0 β B L R->C.X.Go (G (Fr C.f T k ds .run C.kd C.ro) C.cs) R
def bG(E:cK)(ops:nm):Option (Nat×Bool)->Option Bool
 | none=>some true
 | some (j,w)=>match nth ops j with
  | some o=>match o.dst with
   | some s=>match E s with
    | some (.lit b)=>some (match b,w with | true,true=>true | false,false=>true | _,_=>false)
    | some (.v (.tuple _))=>some false
    | _=>none
   | none=>none
  | none=>none
def VM{T:aK}{b:Bool}(h:T.getD m undef=b):T[m]?=some (.bool b):=by
 by_cases e:m<T.size
 .simp[Array.getD,e,sC] at h;rw[Bw e];exact aJ some h
 .simp[Array.getD,e,dif_neg,not_false_eq_true] at h;cases h
def cA{E:cK}{T:aK}{x:cU}{o:Oper}{b:Bool}(i:bS N E T)(h:bG E x.toList o.guard=b):Region.wanted o (yielded x T)=b:=by
 unfold bG at h;unfold Region.wanted
 split at h
 .rename_i n;cases h;simp[n]
 .rename_i j w n;rw[n]
  split at h
  .rename_i d t
   split at h
   .rename_i s a
    split at h
    .rename_i c v;cases h;let q:=VM (bR (i s _ v)).symm;rw[dF,iN] at t;simp[yielded,t,Option.bind_some,a,q];cases c <;> cases w <;> rfl
    .rename_i u v;cases h;let q:=(bR (i s _ v)).symm;rw[dF,iN] at t;simp only[yielded,t,Option.bind_some,a];let z:∀c,T[s]?≠some (.bool c):=λc p=>by
      simp[Ds] at q;rw[p] at q;cases q
     split
     .rename_i c p;exact ar p (z c)
     .rfl
    .cases h
   .cases h
  .cases h
def iX(l:aU)(d:Nat):Bool:=match l with
 | []=>false
 | x::r=>match Nat.beq x d with | true=>true | false=>iX r d
def Kv(τ:TT)(n:Nat)(cz:aU)(ops:cU)(i:Nat)(rest:aU)(k:bI)(E:Env)(B:aX):Option (List Item×Env×List (Option Bx)):=
 match nth ops.toList i with
 | some o=>match bG (get E) ops.toList o.guard with
  | some true=>match o.dst with
   | some d=>match Nat.blt d n with
    | true=>match iX cz d with
     | true=>none
     | false=>match Oj τ (get E) B o.op with
      | some sv=>some (.inRegion ops rest::k,(d,sv)::E,B)
      | none=>match Oh τ (get E) o.op with
       | some (x,sh)=>some (.inRegion ops rest::k,(d,sh B)::E,B++[some x])
       | none=>none
    | false=>none
   | none=>match KH τ (get E) B o.op with
    | some (kk,x)=>some (.inRegion ops rest::k,E,B.set kk x)
    | none=>match Oj τ (get E) B o.op with
     | some _=>some (.inRegion ops rest::k,E,B)
     | none=>none
  | some false=>match o.dst with
   | some d=>match Nat.blt d n with
    | true=>some (.inRegion ops rest::k,(d,undef)::E,B)
    | false=>none
   | none=>some (.inRegion ops rest::k,E,B)
  | none=>none
 | none=>none
def WX(k:bI)(E:Env)(B:aX):Code->Option (List Item×Env×List (Option Bx))
 | .skip=>some (k,E,B)
 | .label _=>some (k,E,B)
 | .seq a b=>some (.code a::.code b::k,E,B)
 | .cond c a b=>match bZ (get E) c with
  | some (.lit true)=>some (.code a::k,E,B)
  | some (.lit false)=>some (.code b::k,E,B)
  | _=>none
 | .block l c=>some (.code c::.inBlock l::k,E,B)
 | .scope c=>some (.code c::.inScope c::k,E,B)
 | .exit l=>match exitTo l k with | some k'=>some (k',E,B) | none=>none
 | .region _ ops d=>match d with | false=>some (.inRegion ops (List.range ops.size)::k,E,B) | true=>none
 | _=>none
def step1(τ:TT)(n:Nat)(cz:aU):List Item->Env->List (Option Bx)->Option (List Item×Env×List (Option Bx))
 | .code c::k,E,B=>WX k E B c
 | .inBlock _::k,E,B=>some (k,E,B)
 | .inScope _::k,E,B=>some (k,E,B)
 | .inRegion _ []::k,E,B=>some (k,E,B)
 | .inRegion ops (i::rest)::k,E,B=>Kv τ n cz ops i rest k E B
 | _,_,_=>none
def runK(τ:TT)(n:Nat)(cz:aU):Nat->List Item->Env->List (Option Bx)->(List Item×Env×List (Option Bx))
 | 0,k,E,B=>(k,E,B)
 | m+1,k,E,B=>match step1 τ n cz k E B with
  | some (k',E',B')=>runK τ n cz m k' E' B'
  | none=>(k,E,B)
section
variable {P:aV}{C:Cx P}{τ:TT}{n:Nat}{ds:cj}{k:bI}{E:Env}{B:aX}{L:LH}
def Ao{E:cK}{k:Op}(h:Oj τ E B k=some z):iU k=false:=Qq
def Ho{E:cK}{k:Op}{x:Bx×(Nat->SV)}(h:Oh τ E k=some x):iU k=false:=Qq
def Hp{E:cK}{k:Op}{x:Nat×Bx}(h:KH τ E B k=some x):iU k=false:=Qq
def W.oper{x:cU}{o:Oper}(j:nth x.toList m=o)(v:bG (get E) x.toList o.guard=true)(e:iU o.op=false)
  (h:∀(T:aK) (R:LH) (β:Nm),T.size=n->bS β (get E) T->bJ C.L0 C.R0 β B L R->
   aP P (jP P C.X.Go (Fr C.f T (.inRegion x (m::q)::k) ds .run C.kd C.ro) C.cs .normal) (qZ C.X.Go (Fr C.f T (.inRegion x (m::q)::k) ds .run C.kd C.ro) C.cs) (execOp (ev T) o) R):
  W C n ds (.inRegion x (m::q)::k) E B L:=by
 intro T R β z u r;rw[dF,iN] at j;exact C.X.op j (cA u v) (.inr λc b=>by rw[b] at e;cases e) (h T R β z u r)
def W.iB{x:cU}{o:Oper}{d:Nat}{T:aK}{sv:SV}{v:Value}(j:nth x.toList m=o)(a:o.dst=d)(p:d<n)(h:T.size=n)(u:bS N (get E) T)(r:bJ C.L0 C.R0 N B L R)(g:den N sv=v)
  (w:W C n ds (.inRegion x q::k) ((d,sv)::E) B L):C.X.Go (G ((Fr C.f T (.inRegion x (m::q)::k) ds .run C.kd C.ro).finish v) C.cs) R:=by
 rw[dF,iN] at j;rw[tG j a];exact w _ R N (by simp[h]) (u.set g (AB v (by rw[h];exact p))) r
def W.qR{x:cU}{o:Oper}{T:aK}{v:Value}(j:nth x.toList m=some o)(a:o.dst=none)(h:T.size=n)(u:bS N (get E) T)(r:bJ C.L0 C.R0 N B L R)
  (w:W C n ds (.inRegion x q::k) E B L):C.X.Go (G ((Fr C.f T (.inRegion x (m::q)::k) ds .run C.kd C.ro).finish v) C.cs) R:=by
 rw[dF,iN] at j;rw[xA j a];exact w _ R N h u r
def eH{n:Nat}(h:Nat.blt m n=true):m<n:=qE h
def W.val{x:cU}{o:Oper}{d:Nat}(j:nth x.toList m=o)(i:bG (get E) x.toList o.guard=true)(a:o.dst=d)(p:Nat.blt d n=true)(e:iU o.op=false)
  (g:∀(T:aK) (R:LH) (β:Nm),bS β (get E) T->bJ C.L0 C.R0 β B L R->pQ P β o.op T R z)(w:W C n ds (.inRegion x q::k) ((d,z)::E) B L):W C n ds (.inRegion x (m::q)::k) E B L:=by
 refine W.oper j i e λT R β f h r=>?_;let⟨v,t,c⟩:=g T R β h r;let⟨u,I,y,s,l,b⟩:=o;exact c y u s l b _ _ (W.iB j a (eH p) f h r t w)
def TO(hτ:τ.Ok P){cz:List Nat}{ops:Array Oper}{i:Nat}{rest:List Nat}{k':List Item}{E':Env}{B':List (Option Bx)}(h:Kv τ n cz ops i rest k E B=some (k',E',B'))(w:W C n ds k' E' B' L):W C n ds (.inRegion ops (i::rest)::k) E B L:=by
 unfold Kv at h
 split at h
 .rename_i o ho
  split at h
  .rename_i hg
   split at h
   .rename_i d hd
    split at h
    .rename_i hz
     split at h
     .cases h
     .split at h
      .rename_i sv hs;cases h;exact W.val ho hg hd hz (Ao hs) (λT R β hE hH=>KI hτ hE hH.boxes hs) w
      .split at h
       .rename_i x sh hx;cases h;refine W.oper ho hg (Ho hx) λT R β hT hE hH=>?_;let⟨cs,mk,h1,h3,h2⟩:=TW hτ hE hx;let⟨dst,op,ty,pos,af,gd⟩:=o;refine h2 ty R dst pos af gd _ _ λb hb=>(W.iB ho hd (eH hz) hT (hE.mono (Nm.Qi (hH.more x).2 b)) (hH.new hb h1) (h3 _ _ b (Nm.pE _ _ _)) w)
       .cases h
    .cases h
   .rename_i hd
    split at h
    .rename_i kk x hs;cases h;refine W.oper ho hg (Hp hs) λT R β hT hE hH=>?_;let⟨dst,op,ty,pos,af,gd⟩:=o;exact T4 hτ hE hH hs dst ty pos af gd _ _ λR' hR'=>W.qR ho hd hT hE hR' w
    .split at h
     .rename_i sv hs;cases h;refine W.oper ho hg (Ao hs) λT R β hT hE hH=>?_;let⟨v,h1,h2⟩:=KI hτ hE hH.boxes hs;let⟨dst,op,ty,pos,af,gd⟩:=o;exact h2 ty dst pos af gd _ _ (W.qR ho hd hT hE hH w)
     .cases h
  .rename_i hg;let un:∀{E1:Env},(∀(T:Array Value) (R:LH) (β:Nm),T.size=n->bS β (get E) T->bJ C.L0 C.R0 β B L R->C.X.Go (G ((Fr C.f T (.inRegion ops (i::rest)::k) ds .run C.kd C.ro).finish undef) C.cs) R)->W C n ds (.inRegion ops (i::rest)::k) E B L:=by
    intro _ hh T R β hT hE hH;refine C.X.unwanted ?_ (hh T R β hT hE hH);let qh:=ho;rw[dF,Array.getElem?_toList] at qh;rw[qh]
    simpa using cA hE hg
   split at h
   .rename_i d hd
    split at h
    .rename_i hz;cases h;exact un (E1:=E) λT R β hT hE hH=>W.iB ho hd (eH hz) hT hE hH rfl w
    .cases h
   .rename_i hd;cases h;exact un (E1:=E) λT R β hT hE hH=>W.qR ho hd hT hE hH w
  .cases h
 .cases h
def aaN{c:Code}{v:aX}(h:WX k E B c=some (K,F,v))(w:W C n ds K F v L):W C n ds (.code c::k) E B L:=by
 intro T R β z q r;unfold WX at h
 split at h
 .cases h;exact C.X.skip (w T R β z q r)
 .cases h;exact C.X.label (w T R β z q r)
 .cases h;exact C.X.seq (w T R β z q r)
 .split at h
  .rename_i b;cases h;exact C.X.aha (bR (q.val b)).symm (w T R β z q r)
  .rename_i b;cases h;exact C.X.ag9 (bR (q.val b)).symm (w T R β z q r)
  .cases h
 .cases h;exact C.X.block (w T R β z q r)
 .cases h;exact C.X.scope (w T R β z q r)
 .split at h
  .rename_i u;cases h;exact C.X.exit u (w T R β z q r)
  .cases h
 .split at h
  .cases h;exact C.X.region rfl (w T R β z q r)
  .cases h
 .cases h
def aaM(z:τ.Ok P){v:aX}(h:step1 τ n q k E B=some (K,F,v))(w:W C n ds K F v L):W C n ds k E B L:=by
 unfold step1 at h
 split at h
 .exact aaN h w
 .cases h;exact λT R β u d r=>C.X.inBlock (w T R β u d r)
 .cases h;exact λT R β u d r=>C.X.inScope (w T R β u d r)
 .cases h;exact λT R β u d r=>C.X.Kw (w T R β u d r)
 .exact TO z h w
 .cases h
def W.run(z:τ.Ok P)(m:Nat){v:aX}(h:runK τ n q m k E B=(K,F,v))(w:W C n ds K F v L):W C n ds k E B L:=by
 induction m generalizing k E B with
 | zero=>cases h;exact w
 | succ m l=>
  unfold runK at h
  split at h
  .rename_i b g x a;exact aaM z a (l h)
  .cases h;exact w
def W.bool(s:Nat){p:Bool}(a:get E s=z)(d:mL z=p)(q:p=true->W C n ds k ((s,.lit true)::E) B L)(o:p=false->W C n ds k ((s,.lit false)::E) B L):W C n ds k E B L:=by
 intro T R β h f r;let i:=(bR ((GM d).symm.trans (f s _ a))).symm;let v:∀c,p=c->bS β (get ((s,.lit c)::E)) T:=λc t b x u=>by
  rw[dO] at u
  by_cases e:s=b
  .subst e;rw[ax rfl] at u;cases u;rw[i,t];rfl
  .rw[A e] at u;exact f b x u
 cases p
 .exact o rfl T R β h (v _ rfl) r
 .exact q rfl T R β h (v _ rfl) r
def nB:List Item->Option Nat
 | .code (.cond (.tmp s) _ _)::_=>some s
 | .inRegion ops (i::_)::_=>match nth ops.toList i with
  | some o=>match o.op,o.guard with
   | _,some (j,_)=>match nth ops.toList j with | some o=>o.dst | none=>none
   | .pick (.tmp s) _ _,none=>some s
   | _,none=>none
  | none=>none
 | _=>none
def W.split{p:Bool}(c:nB k=m)(a:get E m=z)(d:mL z=p)(q:p=true->W C n ds k ((m,.lit true)::E) B L)(u:p=false->W C n ds k ((m,.lit false)::E) B L):W C n ds k E B L:=W.bool m a d q u
def gR(E:Env):Env->Prop
 | []=>True
 | (s,x)::r=>get E s=some x/\gR E r
theorem gR.get{E:Env}:∀{n:Env},gR E n->∀s x,Go.Mz.get n s=some x->Go.Mz.get E s=some x
 | [],_,s,x,h=>by cases h
 | (s',x')::r,hs,s,x,h=>by
  rw[dO] at h
  by_cases e:s'=s
  ·subst e;rw[ax rfl] at h;cases h;exact hs.1
  ·rw[A e] at h;exact hs.2.get s x h
def Nm.upto(β:Nm)(m:Nat):Nm:=λk=>if k<m then β k else none
def Nm.UD(β:Nm){k:Nat}(h:k<m):β.upto m k=β k:=by simp[Nm.upto,h]
def Nm.oV{k b:Nat}(h:N.upto m k=b):k<m/\N k=b:=by
 unfold Nm.upto at h
 split at h
 .exact⟨‹_›,h⟩
 .cases h
mutual
def sc(m:Nat):SV->Bool
 | .v _=>true
 | .p k _=>Nat.blt k m
 | .a l=>HJ m l
 | .f _ a b=>match HJ m a with | true=>HJ m b | false=>false
 | .i _ x=>sc m x
 | .lit _=>true
 | .sl k _ _ _=>Nat.blt k m
def HJ(m:Nat):List SV->Bool
 | []=>true
 | x::l=>match sc m x with | true=>HJ m l | false=>false
end
mutual
theorem A8{m:Nat}{N:Nm}:∀{x:SV} {v:Value},sc m x=true->den N x=some v->den (N.upto m) x=some v
 | .v x,v,_,h=>h
 | .p k off,v,hs,h=>by
  unfold den at h ⊢;rw[Nm.UD N (eH hs)];exact h
 | .a l,v,hs,h=>by
  unfold den at h ⊢;cases o:cW N l with
  | none=>rw[o] at h;cases h
  | some j=>rw[o] at h;rw[Aj hs o];exact h
 | .f fn f1 f2,v,hs,h=>by
  unfold sc at hs;unfold den at h ⊢;cases q:cW N f1 with
  | none=>rw[q] at h;cases h
  | some c=>
   cases z:cW N f2 with
   | none=>rw[q,z] at h;cases h
   | some y=>
    cases d:HJ m f1 with
    | false=>rw[d] at hs;cases hs
    | true=>rw[d] at hs;rw[q,z] at h;rw[Aj d q,Aj hs z];exact h
 | .i t x,v,hs,h=>by
  unfold sc at hs;unfold den at h ⊢;cases g:den N x with
  | none=>rw[g] at h;cases h
  | some u=>rw[g] at h;rw[A8 hs g];exact h
 | .lit _,v,_,h=>h
 | .sl k off len cap,v,hs,h=>by
  unfold den at h ⊢;rw[Nm.UD N (eH hs)];exact h
theorem Aj{m:Nat}{N:Nm}:∀{l:gn} {j:aR},HJ m l=true->cW N l=j->cW (N.upto m) l=j
 | [],j,_,h=>h
 | x::l,j,hs,h=>by
  unfold HJ at hs;obtain⟨v,n,q,z,rfl⟩:=jK h;cases u:sc m x with
  | false=>rw[u] at hs;cases hs
  | true=>rw[u] at hs;exact iO (A8 u q) (Aj hs z)
end
def Ah(m:Nat):Env->Bool
 | []=>true
 | (_,x)::r=>match sc m x with | true=>Ah m r | false=>false
theorem Ai{m:Nat}:∀{E:Env},Ah m E=true->∀s x,get E s=some x->sc m x=true
 | [],_,s,x,h=>by cases h
 | (s',y)::r,hs,s,x,h=>by
  unfold Ah at hs;cases g:sc m y with
  | false=>rw[g] at hs;cases hs
  | true=>
   rw[g] at hs;rw[dO] at h
   by_cases e:s'=s
   ·rw[ax e] at h;cases h;exact g
   ·rw[A e] at h;exact Ai hs s x h
def CU(m:Nat):List (Option Bx)->Bool
 | []=>true
 | some x::r=>match HJ m x.cells with | true=>CU m r | false=>false
 | none::r=>CU m r
theorem KB{m:Nat}:∀{B:aX},CU m B=true->∀(k:Nat) (x:Bx),B[k]?=some (some x)->HJ m x.cells=true
 | [],_,k,x,h=>by simp at h
 | none::r,hs,k,x,h=>by
  unfold CU at hs;cases k with
  | zero=>simp at h
  | succ k=>exact KB hs k x ri
 | some y::r,hs,k,x,h=>by
  unfold CU at hs;cases g:HJ m y.cells with
  | false=>rw[g] at hs;cases hs
  | true=>
   rw[g] at hs;cases k with
   | zero=>simp at h;subst h;exact g
   | succ k=>exact KB hs k x ri
def mV:List (Option Bx)->List (Option Bx)->Prop
 | _,[]=>True
 | x::B,y::B'=>x=y/\mV B B'
 | [],_::_=>False
def mV.eq:∀{B v:aX},mV B v->∃G,B=v++G
 | B,[],_=>⟨B,rfl⟩
 | x::B,y::v,h=>by
  obtain⟨rfl,h⟩:=h;obtain⟨G,rfl⟩:=mV.eq h;exact⟨G,rfl⟩
 | [],_::_,h=>h.elim
theorem bJ.fewer{d:LH}{B v:aX}{L:LH}(h:bJ J d N (B++v) L R)(a:CU B B=true):bJ J d (N.upto B) B L R:=
 ⟨λk o b q z=>h.inj k o b (Nm.oV q).2 (Nm.oV z).2,λk b q=>(Nm.oV q).1,λk b q=>h.al k b (Nm.oV q).2,λk b x f u=>by
  let⟨e,f⟩:=Nm.oV f;let⟨q,z,i,r,t⟩:=h.box k b x f (by rwa[kS e]);exact⟨q,z,i,Aj (KB a k x u) r,t⟩,h.le,h.keep,h.fresh,h.jZ⟩
theorem W.kI{E':Env}{B':aX}(h:gR E E')(v:mV B B')(w:W C n ds k E' B' L)(q:Ah B' E'=true:=by rfl)(z:CU B' B'=true:=by rfl):W C n ds k E B L:=by
 obtain⟨G,rfl⟩:=v.eq;exact λT R β i d r=>w T R _ i (λs x u=>A8 (Ai q s x u) (d s x (h.get s x u))) (r.fewer z)
def W.again{v:aX}(w:W C n ds k F v L)(h:gR E F)(d:mV B v)(q:Ah v F=true:=by rfl)(z:CU v v=true:=by rfl):W C n ds k E B L:=W.kI h d w q z
def W.loop{c:Code}(I:Xd){v:aX}(f:I m F v L)(u:gR E F)(d:mV B v)
  (h:∀m E B L,I m E B L->(∀t F v i,t<m->I t F v i->W C n ds (.inLoop c::k) F v i)->W C n ds (.code c::.inLoop c::k) E B L)(q:Ah v F=true:=by rfl)(z:CU v v=true:=by rfl):W C n ds (.code (.loop c)::k) E B L:=by
 have j:∀m E B L,I m E B L->W C n ds (.code c::.inLoop c::k) E B L:=by
  intro m
  induction m using Nat.strongRecOn with
  | ind m ih=>exact λE B L p=>h m E B L p λt F v i o a T R β g u r=>C.X.inLoop (ih t o F v i a T R β g u r)
 refine W.kI u d ?_ q z;exact λT R β g u r=>C.X.loop (j m F v L f T R β g u r)
def W.cut(J:Q5)(i:∀E B L,J E B L->W C n ds k E B L)(h:(∀u v q,J u v q->W C n ds k u v q)->W C n ds K E B L):W C n ds K E B L:=h i
end
def qN(P:aV)(f:bO):Prop:=∃fn:Func,P.funcs[f]?=fn/\(fn.name== "runtime.NumGoroutine")=false/\fn.body.isNone=false
structure Post(L R:LH)(L' R':LH):Prop where
 le:Le L' R'
 keep:∀b x,L b=none->R b=some x->R' b=some x
 fresh:∀b,L' b≠none->L b≠none\/R b=none
 jZ:∀b,L b≠none->L' b≠none
def Sp{P:aV}(X:aM P)(f:bO)(args:aR)(L:LH)(Q:bC)(H:List PanicEntry->LH->Prop:=λ_ _=>False):Prop:=
 qN P f/\∀R,Le L R->Fn X f args.toArray R (λv R'=>∃L',Q v L'/\Post L R L' R') (λch R'=>∃L',H ch L'/\Post L R L' R')
def Sp.mono{P:aV}{X:aM P}{f:bO}{L:LH}{Q':bC}{H H':kP}(h:Sp X f j L Q H)(i:∀v d,Q v d->Q' v d)(u:∀c d,H c d->H' c d):Sp X f j L Q' H':=
 ⟨h.1,λR l=>(h.2 R l).mono (λ_ _ ⟨d,q,z⟩=>⟨d,i _ _ q,z⟩) (λ_ _ ⟨d,q,z⟩=>⟨d,u _ _ q,z⟩)⟩
structure Rt{P:Program}(C:Cx P)(fn:Func)(Q:Value->LH->Prop)(H:List PanicEntry->LH->Prop:=λ_ _=>False):Prop where
 fn:P.funcs[C.f]?=some fn
 ro:C.ro=none
 kd:C.kd=.normal\/C.kd=.wrapped
 cs:∃c cs,C.cs=c::cs/\(∀v R' L',Q v L'->Post C.L0 C.R0 L' R'->C.X.Go (G (c.finish v) cs) R')/\(∀ch R' L',H ch L'->Post C.L0 C.R0 L' R'->C.X.Go (G (c.raise ch) cs) R')
section
variable {P:aV}{τ:TT}{n:Nat}{ds:cj}{k:bI}{E:Env}{B:aX}{L:LH}
def rA:Nat->List Value->Env
 | _,[]=>[]
 | i,v::vs=>(i,.v v)::rA (i+1) vs
def pj:∀{j:aR} {i s:Nat} {x:SV},get (rA i j) s=x->i<=s/\∃v,j[s - i]?=some v/\x=v
 | [],_,_,_,h=>by cases h
 | v::j,i,s,x,h=>by
  unfold rA at h;rw[dO] at h
  by_cases e:i=s
  .subst e;rw[ax rfl] at h;cases h;exact⟨dA _,v,U,rfl⟩
  .rw[A e] at h;obtain⟨q,u,z,r⟩:=pj h;exact⟨M,u,by rw[show s - i=(s - (i+1))+1 by omega];simpa using z,r⟩
def Sp.enter{X:aM P}{f:bO}{q:Func}{o:Code}{e:aR}{Q:bC}{H:kP}(a:P.funcs[f]?=q)(d:q.body=o)(y:(q.name== "runtime.NumGoroutine")=false)(p:q.ntmps=n)(m:Nat.ble e.length n=true)
  (h:∀C:Cx P,C.X=X->C.f=f->C.L0=L->Rt C q Q H->W C n [] [.code o] (rA 0 e) [] L):Sp X f e L Q H:=by
 refine⟨⟨q,a,y,by rw[d];rfl⟩,λR l=>Fn.enter a d λT kd c i K t D z=>?_⟩;let g:=Vi K p (by simpa using qE m);refine h ⟨X,f,kd,none,c::i,L,R⟩ rfl rfl rfl ⟨a,rfl,t,c,i,rfl,λv r w I J=>D v r ⟨w,I,J⟩,λF r w I J=>z F r ⟨w,I,J⟩⟩ T R fe g ?_ ⟨(λ_ _ _ h=>by cases h),(λ_ _ h=>by cases h),(λ_ _ h=>by cases h),(λk b x t=>by cases t),l,λb x _ h=>h,λb d=>.inl d,λb d=>d⟩;intro s x u;obtain⟨_,v,G,rfl⟩:=pj u;rw[den,Vj K Li]
variable {C:Cx P}
def bJ.post(h:bJ C.L0 C.R0 N B L R):Post C.L0 C.R0 L R:=⟨h.le,h.keep,h.fresh,h.jZ⟩
def bJ.call{L0 R0:LH}{β:Nm}{B:aX}{L L' R':LH}(h:bJ L0 R0 β B L R)(p:Post L R L' R'):bJ L0 R0 β B L' R' where
 inj:=h.inj
 dm:=h.dm
 al:=λk b hk=>by
  let h1:=h.al k b hk;cases hL:L b with
  | none=>
   cases hR:R b with
   | none=>exact ar hR h1
   | some y=>rw[p.keep b y hL hR];simp
  | some y=>
   have:=p.jZ b (by rw[hL];simp);cases hL':L' b with
   | none=>exact ar hL' this
   | some z=>rw[p.le _ _ hL'];simp
 box:=λk b x hk hx=>by
  obtain⟨h1,h2,cs,h3,h4⟩:=h.box k b x hk hx;let h5:=p.keep b _ h1 h4;refine⟨?_,h2,cs,h3,h5⟩;cases hL:L' b with
  | none=>rfl
  | some y=>
   rcases p.fresh b (by rw[hL];simp) with e | e
   .exact ar h1 e
   .rw[h4] at e;cases e
 le:=p.le
 keep:=λb x h1 h2=>by
  let h3:=h.keep b x h1 h2;let h4:L b=none:=by
   cases hL:L b with
   | none=>rfl
   | some y=>
    rcases h.fresh b (by rw[hL];simp) with e | e
    .exact ar h1 e
    .rw[h2] at e;cases e
  exact p.keep b x h4 h3
 fresh:=λb hb=>by
  rcases p.fresh b hb with e | e
  .exact h.fresh b e
  .exact .inr (h.free e).2
 jZ:=λb hb=>p.jZ b (h.jZ b hb)
def uP(τ:TT)(E:cK)(B:aX):List ResultVar->Option (List SV)
 | []=>some []
 | .tmp t::r=>match E t,uP τ E B r with | some x,some l=>some (x::l) | _,_=>none
 | .cell a t::r=>match uQ τ E B t (.tmp a),uP τ E B r with | some x,some l=>some (x::l) | _,_=>none
def lv:List Value->Value
 | [v]=>v
 | l=>.tuple l.toArray
def Rh{P:aV}{T:aK}{a:Tmp}{v:Value}{H:bC}(g:∀p,cE P (.load t (.tmp a)) p T R v)(s:∃l,T.getD a undef=.pointer (some l))(c:Q v R):aP P Q H (do loadVar t (<-asAddr (T.getD a undef))) R:=by
 obtain⟨l,s⟩:=s;let h:=g 0 none "" #[] none (λk q=>match k with | .value u=>Q u q | _=>False) H c;let z:ev T (.tmp a)=.pointer (some l):=s;simp only[execOp,z] at h;rw[Z] at h;unfold Instr.loadAt at h;rw[Z] at h;simp[Instr.sureAddr,aI] at h;rwa[Z,s]
def Ev{N:Nm}{E:cK}{B:aX}{T:aK}{g:ResultVar->Sem Value}(z:τ.Ok P)(n:∀t,g (.tmp t)=pure (T.getD t undef))(f:∀a t,g (.cell a t)=(do loadVar t (<-asAddr (T.getD a undef)))){c:List Value->LH->Prop}{Q:bC}{R:LH}(w:bS N E T)(d:vM N B R):
  ∀{I:List ResultVar} {i:gn} {j:aR},uP τ E B I=i->cW N i=some j->c j R->aP P c Q (I.mapM g) R
 | [],i,j,h,o,hq=>by cases h;cases o;exact hq
 | .tmp t::r,i,j,h,o,hq=>by
  unfold uP at h;cases q:E t with
  | none=>rw[q] at h;cases h
  | some x=>
   cases y:uP τ E B r with
   | none=>rw[q,y] at h;cases h
   | some l=>
    rw[q,y] at h;cases h;obtain⟨v,J,p,s,rfl⟩:=jK o;have:=w t x q;rw[p] at this;cases this;rw[Ch,Z,n,aI,Z];exact Ev z n f w d y s hq
 | .cell a t::r,i,j,h,o,hq=>by
  unfold uP at h;cases q:uQ τ E B t (.tmp a) with
  | none=>rw[q] at h;cases h
  | some x=>
   cases y:uP τ E B r with
   | none=>rw[q,y] at h;cases h
   | some l=>
    rw[q,y] at h;cases h;obtain⟨v,J,p,s,rfl⟩:=jK o;let⟨F,e,m⟩:=Al z w d q;rw[p] at e;cases e;let K:∃D,T.getD a undef=.pointer (some D):=by
     unfold uQ at q
     split at q
     .rename_i k off u;let⟨b,G,o⟩:=sH (w.val u);exact⟨_,o⟩
     .cases q
    rw[Ch,Z,f];refine Rh m K ?_;rw[Z];exact Ev z n f w d y s hq
def W.adC(z:τ.Ok P){q:Func}{H:kP}{g:gn}(r:Rt C q Q H)(w:k=[]\/∃m,k=.code .ret::m)(b:uP τ (get E) B q.results.toList=g)(l:cW fe g=j)(s:Q (lv j) L):W C n [] k E B L:=by
 intro T R β K x p;obtain⟨I,y,o,c,i,d,J,_⟩:=r;rw[y,d];let u:∀k,C.X.Go (G (Fr C.f T k [] .returning C.kd none) (c::i)) R:=λk=>by
  refine C.X.leave I o ?_;unfold results;rw[Z,GD,<-bind_pure_comp,Z];refine Ev z (λt=>rfl) (λa t=>rfl) x p.boxes b (qQ l β) ?_;simp only[aI];let e:(if h:j.toArray.size=1 then j.toArray[0] else Value.tuple j.toArray)=lv j:=by
   match j with
   | []=>rfl
   | [v]=>rfl
   | _::_::_=>rfl
  rw[e];exact J _ _ _ s p.post
 rcases w with rfl | ⟨m,rfl⟩
 .exact C.X.ending (u _)
 .exact C.X.ret (u _)
end
def zv(m:Region.Mode):List Edge->Nat
 | []=>0
 | e::r=>match Region.binds m e with | true=>Nat.lor (Nat.shiftLeft 1 e.on) (zv m r) | false=>zv m r
def CK(m:Region.Mode):List Oper->List Nat
 | []=>[]
 | o::r=>zv m o.after.toList::CK m r
def FQ:List Nat->Nat->Nat->Nat
 | [],_,seen=>seen
 | d::r,i,seen=>match Nat.testBit seen i,Nat.beq (Nat.land d seen) d with
  | false,true=>FQ r (i+1) (Nat.lor seen (Nat.shiftLeft 1 i))
  | _,_=>FQ r (i+1) seen
def A2(ds:aU):Nat->Nat->Nat
 | 0,seen=>seen
 | n+1,seen=>match Nat.beq (FQ ds 0 seen) seen with
  | true=>seen
  | false=>A2 ds n (FQ ds 0 seen)
def acE(n seen:Nat):Bool:=Nat.beq seen (Nat.shiftLeft 1 n - 1)
def J8(m:Region.Mode)(ops:nm):Bool:=acE ops (A2 (CK m ops) 8 0)
def Jc{m:Region.Mode}:∀{l:List Edge} {e:Edge},e∈l->Region.binds m e=true->(zv m l).testBit e.on=true
 | [],e,h,_=>by cases h
 | x::l,e,h,hb=>by
  unfold zv;rcases eP.1 h with rfl | h
  .rw[hb];show(Nat.shiftLeft 1 e.on||| zv m l).testBit e.on=true;rw[yN];have:(Nat.shiftLeft 1 e.on).testBit e.on=true:=by
    show(1<<<e.on).testBit e.on=true;rw[Nat.one_shiftLeft,Nat.testBit_two_pow_self]
   rw[this];rfl
  .have u:=Jc h hb;cases Region.binds m x with
   | false=>exact u
   | true=>
    show(Nat.shiftLeft 1 x.on||| zv m l).testBit e.on=true;rw[yN,u,Bool.or_true]
theorem JO{m:Region.Mode}:∀{l:nm} {i:Nat} {o:Oper},l[i]?=some o->(CK m l)[i]?=some (zv m o.after.toList)
 | [],i,o,h=>by simp at h
 | x::l,0,o,h=>by simp at h;subst h;rfl
 | x::l,i+1,o,h=>by
  show(CK m l)[i]?=_;exact JO ri
def Iz(ds:aU)(seen:Nat):Prop:=∃(rk:bP) (t:Nat),∀i,seen.testBit i=true->rk i<t/\∃d,ds[i]?=some d/\∀j,d.testBit j=true->seen.testBit j=true/\rk j<rk i
def FR{q:aU}:∀{l:aU} {i seen:Nat},(∀k d,l[k]?=some d->q[i+k]?=some d)->Iz q seen->Iz q (FQ l i seen)
 | [],_,_,_,h=>h
 | d::r,i,seen,hl,h=>by
  have b:∀k g,r[k]?=some g->q[i+1+k]?=some g:=λk g f=>by
   rw[show i+1+k=i+(k+1) by omega];exact hl (k+1) g Lj
  unfold FQ
  split
  .rename_i x z;refine FR b ?_;let z:=uq z;let⟨I,t,f⟩:=h;let o:∀j,(seen||| (1<<<i)).testBit j=(seen.testBit j||decide (j=i)):=λj=>by
    rw[yN,Nat.one_shiftLeft]
    congr 1
    by_cases e:i=j
    .subst e;simp
    .rw[Nat.testBit_two_pow_of_ne e];simp[dG e]
   refine⟨λj=>if j=i then t else I j,t+1,λj y=>?_⟩
   change (seen||| (1<<<i)).testBit j=true at y
   rw[o] at y
   by_cases e:j=i
   .subst e;simp only[if_true];refine⟨M,d,by simpa using hl 0 d rfl,λs a=>?_⟩;let p:seen.testBit s=true:=by
     have:=aJ (λn=>n.testBit s) z
     change (d&&& seen).testBit s=d.testBit s at this
     rw[Nat.testBit_and,a] at this
     simpa using this
    let m:s≠j:=λe=>by subst e;rw[x] at p;cases p
    refine⟨by change (seen||| (1<<<j)).testBit s=true;rw[o,p];rfl,?_⟩;simp only[m,if_false];exact(f s p).1
   .simp only[e,decide_false,Bool.or_false] at y;obtain⟨u,g,J,v⟩:=f j y;refine⟨by simp only[e,if_false];omega,g,J,λs a=>?_⟩;obtain⟨w,c⟩:=v s a;let m:s≠i:=λe=>by subst e;rw[x] at w;cases w
    refine⟨by change (seen||| (1<<<i)).testBit s=true;rw[o,w];rfl,?_⟩;simp only[e,m,if_false];exact c
  .exact FR b h
theorem Kg{q:aU}:∀{n seen:Nat},Iz q seen->Iz q (A2 q n seen)
 | 0,_,h=>h
 | n+1,seen,h=>by
  unfold A2
  split
  ·exact h
  ·exact Kg (FR (λk d f=>by simpa using f) h)
def FM{m:Region.Mode}{x:cU}(h:J8 m x.toList=true):∃k,rK m x k=true:=by
 unfold J8 acE at h;let h:=uq h;let⟨k,t,f⟩:Iz (CK m x.toList) (A2 (CK m x.toList) 8 0):=Kg ⟨λ_=>0,0,λi v=>by simp at v⟩;let a:∀i,(A2 (CK m x.toList) 8 0).testBit i=decide (i<x.size):=λi=>by
  rw[h];show((1<<<x.toList.length) - 1).testBit i=_;rw[Nat.one_shiftLeft,Nat.testBit_two_pow_sub_one,GH]
 exists k;unfold rK;rw[mK];intro i v;let g:=fo.1 v;let⟨_,d,q,z⟩:=f i (by rw[a];simpa using g);cases j:x[i]? with
 | none=>rfl
 | some o=>
  rw[mK];intro e c;cases y:Region.binds m e with
  | false=>rfl
  | true=>
   rw[JO (by rwa[iN])] at q;cases q;let⟨u,r⟩:=z e.on (Jc c y);rw[a] at u;simp[Ci,By,nF,decide_eq_true_eq];exact⟨r,Ll⟩
def Su(n:Nat):List Oper->Nat->Bool
 | [],_=>true
 | o::r,seen=>match o.dst with
  | none=>Su n r seen
  | some d=>match Nat.testBit seen d,Nat.blt d n with
   | false,true=>Su n r (Nat.lor seen (Nat.shiftLeft 1 d))
   | _,_=>false
def Jb{n:Nat}:∀{l:nm} {seen:Nat},Su n l seen=true->(∀(i d:Nat),(l[i]?).bind (·.dst)=d->d<n/\seen.testBit d=false)/\∀(i j d:Nat),(l[i]?).bind (·.dst)=d->(l[j]?).bind (·.dst)=d->i=j
 | [],_,_=>⟨λi d h=>by simp at h,λi j d h=>by simp at h⟩
 | o::r,seen,h=>by
  unfold Su at h;have bit:∀d j,(seen||| (1<<<d)).testBit j=(seen.testBit j||decide (j=d)):=λd j=>by
   rw[yN,Nat.one_shiftLeft]
   congr 1
   by_cases e:d=j
   .subst e;simp
   .rw[Nat.testBit_two_pow_of_ne e];simp[dG e]
  split at h
  .rename_i hd;let⟨q,z⟩:=Jb h;refine⟨λi d v=>?_,λi j d v t=>?_⟩
   .cases i with
    | zero=>simp[hd] at v
    | succ i=>exact q i d F1
   .cases i with
    | zero=>simp[hd] at v
    | succ i=>
     cases j with
     | zero=>simp[hd] at t
     | succ j=>rw[z i j d F1 C1]
  .rename_i g hd
   split at h
   .rename_i u m;let⟨q,z⟩:=Jb h;let f:∀(i d:Nat),(r[i]?).bind (·.dst)=d->d<n/\seen.testBit d=false/\d≠g:=λi d v=>by
     let⟨a,b⟩:=q i d v
     change (seen||| (1<<<g)).testBit d=false at b
     rw[bit] at b;simp[Bool.or_eq_false_iff,decide_eq_false_iff_not] at b;exact⟨a,b⟩
    refine⟨λi d v=>?_,λi j d v t=>?_⟩
    .cases i with
     | zero=>
      simp[hd] at v;subst v;exact⟨qE m,u⟩
     | succ i=>exact⟨(f i d F1).1,(f i d F1).2.1⟩
    .cases i with
     | zero=>
      cases j with
      | zero=>rfl
      | succ j=>
       simp[hd] at v;subst v;exact ar rfl (f j _ C1).2.2
     | succ i=>
      cases j with
      | zero=>
       simp[hd] at t;subst t;exact ar rfl (f i _ F1).2.2
      | succ j=>rw[z i j d F1 C1]
   .cases h
def Wr(ops:cU)(n:Nat):Bool:=match J8 .any ops.toList,J8 .text ops.toList,J8 .gc ops.toList with
 | true,true,true=>Su n ops.toList 0
 | _,_,_=>false
def afD{x:cU}(h:Wr x n=true):(∃r1,rK .any x r1=true)/\(∃r2,rK .text x r2=true)/\(∃r3,rK .gc x r3=true)/\kC x=true/\AM x n=true:=by
 unfold Wr at h
 split at h
 .rename_i q z r;let⟨u,f⟩:=Jb h;let conv:∀i,ec x i=(x.toList[i]?).bind (·.dst):=λi=>by unfold ec;rw[iN]
  refine⟨FM q,FM z,FM r,?_,?_⟩
  .unfold kC;rw[mK];intro i _;rw[mK];intro j _;rw[conv,conv];cases v:(x.toList[i]?).bind (·.dst) with
   | none=>simp
   | some d=>
    cases t:(x.toList[j]?).bind (·.dst) with
    | none=>simp
    | some k=>
     by_cases e:d=k
     .subst e;simp[f i j d v t]
     .simp[e]
  .unfold AM;rw[mK];intro i _;rw[conv];cases v:(x.toList[i]?).bind (·.dst) with
   | none=>rfl
   | some d=>simpa using (u i d v).1
 .cases h
end Go.Mz
set_option maxRecDepth 100000
namespace Go.Mz
open Go.Conc
variable {α:Type}{L R J:LH}{t e:bh}{w u:World}{h:α->List Value}{c:Int}{B:aX}{x:aW}{Y:Trace}{l:aH}{r:List α}{q:aU}{Q:bC}{E:cK}{j:aR}{D:bt}{d:bA}{F:Env}{g:aT}{o:bD}{N:Nm}{K:bI}{z:SV}{I:cj}{H:ck}
def Ja:List Edge->List Nat
 | []=>[]
 | e::r=>match always e with | true=>e.on::Ja r | false=>Ja r
def eM(ops:nm)(i:Nat):List Nat:=match nth ops i with
 | some o=>Ja o.after.toList
 | none=>[]
theorem Fu:∀(l:List Edge),Ja l=(l.filter always).map (·.on)
 | []=>rfl
 | e::r=>by
  unfold Ja;cases h:always e with
  | true=>simp[h,Fu r]
  | false=>simp[h,Fu r]
theorem kp(ops:cU)(i:Nat):eM ops.toList i=iJ ops i:=by
 unfold eM iJ;rw[dF,iN];cases ops[i]? with
 | none=>rfl
 | some o=>exact Fu _
def writer(s:Nat):List Oper->Nat->Option Nat
 | [],_=>none
 | o::r,n=>match o.dst with
  | some d=>match Nat.beq d s with | true=>some n | false=>writer s r (n+1)
  | none=>writer s r (n+1)
def yj{s:Nat}:∀{l:nm} {n j:Nat},writer s l n=j->n<=j/\∃o,l[j - n]?=some o/\o.dst=s
 | [],_,_,h=>by cases h
 | o::r,n,j,h=>by
  unfold writer at h
  split at h
  .rename_i d hd
   split at h
   .rename_i v;cases h;obtain rfl:=uq v;exact⟨dA _,o,U,hd⟩
   .let⟨q,m,z,u⟩:=yj h;exact⟨M,m,Yz,u⟩
  .let⟨q,m,z,u⟩:=yj h;exact⟨M,m,Yz,u⟩
theorem yi{s:Nat}:∀{l:nm} {n:Nat},writer s l n=none->∀(j:Nat) (o:Oper),l[j]?=some o->o.dst≠some s
 | [],_,_,j,o,h=>by simp at h
 | p::r,n,h,j,o,hj=>by
  unfold writer at h
  split at h
  ·rename_i d hd
   split at h
   ·cases h
   ·rename_i u;cases j with
    | zero=>
     simp at hj;subst hj;intro e;rw[hd] at e;cases e;simp at u
    | succ j=>exact yi h j o (by simpa using hj)
  ·rename_i hd;cases j with
   | zero=>simp at hj;subst hj;rw[hd];simp
   | succ j=>exact yi h j o (by simpa using hj)
def cM(ops:nm)(i:Nat)(aA E0:Env):cK:=λs=>match writer s ops 0 with
 | none=>get E0 s
 | some j=>match iX (eM ops i) j with
  | true=>get aA s
  | false=>match iX (eM ops j) i with
   | true=>get E0 s
   | false=>none
theorem iT{d:Nat}:iX q d=true↔d∈q:=by
 induction q with
 | nil=>simp[iX]
 | cons x r l=>
  unfold iX;cases u:Nat.beq x d with
  | true=>simp[uq u]
  | false=>
   let i:d≠x:=λe=>by subst e;simp at u
   simp[l,i]
def qv(td:aU):List Nat->Bool
 | []=>true
 | x::r=>match iX td x with | true=>qv td r | false=>false
def Bf{l:aU}(h:qv q l=true):∀x∈l,x∈q:=by
 induction l with
 | nil=>simp
 | cons y r v=>
  unfold qv at h;cases g:iX q y with
  | false=>rw[g] at h;cases h
  | true=>
   rw[g] at h;intro x u;rcases eP.1 u with rfl | u
   .exact iT.1 g
   .exact v h x u
def qY(ops:nm)(td pe:aU):Nat->Bool
 | 0=>true
 | i+1=>match iX td i,iX pe i,qv td (eM ops i) with
  | false,false,true=>false
  | _,_,_=>qY ops td pe i
theorem EG{q:aU}:∀{l:aU},(∀x∈l,x∈q)->qv q l=true
 | [],_=>rfl
 | x::r,h=>by
  unfold qv;rw[iT.2 (h x fC)];exact EG λy g=>h y (fG _ g)
def Eu(ops:nm):Nat->List Nat->Nat->Bool
 | 0,l,j=>iX l j
 | f+1,l,j=>match iX l j with | true=>true | false=>l.any λk=>Eu ops f (eM ops k) j
def BY(ops:nm)(agv:aU):List Nat->Bool
 | []=>true
 | j::r=>match Eu ops 4 agv j with | true=>BY ops agv r | false=>false
theorem Kt{ops:nm}{q:aU}(a:∀k∈q,∀j∈eM ops k,j∈q):∀{f:Nat} {l:aU} {j:Nat},Eu ops f l j=true->(∀k∈l,k∈q)->j∈q
 | 0,l,j,h,hl=>hl j (iT.1 h)
 | f+1,l,j,h,hl=>by
  unfold Eu at h;cases u:iX l j with
  | true=>exact hl j (iT.1 u)
  | false=>
   rw[u] at h;obtain⟨k,v,z⟩:=E8.1 h;exact Kt a z (a k (hl k v))
theorem K9{ops:nm}{S q:aU}(a:∀k∈S,∀j∈eM ops k,j∈S)(v:∀k∈q,k∈S):∀{l:aU},BY ops q l=true->∀j∈l,j∈S
 | [],_,_,t=>by cases t
 | x::r,h,j,t=>by
  unfold BY at h;cases u:Eu ops 4 q x with
  | true=>
   rw[u] at h;rcases eP.1 t with rfl | t
   ·exact Kt a u v
   ·exact K9 a v h j t
  | false=>rw[u] at h;cases h
def FN{ops:nm}{q y:aU}:∀{n:Nat},qY ops q y n=true->∀i,i<n->i∉q->(∀j∈eM ops i,j∈q)->i∈y
 | 0,_,i,h,_,_=>by omega
 | n+1,h,i,hi,ht,hd=>by
  by_cases e:i=n
  .subst e;unfold qY at h;have v:iX q i=false:=by
    cases u:iX q i with
    | false=>rfl
    | true=>exact ar (iT.1 u) ht
   rw[v,EG hd] at h;cases u:iX y i with
   | true=>exact iT.1 u
   | false=>rw[u] at h;cases h
  .refine FN (n:=n) ?_ i M ht hd;unfold qY at h
   split at h
   .cases h
   .exact h
def Ka(ops:nm)(td:aU)(p:Nat):Nat->Bool
 | 0=>true
 | i+1=>match iX td i,iX (eM ops i) p,qv td (eM ops i) with
  | false,false,true=>false
  | _,_,_=>Ka ops td p i
def N1{ops:nm}{q:aU}{p:Nat}:∀{n:Nat},Ka ops q p n=true->∀i,i<n->i∉q->(∀j∈eM ops i,j∈q)->p∈eM ops i
 | 0,_,i,h,_,_=>by omega
 | n+1,h,i,hi,ht,hd=>by
  by_cases e:i=n
  .subst e;unfold Ka at h;have v:iX q i=false:=by
    cases u:iX q i with
    | false=>rfl
    | true=>exact ar (iT.1 u) ht
   rw[v,EG hd] at h;cases u:iX (eM ops i) p with
   | true=>exact iT.1 u
   | false=>rw[u] at h;cases h
  .refine N1 (n:=n) ?_ i M ht hd;unfold Ka at h
   split at h
   .cases h
   .exact h
def RS(td:aU):Nat->Bool
 | 0=>true
 | i+1=>match iX td i with | true=>RS td i | false=>false
theorem Dy{q:aU}:∀{n:Nat},RS q n=true->∀i,i<n->i∈q
 | 0,_,i,h=>by omega
 | n+1,h,i,hi=>by
  unfold RS at h;cases u:iX q n with
  | false=>rw[u] at h;cases h
  | true=>
   rw[u] at h
   by_cases e:i=n
   ·subst e;exact iT.1 u
   ·exact Dy h i M
def Bv:Option Nat->SV->Env->Env
 | some d,sv,aA=>(d,sv)::aA
 | none,_,aA=>aA
mutual
def oo(k b:Nat):SV->SV
 | .v x=>.v x
 | .p k' off=>match Nat.beq k' k with | true=>.v (.pointer (some ⟨b,off,none⟩)) | false=>.p k' off
 | .a l=>.a (Hk k b l)
 | .f fn x y=>.f fn (Hk k b x) (Hk k b y)
 | .i t x=>.i t (oo k b x)
 | .lit c=>.lit c
 | .sl k' off len cap=>match Nat.beq k' k with | true=>.v (.slice (some ⟨b,off,none⟩) len cap) | false=>.sl k' off len cap
def Hk(k b:Nat):List SV->List SV
 | []=>[]
 | x::l=>oo k b x::Hk k b l
end
mutual
theorem rh{N:Nm}{k b:Nat}(u:N k=b):∀(x:SV),den N (oo k b x)=den N x
 | .v x=>rfl
 | .p k' off=>by
  unfold oo;cases d:Nat.beq k' k with
  | true=>obtain rfl:=uq d;simp[den,u]
  | false=>rfl
 | .a l=>by unfold oo den;rw[A4 u l]
 | .f fn x y=>by unfold oo den;rw[A4 u x,A4 u y]
 | .i t x=>by unfold oo den;rw[rh u x]
 | .lit c=>rfl
 | .sl k' off len cap=>by
  unfold oo;cases d:Nat.beq k' k with
  | true=>obtain rfl:=uq d;simp[den,u]
  | false=>rfl
theorem A4{N:Nm}{k b:Nat}(f:N k=some b):∀(x:gn),cW N (Hk k b x)=cW N x
 | []=>rfl
 | x::l=>by unfold Hk cW;rw[rh f x,A4 f l]
end
mutual
theorem Ko{N:Nm}{k b:Nat}(m:N k=none):∀{x:SV} {v:Value},den N x=v->oo k b x=x
 | .v x,_,_=>rfl
 | .p k' off,v,h=>by
  unfold oo;cases d:Nat.beq k' k with
  | true=>
   obtain rfl:=uq d;unfold den at h;rw[m] at h;cases h
  | false=>rfl
 | .a l,v,h=>by
  unfold den at h;cases o:cW N l with
  | none=>rw[o] at h;cases h
  | some j=>unfold oo;rw[Es m o]
 | .f fn x y,v,h=>by
  unfold den at h;cases q:cW N x with
  | none=>rw[q] at h;cases h
  | some a=>
   cases z:cW N y with
   | none=>rw[q,z] at h;cases h
   | some c=>unfold oo;rw[Es m q,Es m z]
 | .i t x,v,h=>by
  unfold den at h;cases g:den N x with
  | none=>rw[g] at h;cases h
  | some u=>unfold oo;rw[Ko m g]
 | .lit c,_,_=>rfl
 | .sl k' off len cap,v,h=>by
  unfold oo;cases d:Nat.beq k' k with
  | true=>
   obtain rfl:=uq d;unfold den at h;rw[m] at h;cases h
  | false=>rfl
theorem Es{N:Nm}{k b:Nat}(f:N k=none):∀{x:gn} {v:aR},cW N x=v->Hk k b x=x
 | [],_,_=>rfl
 | x::l,v,h=>by
  obtain⟨u,us,q,z,_⟩:=jK h;unfold Hk;rw[Ko f q,Es f z]
end
def Kn(k b:Nat):Env->Env
 | []=>[]
 | (s,x)::r=>(s,oo k b x)::Kn k b r
theorem rf(k b:Nat):∀(E:Env) (s:Nat),get (Kn k b E) s=(get E s).map (oo k b)
 | [],s=>rfl
 | (s',x)::r,s=>by
  unfold Kn;rw[dO,dO]
  by_cases e:s'=s
  ·rw[ax e,ax e];rfl
  ·rw[A e,A e];exact rf k b r s
theorem adu{k b:Nat}{T:aK}(f:N k=b)(h:bS N (get F) T):bS N (get (Kn k b F)) T:=λs x u=>by
 rw[rf,il] at u;obtain⟨y,q,rfl⟩:=u;rw[rh f];exact h s y q
section
variable {P:aV}{C:Cx P}{τ:TT}{n:Nat}{ds:cj}{k:List Item}
def W.cz{F:Env}{B:aX}{L:LH}(s:Nat){m:Nat}{x:Bx}{j:aR}(a:(∃off,get F s=some (.p m off))\/(∃off v i,get F s=some (.sl m off v i)))(u:nth B m=x)(t:cW fe x.cells=j)
  (w:∀b,L b=none->C.R0 b=none->W C n ds k (Kn m b F) (B.set m none) (L.put b (.cells j.toArray x.ty))):W C n ds k F B L:=by
 intro T R β g o r;let d:∃b,β m=some b:=by
  rcases a with⟨off,a⟩ | ⟨off,v,i,a⟩
  .let⟨b,d,_⟩:=sH (o s _ a);exact⟨b,d⟩
  .have:=o s _ a;unfold den at this;cases f:β m with
   | none=>rw[f] at this;cases this
   | some b=>exact⟨b,rfl⟩
 let⟨b,d⟩:=d;let h:B[m]?=x:=by rwa[<-dF]
 let⟨q,z⟩:=r.cz d h t;exact w b q (r.box m b x d h).2.1 T R β g (adu d o) z
end
section
variable {P:aV}(C:Cx P)(τ:TT)(n:Nat)(ds:cj)(ops:cU)(k:bI)(m:Nat)(Lf:LH)
inductive DD:List Nat->Env->Env->List (Option Bx)->LH->Prop
 | reg {td:List Nat} {aA E0:Env} {B:List (Option Bx)} {L:LH} (i:Nat) {o:Oper} {d:Nat} {sv:SV} (ho:nth ops.toList i=some o) (hn:iX td i=false) (Jw:qv td (eM ops.toList i)=true) (hd:o.dst=some d) (hdf:iU o.op=false)
   (hg:bG (cM ops.toList i aA E0) ops.toList o.guard=some true) (hv:∀(T:Array Value) (R:LH) (β:Nm),bS β (cM ops.toList i aA E0) T->vM β (B.take m) R->Le Lf R->pQ P β o.op T R sv) (w:DD (i::td) ((d,sv)::aA) E0 B L):DD td aA E0 B L
 | no {td:List Nat} {aA E0:Env} {B:List (Option Bx)} {L:LH} (i:Nat) {o:Oper} {d:Nat} (ho:nth ops.toList i=some o) (hn:iX td i=false) (Jw:qv td (eM ops.toList i)=true) (hd:o.dst=some d)
   (hg:bG (cM ops.toList i aA E0) ops.toList o.guard=some false) (w:DD (i::td) ((d,.v undef)::aA) E0 B L):DD td aA E0 B L
 | pk {td:List Nat} {aA E0:Env} {B:List (Option Bx)} {L:LH} (i:Nat) {o:Oper} {d:Nat} {t:TypeId} {x:Operand} {a:Addr} {v:Value} (ho:nth ops.toList i=some o) (hn:iX td i=false) (Jw:qv td (eM ops.toList i)=true) (hd:o.dst=some d)
   (hg:bG (cM ops.toList i aA E0) ops.toList o.guard=some true) (hop:o.op=.load t x) (ht:iZ P t=some false) (hx:bZ (cM ops.toList i aA E0) x=some (.v (.pointer (some a)))) (hpk:C.X.pk a v) (w:DD (i::td) ((d,.v v)::aA) E0 B L):DD td aA E0 B L
 | alc {td:List Nat} {aA E0:Env} {B:List (Option Bx)} {L:LH} (i:Nat) {o:Oper} {d:Nat} {x:Bx} {sh:Nat->SV} (ho:nth ops.toList i=some o) (hn:iX td i=false) (Jw:qv td (eM ops.toList i)=true) (hd:o.dst=some d)
   (hg:bG (cM ops.toList i aA E0) ops.toList o.guard=some true) (hs:Oh τ (cM ops.toList i aA E0) o.op=some (x,sh)) (w:DD (i::td) ((d,sh B.length)::aA) E0 (B++[some x]) L):DD td aA E0 B L
 | Pe {td:List Nat} {aA E0:Env} {B:List (Option Bx)} {L:LH} (pe:List Nat) (Q:Nat->SV->List (Option Bx)->LH->Prop) (e0:Nat) (h0:Nat.blt e0 ops.size=true) (zF:iX td e0=false) (oe:qY ops.toList td pe ops.size=true)
   (he:∀e∈pe,qv td (eM ops.toList e)=true->∃o,nth ops.toList e=some o/\bG (cM ops.toList e aA E0) ops.toList o.guard=some true/\
    ∀(T:Array Value) (R:LH) (β:Nm),bS β (cM ops.toList e aA E0) T->bJ C.L0 C.R0 β B L R->MH C.X o T R (λv R'=>∃sv B' L',Q e sv B' L'/\den β sv=some v/\bJ C.L0 C.R0 β B' L' R'/\∀kk,β kk=none->B'[kk]?=B[kk]?))
   (hq:∀e∈pe,qv td (eM ops.toList e)=true->∀sv B' L',Q e sv B' L'->Le Lf L'/\B'.length=B.length/\(B'.take m=B.take m\/BY ops.toList (eM ops.toList e) td=true))
   (w:∀e∈pe,qv td (eM ops.toList e)=true->∀sv B' L',Q e sv B' L'->DD (e::td) (Bv (ec ops e) sv aA) E0 B' L'):DD td aA E0 B L
 | cz {td:List Nat} {aA E0:Env} {B:List (Option Bx)} {L:LH} (p:Nat) {d kk:Nat} {x:Bx} {cs:List Value} (hp:iX td p=true) (hd:ec ops p=some d) (hs:(∃off,get aA d=some (.p kk off))\/(∃off len cap,get aA d=some (.sl kk off len cap))) (hm:Nat.ble m kk=true)
   (e0:Nat) (h0:Nat.blt e0 ops.size=true) (zF:iX td e0=false) (oe:Ka ops.toList td p ops.size=true) (hx:nth B kk=some (some x)) (hc:cW fe x.cells=some cs)
   (w:∀b,L b=none->C.R0 b=none->DD td (Kn kk b aA) E0 (B.set kk none) (L.put b (.cells cs.toArray x.ty))):DD td aA E0 B L
 | pan {td:List Nat} {aA E0:Env} {B:List (Option Bx)} {L:LH} (e0:Nat) {o:Oper} (h0:Nat.blt e0 ops.size=true) (zF:iX td e0=false) (oe:qY ops.toList td [e0] ops.size=true) (ho:nth ops.toList e0=some o) (hg:bG (cM ops.toList e0 aA E0) ops.toList o.guard=some true)
   (he:∀(T:Array Value) (R:LH) (β:Nm) (k':List Item),T.size=n->bS β (cM ops.toList e0 aA E0) T->bJ C.L0 C.R0 β B L R->iU o.op=false/\
    aP P (jP P C.X.Go (Fr C.f T k' ds .run C.kd C.ro) C.cs .normal) (qZ C.X.Go (Fr C.f T k' ds .run C.kd C.ro) C.cs) (execOp (ev T) o) R):DD td aA E0 B L
 | rest {td:List Nat} {aA E0:Env} {B:List (Option Bx)} {L:LH} (e0:Nat) (h0:Nat.blt e0 ops.size=true) (zF:iX td e0=false) (oe:RS (e0::td) ops.size=true) (ajT:BY ops.toList (eM ops.toList e0) td=true)
   (w:W C n ds (.inRegion ops [e0]::k) (aA++E0) B L):DD td aA E0 B L
 | lit {td:List Nat} {aA E0:Env} {B:List (Option Bx)} {L:LH} (s:Nat) {p:Bool} (hs:get aA s=some (.v (.bool p))) (w:DD td ((s,.lit p)::aA) E0 B L):DD td aA E0 B L
 | fin {td:List Nat} {aA E0:Env} {B:List (Option Bx)} {L:LH} (oe:RS td ops.size=true) (w:W C n ds k (aA++E0) B L):DD td aA E0 B L
end
section
variable {P:aV}{C:Cx P}{τ:TT}{n:Nat}{ds:cj}{ops:cU}{k:bI}{m:Nat}{Lf:LH}
def get_append(aA i:Env)(s:Nat):get (aA++i) s=match get aA s with | some y=>some y | none=>get i s:=by
 induction aA with
 | nil=>rfl
 | cons y aA r=>
  let⟨b,y⟩:=y;rw[List.cons_append,dO,dO]
  by_cases e:b=s
  .rw[ax e,ax e]
  .rwa[A e,A e]
theorem nu(u:kC ops=true){i j s:Nat}(v:ec ops i=s)(t:ec ops j=s):i=j:=by
 let d:∀{i:Nat},ec ops i=s->i<ops.size:=λ{i} h=>by
  unfold ec at h;cases z:ops[i]? with
  | none=>rw[z] at h;cases h
  | some o=>exact(iL.1 z).1
 let q:=mK.1 (mK.1 u i (fo.2 (d v))) j (fo.2 (d t));rw[v,t] at q
 simpa using q
theorem pI{s j:Nat}(h:writer s ops.toList 0=j):ec ops j=s:=by
 obtain⟨_,o,q,z⟩:=yj h;unfold ec;rw[wH,iN] at q;rw[q];exact z
theorem Xo{s:Nat}(h:writer s ops.toList 0=none)(j:Nat):ec ops j≠s:=by
 unfold ec;cases u:ops[j]? with
 | none=>simp
 | some o=>exact yi h j o (by rwa[iN])
def Told(P:aV)(C:Cx P)(n:Nat)(ops:cU)(m:Nat)(Lf:LH)(aA E0:Env)(B:aX)(β:Nm)(pend:Gk)(i:Nat):Prop:=
  ∃o d sv,ops[i]?=some o/\o.dst=some d/\get aA d=some sv/\
    ((pend i=none/\∀(T:aK) (R:LH) (γ:Nm),Dj β γ->bS γ (cM ops.toList i aA E0) T->vM γ (B.take m) R->Le Lf R->∃v,den γ sv=some v/\Yld C.X ops T R o v)\/
     (∃kk x,pend i=some kk/\B[kk]?=some (some x)/\β kk=none/\∀(T:aK) (γ:Nm),Dj β γ->bS γ (cM ops.toList i aA E0) T->Region.wanted o (yielded ops T)=true/\iU o.op=false/\
        ∃cs mk,cW γ x.cells=some cs/\(∀(UO:Nm) (b:Nat),UO kk=b->den UO sv=mk b)/\∀ty R,Df P o.op ty T R mk (.cells cs.toArray x.ty)))
structure Inv(C:Cx P)(n:Nat)(ops:Array Oper)(m:Nat)(Lf:LH)(td:List Nat)(aA E0:Env)(B:List (Option Bx))(L:LH)(S:List Nat)(T:Array Value)(R:LH)(β:Nm)(pend:Nat->Option Nat):Prop where
 hT:T.size=n
 hS:∀i∈S,i∈td/\i<ops.size/\∀j∈iJ ops i,j∈S
 hC:∀i∈td,∀j∈iJ ops i,j∈td
 hE:∀s x,get E0 s=some x->(∀j∈S,ec ops j≠some s)->den β x=some (T.getD s undef)
 hV:∀j∈S,∀s x,ec ops j=some s->get aA s=some x->den β x=some (T.getD s undef)
 hK:∀s x,get aA s=some x->∃j,j∈td/\ec ops j=some s
 hN:∀j∈td,∀s,ec ops j=some s->get aA s≠none
 hH:bJ C.L0 C.R0 β B L R
 hL:Le Lf L
 hm:m<=B.length
 hI:∀i i' kk,pend i=some kk->pend i'=some kk->i=i'
 hP:∀i kk,pend i=some kk->kk<B.length
 hD:∀i∈td,i∉S->Told P C n ops m Lf aA E0 B β pend i
def Inv.env{o:Env}{S:aU}{T:aK}{v:Gk}(h:Inv C n ops m Lf q F o B L S T R N v)(d:kC ops=true){i:Nat}(g:i∉S)(c:∀j∈iJ ops i,j∈S):bS N (cM ops.toList i F o) T:=by
 intro s x u;unfold cM at u
 split at u
 .rename_i f;exact h.hE s x u λj _=>Xo f j
 .rename_i j f;have t:=pI f
  split at u
  .rename_i z;rw[kp] at z;exact h.hV j (c j (iT.1 z)) s x t u
  .split at u
   .rename_i z;rw[kp] at z;refine h.hE s x u λy a e=>?_;obtain rfl:=nu d e t;exact g ((h.hS y a).2.2 i (iT.1 z))
   .cases u
def Inv.low{i:Env}{S:aU}{T:aK}{v:Gk}(h:Inv C n ops m Lf q F i B L S T R N v):vM N (B.take m) R:=λk b x f u=>by
 by_cases e:k<m
 .rw[List.getElem?_take_of_lt e] at u;exact h.hH.boxes k b x f u
 .rw[mh Lo] at u;cases u
theorem Inv.exec{E0:Env}{S:aU}{T:aK}{D:Gk}(h:Inv C n ops m Lf q F E0 B L S T R N D)(u8:kC ops=true)(hz:AM ops n=true){i:Nat}{l:aU}(ht:i∈q)(hi:i∉S)(u2:i<ops.size)(hd:∀j∈iJ ops i,j∈S)
  (w:∀J R' Mi W,Inv C n ops m Lf q F E0 B L (i::S) J R' Mi W->C.X.Go (G (Fr C.f J (.inRegion ops l::k) ds .run C.kd C.ro) C.cs) R'):C.X.Go (G (Fr C.f T (.inRegion ops (i::l)::k) ds .run C.kd C.ro) C.cs) R:=by
 let u3:=h.env u8 hi hd;obtain⟨o,d,y,ho,p,u9,E⟩:=h.hD i ht hi;let r:ec ops i=some d:=by unfold ec;rw[ho];exact p
 let u4:d<n:=by
  have:=mK.1 hz i (fo.2 u2);rw[r] at this
  simpa using this
 let u5:∀j∈i::S,j∈q/\j<ops.size/\∀j'∈iJ ops j,j'∈i::S:=λj hj=>by
  rcases eP.1 hj with rfl | hj
  ·exact⟨ht,u2,λj' t=>fG _ (hd j' t)⟩
  ·exact⟨(h.hS j hj).1,(h.hS j hj).2.1,λj' t=>fG _ ((h.hS j hj).2.2 j' t)⟩
 -- C4 I behind it
 let I:∀(γ:Nm) (v:Value) (J:aK),Dj N γ->den γ y=some v->Upd T J d v->(∀s x,get E0 s=some x->(∀j∈i::S,ec ops j≠some s)->den γ x=some (J.getD s undef))/\(∀j∈i::S,∀s x,ec ops j=some s->get F s=some x->den γ x=some (J.getD s undef)):=by
  intro γ v J K g u;refine⟨λs x hx hj=>?_,λj hj s x hs hx=>?_⟩
  .let q0:s≠d:=λe=>hj i fC (by rw[e];exact r);rw[u.other s (by simpa using q0)];exact pq K (h.hE s x hx λj t=>hj j (fG _ t))
  .by_cases e:s=d
   .subst e;rw[u9] at hx;cases hx;rw[u.same];exact g
   .rw[u.other s xQ];rcases eP.1 hj with rfl | hj
    .rw[r] at hs;cases hs;exact ar rfl e
    .exact pq K (h.hV j hj s x hs hx)
 rcases E with⟨hp,hY⟩ | ⟨kk,x,hp,hB,hk,hA⟩
 .obtain⟨v,g,hy⟩:=hY T R N (λ_ _ e=>e) u3 h.low (h.hL.trans h.hH.le);refine ZS ho hy λJ u6=>?_;rw[p] at u6;let u:=u6 (by rw[h.hT];exact u4);obtain⟨s1,s2⟩:=I N v J (λ_ _ e=>e) g u;refine w J R N D ⟨u.size.trans h.hT,u5,h.hC,s1,s2,h.hK,h.hN,h.hH,h.hL,h.hm,h.hI,h.hP,λj hj t=>h.hD j hj λe=>t (fG _ e)⟩
 .obtain⟨hw,u7,cs,mk,h1,z,h3⟩:=hA T N (λ_ _ e=>e) u3;refine C.X.op ho hw (.inr λc hc=>by rw[hc] at u7;cases u7) ?_;obtain⟨q1,op,ty,q2,af,gd⟩:=o;refine h3 ty R q1 q2 af gd _ _ λb hb=>?_;show C.X.Go (G ((Fr C.f T (.inRegion ops (i::l)::k) ds .run C.kd C.ro).finish (mk b)) C.cs) _;rw[tG ho p];let u:=AB (mk b) (show d<T.size by rw[h.hT];exact u4);let K:=Nm.Qi hk b;obtain⟨s1,s2⟩:=I (N.set kk b) (mk b) _ K (z _ b (Nm.pE _ _ _)) u;refine w _ _ (N.set kk b) (λj=>if j=i then none else D j) ⟨u.size.trans h.hT,u5,h.hC,s1,s2,h.hK,h.hN,h.hH.name hb hk hB h1,h.hL,h.hm,λa a' c Q e2=>?_,λa c Q=>?_,λj hj t=>?_⟩
  .try simp only at Q e2
   split at Q
   .cases Q
   .split at e2
    .cases e2
    .exact h.hI a a' c Q e2
  .try simp only at Q
   split at Q
   .cases Q
   .exact h.hP a c Q
  .let u1:j≠i:=λe=>t (by rw[e];exact fC);obtain⟨o',d',q3,g1,g2,g3,g4⟩:=h.hD j hj λe=>t (fG _ e);refine⟨o',d',q3,g1,g2,g3,?_⟩;rcases g4 with⟨g5,g6⟩ | ⟨Bj,x',g5,g6,g7,g8⟩
   .exact .inl ⟨by simp[u1,g5],λJ R' γ H=>g6 J R' γ (λa c e=>H a c (K a c e))⟩
   .refine .inr ⟨Bj,x',by simp[u1,g5],g6,?_,λJ γ H=>g8 J γ (λa c e=>H a c (K a c e))⟩;rw[Nm.Ic _ _ (λe=>by subst e;exact u1 (h.hI _ _ _ g5 hp))];exact g7
def vA(f:kC ops=true)(g:∀i∈q,∀j∈iJ ops i,j∈q){m:Env}{j i d:Nat}(t:j∈q)(c:i∉q)(a:ec ops i=some d){T:aK}(h:bS N (cM ops.toList j ((d,z)::F) m) T):bS N (cM ops.toList j F m) T:=by
 intro s x u;refine h s x ?_;unfold cM at u ⊢;cases o:writer s ops.toList 0 with
 | none=>rw[o] at u;exact u
 | some p=>
  rw[o] at u;simp only at u ⊢;cases v:iX (eM ops.toList j) p with
  | true=>
   rw[v] at u;rw[dO,A (λe=>?_)]
   .exact u
   .subst e;have:=nu f a (pI o);subst this;rw[kp] at v;exact c (g j t _ (iT.1 v))
  | false=>rw[v] at u;exact u
def Inv.YQ{K:Env}{v:aX}{S:aU}{T:aK}{f l:Gk}(h:Inv C n ops m Lf q F K B L S T R N f)(u:kC ops=true){i d:Nat}{o:Oper}(ho:ops[i]?=o)(hd:o.dst=d)(J:i∉q)(D:∀j∈iJ ops i,j∈q)
  (hB:v.take m=B.take m)(p:∀(g:Nat) (x:Bx),B[g]?=x->v[g]?=x)(G:m<=v)(hH:bJ C.L0 C.R0 N v L R)(hp:∀j,j≠i->l j=f j)(hI:∀i i' g,l i=some g->l i'=g->i=i')(hP:∀i g,l i=some g->g<v)
  (w:Told P C n ops m Lf ((d,z)::F) K v N l i):Inv C n ops m Lf (i::q) ((d,z)::F) K v L S T R N l:=by
 let r:ec ops i=d:=by unfold ec;rw[ho];exact hd
 refine⟨h.hT,λj t=>⟨fG _ (h.hS j t).1,(h.hS j t).2⟩,λj t j' a=>?_,h.hE,λj t s x b I=>?_,λs x I=>?_,λj t s b=>?_,hH,h.hL,G,hI,hP,λj t a=>?_⟩
 .rcases eP.1 t with rfl | t
  .exact fG _ (D j' a)
  .exact fG _ (h.hC j t j' a)
 .let H:d≠s:=λe=>by
   subst e;obtain rfl:=nu u r b;exact J (h.hS _ t).1
  rw[dO,A H] at I;exact h.hV j t s x b I
 .rw[dO] at I
  by_cases e:d=s
  .exact⟨i,fC,by rw[r,e]⟩
  .rw[A e] at I;obtain⟨j,h1,h2⟩:=h.hK s x I;exact⟨j,fG _ h1,h2⟩
 .rw[dO]
  by_cases e:d=s
  .rw[ax e];simp
  .rw[A e];rcases eP.1 t with rfl | t
   .rw[r] at b;cases b;exact ar rfl e
   .exact h.hN j t s b
 .rcases eP.1 t with rfl | t
  .exact w
  .let c:j≠i:=λe=>J (e▸t);obtain⟨o',k,Q,g1,g2,g3,g4⟩:=h.hD j t a;let W:d≠k:=λe=>by
    subst e;exact c (nu u (by unfold ec;rw[g1];exact g2) r)
   refine⟨o',k,Q,g1,g2,by rw[dO,A W];exact g3,?_⟩;rcases g4 with⟨g5,g6⟩ | ⟨Bj,x',g5,g6,g7,g8⟩
   .exact .inl ⟨by rw[hp j c];exact g5,λX R' γ y E u1=>g6 X R' γ y (vA u h.hC t J r E) (by rw[<-hB];exact u1)⟩
   .exact .inr ⟨Bj,x',by rw[hp j c];exact g5,p _ _ g6,g7,λX γ y E=>g8 X γ y (vA u h.hC t J r E)⟩
def DD.run(hτ:τ.Ok P)(u3:kC ops=true)(hz:AM ops n=true){E0:Env}(h:DD C τ n ds ops k m Lf q F E0 B L):∀(l S:aU) (T:aK) (R:LH) (β:Nm) (pend:Gk),U9 ops S l->Inv C n ops m Lf q F E0 B L S T R β pend->
  C.X.Go (G (Fr C.f T (.inRegion ops l::k) ds .run C.kd C.ro) C.cs) R:=by
 have K:∀{i:Nat} {o:Oper},nth ops.toList i=some o->ops[i]?=some o:=λh=>by rw[dF,iN] at h;exact h
 have q9:∀{q:aU} {i:Nat},iX q i=false->i∉q:=λh e=>by rw[iT.2 e] at h;cases h
 induction h with
 | @reg q F E0 B L i o d sv ho hn Jw hd v0 hg hv w ih=>
  intro l S T R β pend hl I;have W:=q9 hn;have i6:pend i=none\/True:=.inr trivial;have u4:∀j∈iJ ops i,j∈q:=λj hj=>Bf Jw j QR;refine ih l S T R β (λj=>if j=i then none else pend j) hl (I.YQ u3 (K ho) hd W u4 rfl (λ_ _ e=>e) I.hm I.hH (λj hj=>by simp[hj]) (λa a' c e1 e2=>?_) (λa c e1=>?_) ?_)
  .try simp only at e1 e2
   split at e1
   .cases e1
   .split at e2
    .cases e2
    .exact I.hI a a' c e1 e2
  .try simp only at e1
   split at e1
   .cases e1
   .exact I.hP a c e1
  .refine⟨o,d,sv,K ho,hd,QS,.inl ⟨U,λT' r γ _ hE hB hR=>?_⟩⟩;have u5:bS γ (cM ops.toList i F E0) T':=λs x J=>by
    refine hE s x ?_;unfold cM at J ⊢;cases hw:writer s ops.toList 0 with
    | none=>rw[hw] at J;exact J
    | some p=>
     rw[hw] at J;simp only at J ⊢;cases H:iX (eM ops.toList i) p with
     | true=>
      rw[H] at J;simp only at J ⊢;rw[dO,A (λe=>?_)]
      .exact J
      .subst e;have:=nu u3 (show ec ops i=some d by unfold ec;rw[K ho];exact hd) (pI hw);subst this;rw[kp] at H;exact W (u4 _ (iT.1 H))
     | false=>rw[H] at J;exact J
   obtain⟨v,H,h2⟩:=hv T' r γ u5 hB hR;exact⟨v,H,.inl ⟨cA u5 hg,v0,h2 _⟩⟩
 | @pk q F E0 B L i o d t x a v ho hn Jw hd hg hop ht J hpk w ih=>
  intro l S T R β pend hl I;have W:=q9 hn;have i6:pend i=none\/True:=.inr trivial;have u4:∀j∈iJ ops i,j∈q:=λj hj=>Bf Jw j QR;refine ih l S T R β (λj=>if j=i then none else pend j) hl (I.YQ u3 (K ho) hd W u4 rfl (λ_ _ e=>e) I.hm I.hH (λj hj=>by simp[hj]) (λa a' c e1 e2=>?_) (λa c e1=>?_) ?_)
  .try simp only at e1 e2
   split at e1
   .cases e1
   .split at e2
    .cases e2
    .exact I.hI a a' c e1 e2
  .try simp only at e1
   split at e1
   .cases e1
   .exact I.hP a c e1
  .refine⟨o,d,.v v,K ho,hd,QS,.inl ⟨U,λT' r γ _ hE hB hR=>?_⟩⟩;have u5:bS γ (cM ops.toList i F E0) T':=λs x J=>by
    refine hE s x ?_;unfold cM at J ⊢;cases hw:writer s ops.toList 0 with
    | none=>rw[hw] at J;exact J
    | some p=>
     rw[hw] at J;simp only at J ⊢;cases H:iX (eM ops.toList i) p with
     | true=>
      rw[H] at J;simp only at J ⊢;rw[dO,A (λe=>?_)]
      .exact J
      .subst e;have:=nu u3 (show ec ops i=some d by unfold ec;rw[K ho];exact hd) (pI hw);subst this;rw[kp] at H;exact W (u4 _ (iT.1 H))
     | false=>rw[H] at J;exact J
   exact⟨v,rfl,.inr (.inr ⟨cA u5 hg,t,x,a,hop,ht,(bR (u5.val J)).symm,hpk⟩)⟩
 | @no q F E0 B L i o d ho hn Jw hd hg w ih=>
  intro l S T R β pend hl I;have W:=q9 hn;have u4:∀j∈iJ ops i,j∈q:=λj hj=>Bf Jw j QR;refine ih l S T R β (λj=>if j=i then none else pend j) hl (I.YQ u3 (K ho) hd W u4 rfl (λ_ _ e=>e) I.hm I.hH (λj hj=>by simp[hj]) (λa a' c e1 e2=>?_) (λa c e1=>?_) ?_)
  .try simp only at e1 e2
   split at e1
   .cases e1
   .split at e2
    .cases e2
    .exact I.hI a a' c e1 e2
  .try simp only at e1
   split at e1
   ·cases e1
   ·exact I.hP a c e1
  ·refine⟨o,d,_,K ho,hd,QS,.inl ⟨U,λT' r γ _ hE hB hR=>?_⟩⟩;have u5:bS γ (cM ops.toList i F E0) T':=λs x J=>by
    refine hE s x ?_;unfold cM at J ⊢;cases hw:writer s ops.toList 0 with
    | none=>rw[hw] at J;exact J
    | some p=>
     rw[hw] at J;simp only at J ⊢;cases H:iX (eM ops.toList i) p with
     | true=>
      rw[H] at J;simp only at J ⊢;rw[dO,A (λe=>?_)]
      .exact J
      .subst e;have:=nu u3 (show ec ops i=some d by unfold ec;rw[K ho];exact hd) (pI hw);subst this;rw[kp] at H;exact W (u4 _ (iT.1 H))
     | false=>rw[H] at J;exact J
   exact⟨undef,rfl,.inr (.inl ⟨cA u5 hg,rfl⟩)⟩
 | @alc q F E0 B L i o d x sh ho hn Jw hd hg hs w ih=>
  intro l S T R β pend hl I;have W:=q9 hn;have u4:∀j∈iJ ops i,j∈q:=λj hj=>Bf Jw j QR;obtain⟨z4,z7⟩:=I.hH.more x;refine ih l S T R β (λj=>if j=i then some B.length else pend j) hl (I.YQ u3 (K ho) hd W u4 (by rw[List.take_append_of_le_length I.hm]) (λkk y hy=>by rw[kS (eO.1 hy).1];exact hy) (by simp;have:=I.hm;omega) z4 (λj hj=>by simp[hj]) (λa a' c e1 e2=>?_) (λa c e1=>?_) ?_)
  .try simp only at e1 e2
   split at e1
   .rename_i ea;cases e1
    split at e2
    .rename_i eb;rw[ea,eb]
    .exact ar (I.hP _ _ e2) (Nat.lt_irrefl _)
   .split at e2
    .cases e2;exact ar (I.hP _ _ e1) (Nat.lt_irrefl _)
    .exact I.hI a a' c e1 e2
  .try simp only at e1
   split at e1
   .cases e1;simp
   .have:=I.hP a c e1;simp;omega
  .refine⟨o,d,_,K ho,hd,QS,.inr ⟨B.length,x,U,U,z7,λT' γ _ hE=>?_⟩⟩;have u5:bS γ (cM ops.toList i F E0) T':=λs y J=>by
    refine hE s y ?_;unfold cM at J ⊢;cases hw:writer s ops.toList 0 with
    | none=>rw[hw] at J;exact J
    | some p=>
     rw[hw] at J;simp only at J ⊢;cases H:iX (eM ops.toList i) p with
     | true=>
      rw[H] at J;simp only at J ⊢;rw[dO,A (λe=>?_)]
      .exact J
      .subst e;have:=nu u3 (show ec ops i=some d by unfold ec;rw[K ho];exact hd) (pI hw);subst this;rw[kp] at H;exact W (u4 _ (iT.1 H))
     | false=>rw[H] at J;exact J
   obtain⟨cs,mk,e1,e2,e3⟩:=TW hτ u5 hs;exact⟨cA u5 hg,Ho hs,cs,mk,e1,λUO b hb=>e2 UO _ b hb,e3⟩
 | @Pe q F E0 B L pe Q e0 h0 zF oe he hq w ih=>
  intro l
  induction l with
  | nil=>
   intro S T R β pend hl I;cases hl with
   | nil xB=>exact ar (I.hS e0 (xB e0 (eH h0))).1 (q9 zF)
  | cons i l u8=>
   intro S T R β pend hl I;cases hl with
   | cons hi W hd D=>
    by_cases ht:i∈q
    .exact I.exec u3 hz ht W hi hd λT' r Mi u1 u9=>u8 _ T' r Mi u1 D u9
    .have v1:∀j∈iJ ops i,j∈q:=λj hj=>(I.hS j (hd j hj)).1;have v5:=FN oe i hi ht (λj hj=>v1 j F2);have u7:qv q (eM ops.toList i)=true:=EG λj hj=>v1 j F2;obtain⟨o,ho,hg,z8⟩:=he i v5 u7;have v6:=I.env u3 W hd;obtain⟨v0,hE⟩:=z8 T R β v6 I.hH;refine C.X.op (K ho) (cA v6 hg) (.inr λc hc=>by rw[hc] at v0;cases v0) (lF ?_ (λ_ _ h=>h.elim) _ _ hE);have go:∀v r,(∃sv B' L',Q i sv B' L'/\den β sv=some v/\bJ C.L0 C.R0 β B' L' r/\∀kk,β kk=none->B'[kk]?=B[kk]?)->C.X.Go (G ((Fr C.f T (.inRegion ops (i::l)::k) ds .run C.kd C.ro).finish v) C.cs) r:=by
      rintro v r ⟨sv,B',L',hQ,hv,z4,d9⟩;obtain⟨q1,q2,q3⟩:=hq i v5 u7 sv B' L' hQ;have i0:∀j∈i::S,j∈i::q/\j<ops.size/\∀j'∈iJ ops j,j'∈i::S:=λj hj=>by
       rcases eP.1 hj with rfl | hj
       .exact⟨fC,hi,λj' E=>fG _ (hd j' E)⟩
       .exact⟨fG _ (I.hS j hj).1,(I.hS j hj).2.1,λj' E=>fG _ ((I.hS j hj).2.2 j' E)⟩
      have i1:∀j∈i::q,∀j'∈iJ ops j,j'∈i::q:=λj hj j' E=>by
       rcases eP.1 hj with rfl | hj
       .exact fG _ (v1 j' E)
       .exact fG _ (I.hC j hj j' E)
      have z6:∀{j:Nat},j∈q->j∉S->B'.take m=B.take m:=λ{j} hj E=>by
       rcases q3 with q3 | q3
       .exact q3
       .exact ar (K9 (S:=S) (λk hk j hj=>(I.hS k hk).2.2 j F2) (λk hk=>hd k (by rw[<-kp];exact hk)) q3 j hj) E
      have u6:ec ops i=o.dst:=by unfold ec;rw[K ho];rfl
      cases u2:o.dst with
      | none=>
       rw[xA (K ho) u2];have v7:=ih i v5 u7 sv B' L' hQ l (i::S) T r β pend D;rw[u6,u2] at v7;refine v7 ⟨I.hT,i0,i1,λs x J hj=>I.hE s x J λj E=>hj j (fG _ E),λj hj s x hs J=>?_,λs x J=>?_,λj hj s hs=>?_,z4,q1,by rw[q2];exact I.hm,I.hI,λa c e=>by rw[q2];exact I.hP a c e,λj hj E=>?_⟩
       .rcases eP.1 hj with rfl | hj
        .rw[u6,u2] at hs;cases hs
        .exact I.hV j hj s x hs J
       .obtain⟨j,H,h2⟩:=I.hK s x J;exact⟨j,fG _ H,h2⟩
       .rcases eP.1 hj with rfl | hj
        .rw[u6,u2] at hs;cases hs
        .exact I.hN j hj s hs
       .have v8:j∉S:=λe=>E (fG _ e);have v2:j∈q:=by
         rcases eP.1 hj with rfl | hj
         .exact ar fC E
         .exact hj
        obtain⟨o',d',q0,g1,g2,g3,g4⟩:=I.hD j v2 v8;refine⟨o',d',q0,g1,g2,g3,?_⟩;rcases g4 with⟨g5,g6⟩ | ⟨Bj,x',g5,g6,g7,g8⟩
        .exact .inl ⟨g5,λT' z9 γ yA hE v4=>g6 T' z9 γ yA hE (by rw[<-z6 v2 v8];exact v4)⟩
        .exact .inr ⟨Bj,x',g5,by rw[d9 Bj g7];exact g6,g7,g8⟩
      | some d=>
       rw[tG (K ho) u2];have i7:d<T.size:=by
        have:=mK.1 hz i (fo.2 hi);rw[u6,u2] at this;rw[I.hT];simpa using this
       have u:=AB v i7;have v7:=ih i v5 u7 sv B' L' hQ l (i::S) (T.setIfInBounds d v) r β pend D;rw[u6,u2] at v7;refine v7 ⟨u.size.trans I.hT,i0,i1,λs x J hj=>?_,λj hj s x hs J=>?_,λs x J=>?_,λj hj s hs=>?_,z4,q1,by rw[q2];exact I.hm,I.hI,λa c e=>by rw[q2];exact I.hP a c e,λj hj E=>?_⟩
       .have z5:s≠d:=λe=>hj i fC (by rw[e,u6];exact u2);rw[u.other s (by simpa using z5)];exact I.hE s x J λj E=>hj j (fG _ E)
       .simp only[Bv] at J;rw[dO] at J
        by_cases e:d=s
        .subst e;rw[ax rfl] at J;cases J;rw[u.same];exact hv
        .rw[A e] at J;rw[u.other s (by simpa using dG e)];rcases eP.1 hj with rfl | hj
         .rw[u6,u2] at hs;cases hs;exact ar rfl e
         .exact I.hV j hj s x hs J
       .simp only[Bv] at J;rw[dO] at J
        by_cases e:d=s
        .exact⟨i,fC,by rw[u6,u2,e]⟩
        .rw[A e] at J;obtain⟨j,H,h2⟩:=I.hK s x J;exact⟨j,fG _ H,h2⟩
       .simp only[Bv];rw[dO]
        by_cases e:d=s
        .rw[ax e];simp
        .rw[A e];rcases eP.1 hj with rfl | hj
         .rw[u6,u2] at hs;cases hs;exact ar rfl e
         .exact I.hN j hj s hs
       .have v8:j∉S:=λe=>E (fG _ e);have v2:j∈q:=by
         rcases eP.1 hj with rfl | hj
         .exact ar fC E
         .exact hj
        have i8:j≠i:=λe=>E (by rw[e];exact fC);obtain⟨o',d',q0,g1,g2,g3,g4⟩:=I.hD j v2 v8;have d0:ec ops i=some d:=by rw[u6];exact u2
        have v9:d≠d':=λe=>by
         subst e;exact i8 (nu u3 (by unfold ec;rw[g1];exact g2) d0)
        refine⟨o',d',q0,g1,g2,by simp only[Bv];rw[dO,A v9];exact g3,?_⟩;rcases g4 with⟨g5,g6⟩ | ⟨Bj,x',g5,g6,g7,g8⟩
        .exact .inl ⟨g5,λT' z9 γ yA hE v4=>g6 T' z9 γ yA (vA u3 I.hC v2 ht d0 hE) (by rw[<-z6 v2 v8];exact v4)⟩
        .exact .inr ⟨Bj,x',g5,by rw[d9 Bj g7];exact g6,g7,λT' γ yA hE=>g8 T' γ yA (vA u3 I.hC v2 ht d0 hE)⟩
     intro nx L1 z1;cases nx <;> first | exact z1.elim | skip
     .exact go _ _ z1
     .exact go _ _ z1
     .obtain⟨Q',d1,d2⟩:=z1;exact d1 .normal _ _ (.inl rfl) (λv L' hv=>go v L' (d2 v L' hv)) (λ_ _ h=>h.elim)
     .obtain⟨Q',d1,d2⟩:=z1;exact d1 _ _ (λv L' hv=>go v L' (d2 v L' hv))
 | @cz q F E0 B L p d kk x cs hp hd hs hm e0 h0 zF oe J hc w ih=>
  intro l
  induction l with
  | nil=>
   intro S T R β pend hl I;cases hl with
   | nil xB=>exact ar (I.hS e0 (xB e0 (eH h0))).1 (q9 zF)
  | cons i l u8=>
   intro S T R β pend hl I
   by_cases d3:p∈S
   .have hb:∃b,β kk=some b:=by
     rcases hs with⟨off,hs⟩ | ⟨off,len,cap,hs⟩
     .obtain⟨b,hb,_⟩:=sH (I.hV p d3 d _ hd hs);exact⟨b,hb⟩
     .have:=I.hV p d3 d _ hd hs;unfold den at this;cases hk:β kk with
      | none=>rw[hk] at this;cases this
      | some b=>exact⟨b,rfl⟩
    obtain⟨b,hb⟩:=hb;have i2:B[kk]?=some (some x):=by rw[<-dF];exact J
    obtain⟨g1,g2⟩:=I.hH.cz hb i2 hc;have i9:=qE hm;have f0:(B.set kk none).take m=B.take m:=by rw[List.take_set_of_le i9]
    have conv:∀{γ:Nm} {j:Nat} {T':aK},Dj β γ->bS γ (cM ops.toList j (Kn kk b F) E0) T'->bS γ (cM ops.toList j F E0) T':=λ{γ j T'} yA hE s y hy=>by
     unfold cM at hy;cases hw:writer s ops.toList 0 with
     | none=>
      rw[hw] at hy;exact hE s y (by unfold cM;rw[hw];exact hy)
     | some g=>
      rw[hw] at hy;simp only at hy;cases H:iX (eM ops.toList j) g with
      | true=>
       rw[H] at hy;simp only at hy;have:=hE s (oo kk b y) (by unfold cM;rw[hw];simp only;rw[H];simp only;rw[rf,hy];rfl);rw[rh (yA _ _ hb)] at this;exact this
      | false=>
       rw[H] at hy;exact hE s y (by unfold cM;rw[hw];simp only;rw[H];exact hy)
    refine ih b g1 (I.hH.box kk b x hb i2).2.1 (i::l) S T R β pend hl ⟨I.hT,I.hS,I.hC,I.hE,λj hj s y d4 hy=>?_,λs y hy=>?_,λj hj s d4=>?_,g2,I.hL.trans (Le.put g1 _),by simpa using I.hm,I.hI,λa c e=>by simpa using I.hP a c e,λj hj E=>?_⟩
    .rw[rf,il] at hy;obtain⟨z,H,rfl⟩:=hy;rw[rh hb];exact I.hV j hj s z d4 H
    .rw[rf,il] at hy;obtain⟨z,H,rfl⟩:=hy;exact I.hK s z H
    .rw[rf];have:=I.hN j hj s d4;cases hg:get F s with
     | none=>exact ar hg this
     | some y=>simp
    .obtain⟨o',d',q0,q1,q2,q3,q4⟩:=I.hD j hj E;refine⟨o',d',oo kk b q0,q1,q2,by rw[rf,q3];rfl,?_⟩;rcases q4 with⟨q5,q6⟩ | ⟨Bj,x',q5,q6,q7,q8⟩
     .refine .inl ⟨q5,λT' r γ yA hE v4 d5=>?_⟩;obtain⟨v,e1,e2⟩:=q6 T' r γ yA (conv yA hE) (by rw[<-f0];exact v4) d5;exact⟨v,by rw[rh (yA _ _ hb)];exact e1,e2⟩
     .have z5:kk≠Bj:=λe=>by subst e;rw[hb] at q7;cases q7
      refine .inr ⟨Bj,x',q5,by rw[GG z5];exact q6,q7,λT' γ yA hE=>?_⟩;obtain⟨f1,f2,d6,mk,f3,f4,f5⟩:=q8 T' γ yA (conv yA hE);refine⟨f1,f2,d6,mk,f3,λUO c d7=>?_,f5⟩;have i3:=f4 UO c d7
      -- C4 shape names box Bj alone
      have h4:=f4 (fe.set Bj c) c (Nm.pE _ _ _);have:oo kk b q0=q0:=Ko (by rw[Nm.Ic _ _ z5];rfl) h4;rw[this];exact i3
   .cases hl with
    | cons hi W v9 D=>
     by_cases ht:i∈q
     .exact I.exec u3 hz ht W hi v9 λT' r Mi u1 u9=>u8 _ T' r Mi u1 D u9
     .have v1:∀j∈iJ ops i,j∈q:=λj hj=>(I.hS j (v9 j hj)).1;have:=N1 oe i hi ht (λj hj=>v1 j F2);rw[kp] at this;exact ar (v9 p this) d3
 | @pan q F E0 B L e0 o h0 zF oe ho hg he=>
  intro l
  induction l with
  | nil=>
   intro S T R β pend hl I;cases hl with
   | nil xB=>exact ar (I.hS e0 (xB e0 (eH h0))).1 (q9 zF)
  | cons i l u8=>
   intro S T R β pend hl I;cases hl with
   | cons hi W hd D=>
    by_cases ht:i∈q
    .exact I.exec u3 hz ht W hi hd λT' r Mi u1 u9=>u8 _ T' r Mi u1 D u9
    .have v1:∀j∈iJ ops i,j∈q:=λj hj=>(I.hS j (hd j hj)).1;have v5:=FN oe i hi ht (λj hj=>v1 j F2);obtain rfl:=dJ.1 v5;have v6:=I.env u3 W hd;obtain⟨v0,hE⟩:=he T R β (.inRegion ops (i::l)::k) I.hT v6 I.hH;exact C.X.op (K ho) (cA v6 hg) (.inr λc hc=>by rw[hc] at v0;cases v0) hE
 | @rest q F E0 B L e0 h0 zF oe u7 w=>
  intro l
  induction l with
  | nil=>
   intro S T R β pend hl I;cases hl with
   | nil xB=>exact ar (I.hS e0 (xB e0 (eH h0))).1 (q9 zF)
  | cons i l u8=>
   intro S T R β pend hl I;cases hl with
   | cons hi W hd D=>
    by_cases ht:i∈q
    .exact I.exec u3 hz ht W hi hd λT' r Mi u1 u9=>u8 _ T' r Mi u1 D u9
    .have f6:i=e0:=(eP.1 (Dy oe i hi)).resolve_right ht;subst f6;have i4:∀j∈q,j∈S:=K9 (λa ha j hj=>(I.hS a ha).2.2 j F2) (λa ha=>hd a (by rw[<-kp];exact ha)) u7;have d8:∀j,j<ops.size->j∈i::S:=λj hj=>by
      rcases eP.1 (Dy oe j hj) with e | e
      .exact e▸fC
      .exact fG _ (i4 j e)
     have f7:l=[]:=by
      cases D with
      | nil _=>rfl
      | cons f8 i5 _ _=>exact ar (d8 _ f8) i5
     subst f7;refine w T R β I.hT (λs x J=>?_) I.hH;rw[get_append] at J;cases hv:get F s with
     | some y=>
      rw[hv] at J;cases J;obtain⟨j,H,h2⟩:=I.hK s x hv;exact I.hV j (i4 j H) s x h2 hv
     | none=>
      rw[hv] at J;exact I.hE s x J λj hj e=>I.hN j (I.hS j hj).1 s e hv
 | @lit q F E0 B L s p hs w ih=>
  intro l S T R β pend hl I;have z2:∀t x,get F t=some x->∃y,get ((s,SV.lit p)::F) t=some y/\∀γ,den γ y=den γ x:=λt x J=>by
   rw[dO]
   by_cases e:s=t
   .subst e;rw[hs] at J;cases J;exact⟨.lit p,by rw[ax rfl],λ_=>rfl⟩
   .exact⟨x,by rw[A e];exact J,λ_=>rfl⟩
  have z3:∀t y,get ((s,SV.lit p)::F) t=some y->∃x,get F t=some x/\∀γ,den γ y=den γ x:=λt y hy=>by
   rw[dO] at hy
   by_cases e:s=t
   .subst e;rw[ax rfl] at hy;cases hy;exact⟨_,hs,λ_=>rfl⟩
   .rw[A e] at hy;exact⟨y,hy,λ_=>rfl⟩
  have conv:∀{γ:Nm} {j:Nat} {T':aK},bS γ (cM ops.toList j ((s,SV.lit p)::F) E0) T'->bS γ (cM ops.toList j F E0) T':=λ{γ j T'} hE t y hy=>by
   unfold cM at hy;cases hw:writer t ops.toList 0 with
   | none=>
    rw[hw] at hy;exact hE t y (by unfold cM;rw[hw];exact hy)
   | some g=>
    rw[hw] at hy;simp only at hy;cases H:iX (eM ops.toList j) g with
    | true=>
     rw[H] at hy;obtain⟨z,h2,h3⟩:=z2 t y hy;have:=hE t z (by unfold cM;rw[hw];simp only;rw[H];exact h2);rw[h3] at this;exact this
    | false=>
     rw[H] at hy;exact hE t y (by unfold cM;rw[hw];simp only;rw[H];exact hy)
  refine ih l S T R β pend hl ⟨I.hT,I.hS,I.hC,I.hE,λj hj t y ht hy=>?_,λt y hy=>?_,λj hj t ht=>?_,I.hH,I.hL,I.hm,I.hI,I.hP,λj hj E=>?_⟩
  .obtain⟨x,H,h2⟩:=z3 t y hy;rw[h2];exact I.hV j hj t x ht H
  .obtain⟨x,H,_⟩:=z3 t y hy;exact I.hK t x H
  .have:=I.hN j hj t ht;cases hg:get F t with
   | none=>exact ar hg this
   | some x=>obtain⟨y,H,_⟩:=z2 t x hg;rw[H];simp
  .obtain⟨o',d',q0,q1,q2,q3,q4⟩:=I.hD j hj E;obtain⟨y,H,h2⟩:=z2 d' q0 q3;refine⟨o',d',y,q1,q2,H,?_⟩;rcases q4 with⟨q5,q6⟩ | ⟨Bj,x',q5,q6,q7,q8⟩
   .refine .inl ⟨q5,λT' r γ yA hE v4 d5=>?_⟩;obtain⟨v,e1,e2⟩:=q6 T' r γ yA (conv hE) v4 d5;exact⟨v,by rw[h2];exact e1,e2⟩
   .refine .inr ⟨Bj,x',q5,q6,q7,λT' γ yA hE=>?_⟩;obtain⟨f1,f2,d6,mk,f3,f4,f5⟩:=q8 T' γ yA (conv hE);exact⟨f1,f2,d6,mk,f3,λUO c d7=>by rw[h2];exact f4 UO c d7,f5⟩
 | @fin q F E0 B L oe w=>
  intro l
  induction l with
  | nil=>
   intro S T R β pend hl I;cases hl with
   | nil xB=>
    refine C.X.Kw (w T R β I.hT (λs x J=>?_) I.hH);rw[get_append] at J;cases hv:get F s with
    | some y=>
     rw[hv] at J;cases J;obtain⟨j,H,h2⟩:=I.hK s x hv;have f9:j<ops.size:=by
      unfold ec at h2;cases hy:ops[j]? with
      | none=>rw[hy] at h2;cases h2
      | some o=>exact(iL.1 hy).1
     exact I.hV j (xB j f9) s x h2 hv
    | none=>
     rw[hv] at J;exact I.hE s x J λj hj e=>I.hN j (I.hS j hj).1 s e hv
  | cons i l u8=>
   intro S T R β pend hl I;cases hl with
   | cons hi W hd D=>exact I.exec u3 hz (Dy oe i hi) W hi hd λT' r Mi u1 u9=>u8 _ T' r Mi u1 D u9
theorem W.draw(z:τ.Ok P){o:Nat}(v:Wr ops n=true)(m:Le Lf L)(h:DD C τ n ds ops k B Lf [] [] F B L):W C n ds (.code (.region o ops true)::k) F B L:=by
 intro T R β g c r;let⟨⟨_,q⟩,⟨_,y⟩,⟨_,w⟩,u,p⟩:=afD v;refine C.X.TP λt=>(h.run z u p _ [] T R β (λ_=>none) (Mv q y w t) ⟨g,(λi d=>by cases d),(λi d=>by cases d),(λs x f _=>c s x f),(λj a=>by cases a),(λs x f=>by cases f),(λj a=>by cases a),r,m,dA _,(λ_ _ _ h=>by cases h),(λ_ _ h=>by cases h),(λi d=>by cases d)⟩)
def Oe(τ:TT)(ops:nm)(E0:Env)(m:Nat):List Nat->List Nat->Env->List (Option Bx)->Option (List Nat×Env×List (Option Bx))
 | [],td,aA,B=>some (td,aA,B)
 | i::is,td,aA,B=>match nth ops i,iX td i,qv td (eM ops i) with
  | some o,false,true=>match o.dst with
   | some d=>match bG (cM ops i aA E0) ops o.guard with
    | some true=>match Oj τ (cM ops i aA E0) (B.take m) o.op with
     | some sv=>Oe τ ops E0 m is (i::td) ((d,sv)::aA) B
     | none=>match Oh τ (cM ops i aA E0) o.op with
      | some (x,sh)=>Oe τ ops E0 m is (i::td) ((d,sh B.length)::aA) (B++[some x])
      | none=>none
    | some false=>Oe τ ops E0 m is (i::td) ((d,.v undef)::aA) B
    | none=>none
   | none=>none
  | _,_,_=>none
def DD.go(z:τ.Ok P)(is:aU){u:aU}{aA v:Env}{g:aX}(h:Oe τ ops.toList F m is q aA B=some (u,v,g))(w:DD C τ n ds ops k m Lf u v F g L):DD C τ n ds ops k m Lf q aA F B L:=by
 induction is generalizing q aA B with
 | nil=>cases h;exact w
 | cons i is l=>
  unfold Oe at h
  split at h
  .rename_i o j y a
   split at h
   .rename_i d hd
    split at h
    .rename_i f
     split at h
     .rename_i p t;exact .reg i j y a hd (Ao t) f (λT R β c r _=>KI z c r t) (l h)
     .split at h
      .rename_i x b t;exact .alc i j y a hd f t (l h)
      .cases h
    .rename_i f;exact .no i j y a hd f (l h)
    .cases h
   .cases h
  .cases h
end
variable {n k m:Nat}
class Seat(P:Program) where
 τ:TT
 ok:τ.Ok P
def Vf(P:aV)(op:Op)(E:cK)(B:aX)(L:LH)(sv:SV):Prop:=∀(T:aK) (R:LH) (β:Nm),bS β E T->vM β B R->Le L R->pQ P β op T R sv
def Ef{P:aV}(C:Cx P)(o:Oper)(E:cK)(B:aX)(L:LH)(Q:Az):Prop:=
 ∀(T:aK) (R:LH) (β:Nm),bS β E T->bJ C.L0 C.R0 β B L R->MH C.X o T R (λv R'=>∃sv B' L',Q sv B' L'/\den β sv=some v/\bJ C.L0 C.R0 β B' L' R'/\∀kk,β kk=none->B'[kk]?=B[kk]?)
section
variable {P:aV}[S:Seat P]{C:Cx P}
theorem W.go(m:Nat){v:bI}{u:Env}{q:aX}(h:runK S.τ n [] m K F B=(v,u,q))(w:W C n I v u q L):W C n I K F B L:=W.run S.ok m h w
theorem W.de(j:aU)(m:Nat){v:bI}{u:Env}{q:aX}(h:runK S.τ n j m K F B=(v,u,q))(w:W C n I v u q L):W C n I K F B L:=W.run S.ok m h w
theorem W.ret{q:Func}{H:kP}{g:gn}(r:Rt C q Q H)(a:uP S.τ (get F) B q.results.toList=g)(u:cW fe g=j)(c:Q (lv j) L):W C n [] (.code .ret::K) F B L:=W.adC S.ok r (.inr ⟨K,rfl⟩) a u c
theorem W.lM{q:Func}{H:kP}{g:gn}(r:Rt C q Q H)(a:uP S.τ (get F) B q.results.toList=g)(u:cW fe g=j)(c:Q (lv j) L):W C n [] [] F B L:=W.adC S.ok r (.inl rfl) a u c
theorem W.drawn{x:cU}(v:Wr x n=true)(j:LH)(m:Le j L)(h:DD C S.τ n I x K B j [] [] F B L):W C n I (.code (.region k x true)::K) F B L:=W.draw S.ok v m h
end
section
variable {P:aV}{C:Cx P}
theorem W.vf{x:cU}{u:Op}{l:cR}{o:cZ}(j:nth x.toList k=some ⟨some m,u,t,H,l,o⟩)(v:bG (get F) x.toList o=some true)(p:Nat.blt m n=true)(e:iU u=false)(g:Vf P u (get F) B L z)(w:W C n I (.inRegion x q::K) ((m,z)::F) B L):W C n I (.inRegion x (k::q)::K) F B L:=
 W.val j v rfl p e (λT R β h r=>g T R β h r.boxes r.le) w
def W.Pe{n:Nat}{I:cj}{K:bI}{F:Env}{B:aX}{L:LH}{x:cU}{k:Nat}{q:aU}{m:Nat}{op:Op}{t:bh}{H:ck}{af:cR}{s:cZ}{Q:Az}(ho:nth x.toList k=some ⟨some m,op,t,H,af,s⟩)(hg:bG (get F) x.toList s=true)(hz:Nat.blt m n=true)(z:Ef C ⟨some m,op,t,H,af,s⟩ (get F) B L Q)
  (w:∀y a u,Q y a u->W C n I (.inRegion x q::K) ((m,y)::F) a u):W C n I (.inRegion x (k::q)::K) F B L:=by
 intro T R β hT hE hH;let⟨e,d⟩:=z T R β hE hH;refine W.oper ho hg e (λT1 c o p j J=>?_) T R β hT hE hH;let⟨_,D⟩:=z T1 c o j J;refine lF ?_ (λ_ _ h=>h.elim) _ _ D;let go:∀v r,(∃y a u,Q y a u/\den o y=some v/\bJ C.L0 C.R0 o a u r/\∀S,o S=none->a[S]?=B[S]?)->C.X.Go (G ((Fr C.f T1 (.inRegion x (k::q)::K) I .run C.kd C.ro).finish v) C.cs) r:=by
  intro v r ⟨y,a,u,hq,g,E,_⟩;exact W.iB ho rfl (eH hz) p j E g (w y a u hq)
 intro nx L1 i;cases nx <;> first | exact i.elim | skip
 .exact go _ _ i
 .exact go _ _ i
 .let⟨Q',l,b⟩:=i;exact l .normal _ _ (.inl rfl) (λv u g=>go v u (b v u g)) (λ_ _ h=>h.elim)
 .let⟨Q',l,b⟩:=i;exact l _ _ (λv u g=>go v u (b v u g))
def W.fL{x:cU}{E:Op}{af:cR}{s:cZ}{Q:Az}(ho:nth x.toList k=some ⟨none,E,t,H,af,s⟩)(hg:bG (get F) x.toList s=true)(z:Ef C ⟨none,E,t,H,af,s⟩ (get F) B L Q)
  (w:∀y a u,Q y a u->W C n I (.inRegion x q::K) F a u):W C n I (.inRegion x (k::q)::K) F B L:=by
 intro T R β hT hE hH;let⟨e,d⟩:=z T R β hE hH;refine W.oper ho hg e (λT1 c o p j J=>?_) T R β hT hE hH;let⟨_,D⟩:=z T1 c o j J;refine lF ?_ (λ_ _ h=>h.elim) _ _ D;let go:∀v r,(∃y a u,Q y a u/\den o y=some v/\bJ C.L0 C.R0 o a u r/\∀m,o m=none->a[m]?=B[m]?)->C.X.Go (G ((Fr C.f T1 (.inRegion x (k::q)::K) I .run C.kd C.ro).finish v) C.cs) r:=by
  intro v r ⟨y,a,u,hq,g,S,_⟩;exact W.qR ho rfl p j S (w y a u hq)
 intro nx L1 i;cases nx <;> first | exact i.elim | skip
 .exact go _ _ i
 .exact go _ _ i
 .let⟨Q',l,b⟩:=i;exact l .normal _ _ (.inl rfl) (λv u g=>go v u (b v u g)) (λ_ _ h=>h.elim)
 .let⟨Q',l,b⟩:=i;exact l _ _ (λv u g=>go v u (b v u g))
end
section
variable {P:aV}[S:Seat P]{C:Cx P}
theorem DD.run'{x:cU}{i:Env}(is:aU){u:aU}{v:Env}{z:aX}(h:Oe S.τ x.toList i m is q F B=some (u,v,z))(w:DD C S.τ n I x K m R u v i z L):DD C S.τ n I x K m R q F i B L:=DD.go S.ok is h w
theorem DD.vf{x:cU}{v:Op}{l:cR}{o:cZ}{u:Env}(i:Nat)(j:nth x.toList i=some ⟨some k,v,t,H,l,o⟩)(y:iX q i=false)(a:qv q (eM x.toList i)=true)(d:bG (cM x.toList i F u) x.toList o=some true)(e:iU v=false)
  (g:Vf P v (cM x.toList i F u) (B.take m) R z)(w:DD C S.τ n I x K m R (i::q) ((k,z)::F) u B L):DD C S.τ n I x K m R q F u B L:=
 .reg i j y a rfl e d g w
theorem DD.split{x:cU}{i:Env}(s:Nat){p:Bool}(a:get F s=p)(u:p=true->DD C S.τ n I x K m R q ((s,.lit true)::F) i B L)(z:p=false->DD C S.τ n I x K m R q ((s,.lit false)::F) i B L):DD C S.τ n I x K m R q F i B L:=
 .lit s a (by cases p;exact z rfl;exact u rfl)
def DD.act{x:cU}{f:Env}(i:Nat){Q:Az}{o:Oper}(j:nth x.toList i=o)(a:Nat.blt i x.size=true)(t:iX q i=false)(s:qY x.toList q [i] x.size=true)(g:bG (cM x.toList i F f) x.toList o.guard=true)
  (z:Ef C o (cM x.toList i F f) B L Q)(c:∀y v u,Q y v u->Le R u/\v=B.length/\(v.take m=B.take m\/BY x.toList (eM x.toList i) q=true))
  (w:∀y v u,Q y v u->DD C S.τ n I x K m R (i::q) (Bv o.dst y F) f v u):DD C S.τ n I x K m R q F f B L:=by
 refine .Pe [i] (λ_=>Q) i a t s (λe d _=>?_) (λe d _ y v u h=>?_) (λe d _ y v u h=>?_)
 .obtain rfl:=dJ.1 d;exact⟨o,j,g,z⟩
 .obtain rfl:=dJ.1 d;exact c y v u h
 .obtain rfl:=dJ.1 d;have:ec x e=o.dst:=by
   unfold ec;rw[dF,iN] at j;rw[j];rfl
  rw[this];exact w y v u h
def DD.IG{x:cU}{z:Env}(i j:Nat){t l:Az}{g c:Oper}(k:Nat.beq i j=false)(r:nth x.toList i=g)(b:nth x.toList j=c)(J:Nat.blt i x.size=true)(W:iX q i=false)(s:qY x.toList q [i,j] x.size=true)
  (D:bG (cM x.toList i F z) x.toList g.guard=true)(G:bG (cM x.toList j F z) x.toList c.guard=true)(H:Ef C g (cM x.toList i F z) B L t)(p:Ef C c (cM x.toList j F z) B L l)
  (Q:∀y v u,t y v u->Le R u/\v=B.length/\(v.take m=B.take m\/BY x.toList (eM x.toList i) q=true))(T:∀y v u,l y v u->Le R u/\v=B.length/\(v.take m=B.take m\/BY x.toList (eM x.toList j) q=true))
  (X:∀y v u,t y v u->DD C S.τ n I x K m R (i::q) (Bv g.dst y F) z v u)(E:∀y v u,l y v u->DD C S.τ n I x K m R (j::q) (Bv c.dst y F) z v u):DD C S.τ n I x K m R q F z B L:=by
 let f:i≠j:=λe=>by subst e;simp at k
 let w:∀{a:Nat} {o:Oper},nth x.toList a=o->ec x a=o.dst:=λ{a o} h=>by
  unfold ec;rw[dF,iN] at h;rw[h];rfl
 refine .Pe [i,j] (λe=>if e=i then t else l) i J W s (λe d _=>?_) (λe d _ y v u h=>?_) (λe d _ y v u h=>?_)
 .simp[eP,kB,or_false] at d;rcases d with rfl | rfl
  .exact⟨g,r,D,by simp[if_true];exact H⟩
  .exact⟨c,b,G,by simp[dG f,if_false];exact p⟩
 .simp[eP,kB,or_false] at d;rcases d with rfl | rfl
  .simp[if_true] at h;exact Q y v u h
  .simp[dG f,if_false] at h;exact T y v u h
 .simp[eP,kB,or_false] at d;rcases d with rfl | rfl
  .simp[if_true] at h;rw[w r];exact X y v u h
  .simp[dG f,if_false] at h;rw[w b];exact E y v u h
end
section
variable {P:aV}[S:Seat P]
theorem Vf.load{u:TI}{l:Addr}{v:Value}(q:bZ E x=l)(s:S.τ.find t=u)(z:u.agg=false)(b:L.cell? l=v):Vf P (.load t x) E B L v:=λT R β h _ o=>
 ⟨v,rfl,λp=>cE.acX (by rw[(TT.bj S.ok s).agg,z]) (bR (h.val q)).symm (o.cell b)⟩
theorem Vf.JH{u:TI}{l:Addr}(q:bZ E x=l)(s:S.τ.find t=u)(z:u.agg=true)(b:cD L l u.size j):Vf P (.load t x) E B L (.v (.agg j.toArray)):=λT R β h _ o=>
 ⟨_,rfl,λp=>cE.JH (by rw[(TT.bj S.ok s).agg,z]) (TT.bj S.ok s).size (bR (h.val q)).symm (o.cD b)⟩
theorem Vf.idx{y:aW}{u b:TI}{l:Addr}{f:fE}(o:bZ E x=some (.v (.slice l n k)))(g:bZ E y=some (.v (.int f c)))(s:S.τ.find t=u)(a:u.d=.slice e)(z:S.τ.find e=b)(j:c=(m:Int))(i:m<n):
  Vf P (.indexAddr t x y) E B L (l.add (m *b.size)):=λT R β h _ _=>by
 let q:=(TT.bj S.ok s).d;rw[a] at q;subst j;exact⟨_,rfl,λp=>cE.G6 q (TT.bj S.ok z).size (bR (h.val o)).symm (bR (h.val g)).symm i⟩
theorem Vf.NH{y:aW}{u b:TI}{l:Addr}{f:fE}(o:bZ E x=some (.v (.slice l n k)))(g:bZ E y=some (.v (.int f c)))(s:S.τ.find t=u)(a:u.d=.slice e)(z:S.τ.find e=b)(q:b.size=1)(j:c=(m:Int))(i:m<n):
  Vf P (.indexAddr t x y) E B L (l.add m):=by
 have:=Vf.idx (B:=B) (L:=L) o g s a z j i;rw[q,vq] at this;exact this
theorem Vf.qi{y:aW}{u o:TI}{i:Nat}{f:fE}(j:bZ E x=some (.p k m))(g:bZ E y=some (.v (.int f c)))(s:S.τ.find t=u)(a:u.d=.arr n e)(z:S.τ.find e=o)(r:c=(i:Int))(w:i<n):
  Vf P (.indexAddr t x y) E B L (.p k (m+i *o.size)):=λT R β h _ _=>by
 let q:=(TT.bj S.ok s).d;rw[a] at q;subst r;let⟨b,l,I⟩:=sH (h.val j);refine⟨.pointer (some ⟨b,m+i *o.size,none⟩),by unfold den;rw[l],λJ=>?_⟩;have:=cE.NI (L:=R) (ty:=J) q (TT.bj S.ok z).size I (bR (h.val g)).symm w;rw[bM] at this;exact this
theorem Vf.qj{y:aW}{u b:TI}{l:Addr}{f:fE}(o:bZ E x=l)(g:bZ E y=some (.v (.int f c)))(s:S.τ.find t=u)(a:u.d=.arr n e)(z:S.τ.find e=b)(m:c=(k:Int))(i:k<n):
  Vf P (.indexAddr t x y) E B L (l.add (k *b.size)):=λT R β h _ _=>by
 let q:=(TT.bj S.ok s).d;rw[a] at q;subst m;exact⟨_,rfl,λp=>cE.NI q (TT.bj S.ok z).size (bR (h.val o)).symm (bR (h.val g)).symm i⟩
theorem Vf.vZ{u:TI}{d:Bx}(q:bZ E x=some (.p n k))(v:nth B n=d)(s:S.τ.find t=u)(i:u.agg=false)(b:nth d.cells k=z):Vf P (.load t x) E B L z:=λT R β h f _=>
 Al S.ok h f (by unfold uQ;rw[q];simp[v,s,i];exact b)
theorem Vf.zR{u:TI}{d:Bx}(f:bZ E x=some (.p n 0))(a:nth B n=d)(s:S.τ.find t=u)(o:u.agg=true)(m:d.cells=j.map .v)(y:j=u.size):Vf P (.load t x) E B L (.v (.agg j.toArray)):=λT R β h g _=>by
 let⟨b,q,z⟩:=sH (h.val f);let⟨l,r,c⟩:=g n b d q (by rwa[<-dF]);rw[m,lL] at r;cases r;refine⟨_,rfl,λk=>cE.JH (by rw[(TT.bj S.ok s).agg,o]) (TT.bj S.ok s).size z ⟨y,λi v w=>?_⟩⟩;rw[bM,jJ];exact aF c (by rwa[gq])
end
section
variable {P:Program}
theorem Vf.bin{y:aW}{v:Value}{f:BinOp}{m:fE}{b:Int}(u:bZ E x=some (.v (.int m c)))(g:bZ E y=some (.v (.int m b)))(h:vy f m c b=v):Vf P (.binOp f t x y e) E B L v:=λT R β q _ _=>
 ⟨v,rfl,λp=>cE.bin (bR (q.val u)).symm (bR (q.val g)).symm h⟩
end
section
variable {P:aV}{C:Cx P}
def nJ(E:cK)(xs:List Operand):Option (List Value):=match zy E xs with
 | some l=>cW fe l
 | none=>none
def wO{T:aK}(u:bS N E T){w:List Operand}(h:nJ E w=some j):w.map (ev T)=j:=by
 unfold nJ at h
 split at h
 .rename_i l o;exact bR ((u.YW o).symm.trans (qQ h N))
 .cases h
def qM(B:aX)(Q:bC)(sv:SV)(B':aX)(L':LH):Prop:=∃v,sv=.v v/\B'=B/\Q v L'
def Ef.call{w:fD}{l:cR}{o:cZ}{g:bO}{i:jk}{z:fX}(s:nJ E i.toList=j)(a:Sp C.X g j L Q):Ef C ⟨w,.call {callee:=.value (.func g),args:=i,argTypes:=z},t,H,l,o⟩ E B L (qM B Q):=by
 intro T R β m f;let⟨⟨k,q,y,n⟩,p⟩:=a;let u:i.map (ev T)=j.toArray:=by rw[<-wO m s,<-oY]
 refine⟨rfl,Mj.func q y n u _ _ _ _ _ _ ⟨_,(p R f.le).mono (λ_ _ h=>h) ?_,?_⟩⟩
 .intro x r ⟨d,h,_⟩;exact h
 .intro v r ⟨d,c,b⟩;exact⟨v,B,d,⟨v,rfl,rfl,c⟩,rfl,f.call b,λ_ _=>rfl⟩
def Ef.ag7{w:fD}{k:cR}{o:cZ}{g:bO}{n l:gn}{i:aR}{m:jk}{z:fX}{e:aR}(I:bZ E x=some (.f (.func g) n l))(q:cW fe n=j)(J:cW fe l=i)(s:nJ E m.toList=e)(a:Sp C.X g (j++e++i) L Q):
  Ef C ⟨w,.call {callee:=.value x,args:=m,argTypes:=z},t,H,k,o⟩ E B L (qM B Q):=by
 intro T R β p b;let⟨⟨W,u,K,D⟩,F⟩:=a;let G:m.map (ev T)=e.toArray:=by rw[<-wO p s,<-oY]
 let y:ev T x=.func (.func g) j.toArray i.toArray:=by
  have:=p.val I;unfold den at this;rw[qQ q β,qQ J β] at this;exact(bR this).symm
 refine⟨rfl,Mj.value u K D y G U _ _ _ _ _ _ ⟨_,(F R b.le).mono (λ_ _ h=>h) ?_,?_⟩⟩
 .intro ch r ⟨d,h,_⟩;exact h
 .intro v r ⟨d,c,S⟩;exact⟨v,B,d,⟨v,rfl,rfl,c⟩,rfl,b.call S,λ_ _=>rfl⟩
end
section
variable {P:aV}[S:Seat P]{C:Cx P}
def IE(L:LH)(B1:aX)(sv:SV)(B':aX)(L':LH):Prop:=sv=.v undef/\B'=B1/\L'=L
def Ef.lG{w:fD}{l:cR}{o:cZ}{k:Op}{x:Bx}(h:KH S.τ E B k=some (n,x)):Ef C ⟨w,k,t,H,l,o⟩ E B L (IE L (B.set n x)):=by
 intro T R β z r;refine⟨Hp h,T4 S.ok z r h w t H l o _ _ λf g=>?_⟩;refine⟨undef,_,L,⟨rfl,rfl,rfl⟩,rfl,g,λj i=>?_⟩
 by_cases e:n=j
 .subst e;let q:∃b,β n=some b:=by
   unfold KH at h
   split at h
   .split at h
    .rename_i u a s
     split at h
     .split at h
      .cases h;let⟨b,d,_⟩:=sH (z.val u);exact⟨b,d⟩
      .cases h
     .cases h
    .cases h
   .cases h
  let⟨b,d⟩:=q;rw[d] at i;cases i
 .rw[GG e]
theorem Ef.Ur{w:fD}{l:cR}{o:cZ}{y:aW}{v:TI}{a:bh}{f i u:gn}(m:bZ E x=some (.p n k))(g:bZ E y=z)(s:S.τ.find t=some v)(d:nth B n=some (some ⟨f,a⟩))(h:cL z=i)(q:i=v.size)(c:k+v.size<=f)(r:KP i=true)(b:BR f k i=u):
  Ef C ⟨w,.store t x y,e,H,l,o⟩ E B L (IE L (B.set n (some ⟨u,a⟩))):=by
 refine Ef.lG ?_;unfold KH;simp only[m,g,s,d,h,q,r,b];rw[Nat.beq_refl,Nat.ble_eq_true_of_le c]
theorem Ef.eR{dst:fD}{ty:bh}{pos:ck}{af:cR}{gd:cZ}{y:aW}{i:TI}{b off:Nat}{c:aK}{v:Value}(p:bZ E x=some (.v (.pointer (some ⟨b,off,none⟩))))(g:∃s,bZ E y=some s/\den fe s=v)(w:S.τ.find t=i)(d:L b=some (.cells c e (0,0),true))(n:v.cells.size=i.size)(o:off+i.size<=c.size)
  (a:∀u∈v.cells.toList,single u=true):Ef C ⟨dst,.store t x y,ty,pos,af,gd⟩ E B L (IE (L.put b (.cells (bY c off v.cells.toList) e)) B):=by
 intro T R β h r;let⟨s,f,m⟩:=g;have l:=(bR (h.val p)).symm;have j:=bR ((h.val f).symm.trans (fw m β));exists rfl;simp only[execOp,l,j];rw[Z];unfold Instr.storeAt;rw[Z];simp[Instr.sureAddr,aI];unfold storeVar;rw[Z,cQ (TT.bj S.ok w).size];simp only[n,ne_eq,not_true_eq_false,if_false];refine ky (e:=e) v.cells.toList 0 c R (r.le _ _ d) (by rw[GH,n];omega) a (λk q z=>?_);rw[pT] at q;exact⟨undef,B,_,⟨rfl,rfl,rfl⟩,rfl,r.wZ d q z,λ_ _=>rfl⟩
end
theorem cr(h:n<=140737488355328):SV.v (.int .i64 (IntKind.i64.wrap ((n:Int)+1)))=.v (.int .i64 ((n+1:Nat):Int)):=by
 rw[wrap64_in _ M M];rfl
theorem Ra{y:Int}(h:c=y)(q:-9223372036854775808<=y)(z:y<=9223372036854775807):SV.v (IntKind.i64.wrap c)=y:=by
 rw[h,wrap64_in _ q z]
section
variable {P:aV}(X:aM P)
theorem A9{s:Sem α}{K:cg}{fn:bO}{F:Result α->GStep}(o:Sub L w)
  (h:aP P (λa v=>∀c,Sub v c->∃l j q u,F (.ok a c)=.go l j q/\Tr v u c j q/\K l u) (λ_ _=>False) s L):
  ∃l c q v,GStep.after (seen P fn (s.runT P w #[]).2) (F (s.runT P w #[]).1)=.go l c q/\Tr L v w c q/\K l v:=by
 let x:=yh s L h w #[] o;let z:∃r p,s.runT P w #[]=(r,p):=⟨_,_,rfl⟩;let⟨r,p,z⟩:=z;rw[z] at x ⊢;cases r with
 | halt hh c=>cases hh <;> first | exact x.elim | (let⟨_,_,_,_,d⟩:=x;exact d.elim)
 | ok a c=>
  let⟨v,us,i,f,d⟩:=x;rw[uo] at i;subst i;let⟨l,j,q,u,m,k,t⟩:=d c f.sub;refine⟨l,j,seen P fn p++q,u,?_,(f.fewer (ub _ _ _)).trans k,t⟩;rw[m,my]
def aM.rangeFunc{f:bO}{T:aK}{k:bI}{v:dW}{cs:dX}{t:Array Tmp}{a i:Code}
  (h:aP P (λc p=>aP P (jP P X.Go (Fr f T (.inRangeFunc c.1::k) (c.2++I) .run v o) cs .normal) (qZ X.Go (Fr f T (.inRangeFunc c.1::k) (c.2++I) .run v o) cs)
   (do let d <-resolve (ev T) {callee:=.value x,args:=#[.const (.func (.yield c.1) #[] #[])],argTypes:=#[]} 0;invoke d.target d.args) p) (λ_ _=>False) (Instr.enterLoop f T t a i o) L):
  X.Go (G (Fr f T (.code (.rangeFunc x t a i)::k) I .run v o) cs) L:=
 X.step _ L rfl λw b=>by
  let j:=A9 (K:=X.Go) (fn:=f) (F:=λs=>match s with
   | .ok (l,mark) w=>stepG.apply P true (Fr f T (.inRangeFunc l::k) (mark++I) .run v o) cs none (do let d <-resolve (ev T) {callee:=.value x,args:=#[.const (.func (.yield l) #[] #[])],argTypes:=#[]} 0;invoke d.target d.args) w
   | .halt _ w=>.ended (.stuck "range over a function: no such loop" ((Fr f T (.code (.rangeFunc x t a i)::k) I .run v o).pos P)) w) b (lF (λc p u w1 e=>?_) (λ_ _ h=>h) _ _ h)
  .obtain⟨m,g,q,y,n,z,r⟩:=j;refine⟨m,g,q,y,?_,z,r⟩;rw[<-n];simp only[G,Fr,stepG,stepG.exec];let J:∀(l:Nat) (mark:cj),Frame.eval {fn:=f,tmps:=T,todo:=.inRangeFunc l::k,defers:=mark++I,mode:=.run,kind:=v,roundOf:=o}=ev T:=λl mark=>zB f T (.inRangeFunc l::k) (mark++I) .run v o;simp only[J]
   rfl
  .obtain⟨l,mark⟩:=c;obtain⟨m,g,q,y,n,z,r⟩:=tv (K:=X.Go) (fr:=Fr f T (.inRangeFunc l::k) (mark++I) .run v o) (cs:=cs) e u;exact⟨m,g,q,y,n,z,r⟩
theorem aM.ZJ{f:bO}{T:aK}{k:bI}{d:dW}{i:dX}(h:aP P (λj t=>X.Go (G (Fr f T ((j.map Item.code).toList++k) I .run d o) i) t) (λ_ _=>False) (Instr.endLoop n) L):X.Go (G (Fr f T (.endRangeFunc n::k) I .run d o) i) L:=
 X.step _ L rfl λw a=>by
  let m:=A9 (fn:=f) (F:=λq=>match q with
   | .ok X1 w=>.go (G (Fr f T ((X1.map Item.code).toList++k) I .run d o) i) w
   | .halt (.panic v) w=>.go (G ((Fr f T (.endRangeFunc n::k) I .run d o).raise [{v,recovered:=false}]) i) w
   | .halt _ w=>.ended (.stuck "range over a function: no such loop" ((Fr f T (.endRangeFunc n::k) I .run d o).pos P)) w) a (lF (λx g u w1 e=>⟨_,_,#[],g,rfl,Tr.refl e,u⟩) (λ_ _ h=>h) _ _ h)
  let⟨l,c,y,t,p,z,r⟩:=m;refine⟨l,c,y,t,?_,z,r⟩;rw[<-p];simp[G,Fr,stepG,stepG.exec]
  rfl
theorem aM.beginRound{f:bO}{T:aK}{k:bI}{v:dW}{cs:dX}(h:aP P (λ_ d=>X.Go (G (Fr f T k I .run v n) cs) d) (λ_ _=>False) (Instr.beginRound n) L):X.Go (G (Fr f T (.beginRound::k) I .run v n) cs) L:=
 X.step _ L rfl λw a=>by
  let p:aP P (jP P X.Go (Fr f T (.beginRound::k) I .run v n) cs .normal) (qZ X.Go (Fr f T (.beginRound::k) I .run v n) cs) (do Instr.beginRound n;pure .skip) L:=by
   rw[Z];exact lF (λ_ o u=>u) (λ_ _ h=>h.elim) _ _ h
  let⟨l,c,q,d,i,z,r⟩:=tv a p;exact⟨l,c,q,d,i,z,r⟩
inductive Leaves:List Item->Option Code->Prop
 | nil:Leaves [] none
 | ret {k:List Item}:Leaves (.code .ret::k) (some .ret)
 | exit {id:Nat} {k:List Item} (h:exitTo id k=none):Leaves (.code (.exit id)::k) (some (.exit id))
 | goto {l:Nat} {k:List Item} (h:gotoIn l k=none):Leaves (.code (.goto l)::k) (some (.goto l))
theorem aM.endRound{f:bO}{T:aK}{k:bI}{m:dW}{i:dX}{d:Option Code}{c:Frame}(g:Leaves k d)(o:m=.normal)(h:aP P (λv t=>X.Go (G (c.finish v) i) t) (λ_ _=>False) (Instr.endRound n d) L):X.Go (G (Fr f T k I .run m n) (c::i)) L:=
 X.step _ L rfl λw a=>by
  subst o;let j:=A9 (fn:=f) (F:=λq=>match q with
   | .ok v w=>doReturn P X.main (Fr f T k I .run .normal n) (c::i) none v w
   | .halt _ w=>.ended (.stuck "range over a function: no such loop" ((Fr f T k I .run .normal n).pos P)) w) a (lF (λx y u w1 e=>⟨G (c.finish x) i,w1,#[],y,rfl,Tr.refl e,u⟩) (λ_ _ h=>h) _ _ h)
  let⟨l,p,b,t,s,z,r⟩:=j;refine⟨l,p,b,t,?_,z,r⟩;rw[<-s];cases g with
  | nil=>simp[G,Fr,stepG,stepG.exec];rfl
  | ret=>simp[G,Fr,stepG,stepG.exec];rfl
  | exit u=>simp[G,Fr,stepG,stepG.exec,u];rfl
  | goto u=>simp[G,Fr,stepG,stepG.exec,u];rfl
def leaving:FrameMode->Bool
 | .run=>false
 | _=>true
theorem aM.collected{f:bO}{T:aK}{k:bI}{v:dW}{i:dX}{a:aK}{d:wB}(m:leaving d=true)(h:aP P (λl t=>X.Go (G (Fr f T k (l++I) d v o) i) t) (λ_ _=>False) (Instr.takeDeferred n) L):
  X.Go (G (Fr f T k (⟨.collected n,a⟩::I) d v o) i) L:=
 X.step _ L rfl λw g=>by
  let j:=A9 (fn:=f) (F:=λq=>match q with
   | .ok l w=>.go (G (Fr f T k (l++I) d v o) i) w
   | .halt _ w=>.ended (.stuck "the deferred calls of a range-over-func loop have been taken" ((Fr f T k (({target:=.collected n,args:=a}:Deferred)::I) d v o).pos P)) w) g (lF (λx y u w1 e=>⟨_,_,#[],y,rfl,Tr.refl e,u⟩) (λ_ _ h=>h) _ _ h)
  let⟨p,c,b,t,s,z,r⟩:=j;refine⟨p,c,b,t,?_,z,r⟩;rw[<-s];cases d with
  | run=>cases m
  | returning=>simp[G,Fr,stepG,unwind];rfl
  | panicking ch=>simp[G,Fr,stepG,unwind];rfl
theorem aM.raise{f:bO}{T:aK}{u:dW}{i:dX}{q:Func}{c:Frame}{v:List PanicEntry}(a:P.funcs[f]?=q)(h:X.Go (G (c.raise v) i) L):X.Go (G (Fr f T K [] (.panicking v) u o) (c::i)) L:=
 X.quiet rfl (λw=>by simp[G,Fr,stepG,unwind,Frame.catches,a]) h
end
def B6{P:aV}(X:aM P)(fv:Value)(args:aR)(R:LH)(Q:bC):Prop:=
 match fv with
 | .func (.func g) f1 f2=>qN P g/\Fn X g (f1++args.toArray++f2) R Q
 | .func (.yield l) f1 _=>f1=#[]/\∃r wr,R l=some (.loop r,wr)/\args.length=r.params.size/\
   Zd X (Frame.round l r.fn ((r.params.zip args.toArray).foldl (λtmps x=>tmps.setIfInBounds x.1 x.2) r.tmps) r.assign r.body .normal) R Q
 | _=>False
def vQ{P:aV}(X:aM P)(fv:Value)(args:aR)(L:LH)(Q:bC):Prop:=∀R,Le L R->B6 X fv args R (λv R'=>∃L',Q v L'/\Post L R L' R')
def B6.mono{P:aV}{X:aM P}{z:Value}{Q':bC}(h:B6 X z j R Q)(c:∀v u,Q v u->Q' v u):B6 X z j R Q':=by
 unfold B6 at h ⊢
 split at h
 .exact⟨h.1,h.2.mono c (λ_ _ h=>h)⟩
 .obtain⟨q,r,wr,d,i,x⟩:=h;exact⟨q,r,wr,d,i,x.mono c⟩
 .exact h.elim
theorem vQ.mono{P:aV}{X:aM P}{z:Value}{Q':bC}(h:vQ X z j L Q)(c:∀v u,Q v u->Q' v u):vQ X z j L Q':=
 λR l=>(h R l).mono λ_ _ ⟨u,q,d⟩=>⟨u,c _ _ q,d⟩
theorem Sp.LJ{P:aV}{X:aM P}{g:bO}{args f1 f2:aR}(h:Sp X g (f1++args++f2) L Q):vQ X (.func (.func g) f1.toArray f2.toArray) args L Q:=λR l=>by
 exists h.1;have:=h.2 R l;let e:f1.toArray++args.toArray++f2.toArray=(f1++args++f2).toArray:=U
 rw[e];exact this.mono (λ_ _ h=>h) λv r ⟨u,h,_⟩=>h
def Post.of_le{o r:LH}(h:Post J R o r)(m:Le J L)(l:Le L R):∃v,Post L R v r/\Post J L o v:=by
 refine⟨λb=>if(L b).isSome\/(o b).isSome then r b else none,⟨λb x t=>?_,λb x q f=>?_,λb d=>?_,λb d=>?_⟩,⟨λb x t=>?_,λb x q f=>?_,λb d=>?_,h.jZ⟩⟩
 .split at t
  .exact t
  .cases t
 .refine h.keep b x ?_ f;cases i:J b with
  | none=>rfl
  | some y=>rw[m b y i] at q;cases q
 .split at d
  .rename_i a;rcases a with a | a
   .exact .inl (by intro e;rw[e] at a;cases a)
   .rcases h.fresh b (by intro e;rw[e] at a;cases a) with e | e
    .cases i:J b with
     | none=>exact ar i e
     | some y=>exact .inl (by rw[m b y i];simp)
    .exact .inr e
  .exact ar rfl d
 .cases i:L b with
  | none=>exact ar i d
  | some y=>
   rw[ax (.inl rfl)];cases q:J b with
   | none=>rw[h.keep b y q (l b y i)];simp
   | some z=>
    cases f:o b with
    | none=>exact ar f (h.jZ b (by rw[q];simp))
    | some u=>rw[h.le b u f];simp
 .rw[ax (.inr (by rw[t];rfl))];exact h.le b x t
 .rw[ax (.inl (by rw[f];rfl))];exact h.keep b x q (l b x f)
 .rcases h.fresh b d with e | e
  .exact .inl e
  .refine .inr ?_;cases i:L b with
   | none=>rfl
   | some y=>rw[l b y i] at e;cases e
theorem vQ.frame{P:aV}{X:aM P}{z:Value}(h:vQ X z j R Q)(d:Le R L):vQ X z j L (λv u=>∃o,Q v o/\Post R L o u):=λc l=>
 (h c (d.trans l)).mono λv f ⟨o,q,i⟩=>let⟨u,r,x⟩:=i.of_le d l;⟨u,⟨o,q,x⟩,r⟩
theorem Sp.frame{P:aV}{X:aM P}{g:bO}(h:Sp X g j R Q)(d:Le R L):Sp X g j L (λv u=>∃o,Q v o/\Post R L o u):=
 ⟨h.1,λc l=>(h.2 c (d.trans l)).mono (λv r ⟨o,q,z⟩=>let⟨u,i,x⟩:=z.of_le d l;⟨u,⟨o,q,x⟩,i⟩) λf r ⟨u,h,_⟩=>h.elim⟩
theorem Md{P:aV}{r:Loop}{j:Bool}{e:aK}{c:Ay}(o:R n=some (.loop r,j))(y:e.size=r.params.size)
  (q:c (.round n r.fn ((r.params.zip e).foldl (λu x=>u.setIfInBounds x.1 x.2) r.tmps) r.assign r.body) R):aP P c Q (Instr.yield n e) R:=by
 unfold Instr.yield Instr.getLoop;rw[Z,Z];show aP P _ Q (.getObj n .pure) R;unfold aP;rw[o];show aP P c Q (if e.size≠r.params.size then _ else _) R;rwa[A (by simpa using y)]
theorem vL{P:aV}{o:Obj}{c:LO}:aP P c Q (newObj o) R=∀b,R b=none->c b (R.put b o):=rfl
theorem yd{P:aV}{r:Loop}{j:Bool}{c:Loop->LH->Prop}(o:R n=some (.loop r,j)):aP P c Q (Instr.getLoop n) R=c r R:=by
 unfold Instr.getLoop;rw[Z];show aP P _ Q (.getObj n .pure) R=_;unfold aP;rw[o]
 rfl
theorem lN{P:aV}{o m:Obj}{c:x6}(u:R n=some (m,true))(q:mq m=false)(z:mq o=false):aP P c Q (setObj n o) R=c () (R.put n o):=by
 show aP P c Q (.setObj n o (.pure ())) R=_;unfold aP;rw[u];simp[q,z,Bool.or_self,iM,if_false]
 rfl
section
variable {P:aV}{C:Cx P}
def Ef.uz{i:fD}{e:cR}{o:cZ}{f:Value}{y:jk}{I:fX}(J:bZ E x=z)(a:den fe z=f)(s:nJ E y.toList=j)(K:vQ C.X f j L Q):
  Ef C ⟨i,.call {callee:=.value x,args:=y,argTypes:=I},t,H,e,o⟩ E B L (qM B Q):=by
 intro T R β h k;have b:=K R k.le;let u:y.map (ev T)=j.toArray:=Lp
 let w:=bR ((h.val J).symm.trans (fw a β));exists rfl;let fin:∀v n,(∃d,Q v d/\Post L R d n)->∃z p d,qM B Q z p d/\den β z=v/\bJ C.L0 C.R0 β p d n/\∀m,β m=none->p[m]?=B[m]?:=λv n ⟨d,c,D⟩=>⟨v,B,d,⟨v,rfl,rfl,c⟩,rfl,k.call D,λ_ _=>rfl⟩;unfold B6 at b
 split at b
 .rename_i g F G;obtain⟨⟨fn,S,q,W⟩,hf⟩:=b;exact Mj.value S q W w u rfl _ _ _ _ _ _ ⟨_,hf,fin⟩
 .rename_i l F G;obtain⟨rfl,r,wr,h1,h2,h3⟩:=b;simp only[execOp,resolve,w,Deferred.ofValue,u];rw[Z,aI];simp only[invoke,uo];exact Md h1 (by simpa using h2) ⟨_,h3,fin⟩
 .exact b.elim
end
section
variable {P:aV}{C:Cx P}
theorem aak(β:Nm):β.upto 0=fe:=by funext k;simp[Nm.upto,fe]
theorem bS.closed{n:Env}{T:aK}(h:bS N (get F) T)(a:gR F n)(f:Ah 0 n=true):bS fe (get n) T:=λs x u=>by
 have:=A8 (Ai f s x u) (h s x (a.get s x u));rw[aak] at this;exact this
abbrev yB(st:LoopState)(pd:Option Code)(f:FuncId)(T:Array Value)(ps:Array Tmp)(asg body:Code)(d:Nat):Obj:=.loop ⟨st,pd,f,T,ps,asg,body,d⟩
theorem bJ.two{v:LH}(h:bJ J v N B L R)(a:R n=none)(o m:Obj)(u:(R.put n o) k=none):k≠n/\R k=none/\bJ J v N B ((L.put n o).put k m) ((R.put n o).put k m):=by
 let i:k≠n:=λe=>by subst e;rw[aj] at u;cases u
 rw[aB _ _ i] at u;exists i,u;let q:=h.zY a o;exact q.zY (by rwa[aB _ _ i]) m
def W.range{k:Array Tmp}{a t:Code}{fv:Value}(H:C.ro=none)(E':Env)(u1:gR F E')(h0:Ah 0 E'=true)(hf:bZ (get F) x=z)(Q:den fe z=fv)(Qy:Array Value->Nat->Nat->LoopState->Option Code->LH->Prop)
  (h:∀(T:aK) (d l:Nat),T.size=n->bS fe (get E') T->L d=none->L l=none->l≠d->C.R0 d=none->C.R0 l=none->
   vQ C.X fv [.func (.yield l) #[] #[]] ((L.put d (.deferred (some []))).put l (yB .ready none C.f T k a t d)) (λ_ p=>∃j y,j≠.busy/\p l=some (yB j y C.f T k a t d,true)/\Qy T d l j y p))
  (w:∀T d l j y p,Qy T d l j y p->W C n (⟨.collected d,#[]⟩::I) ((y.map Item.code).toList++K) F B (p.put l (yB .exhausted y C.f T k a t d))):
  W C n I (.code (.rangeFunc x k a t)::K) F B L:=by
 intro T R β hT hE hH;refine C.X.rangeFunc ?_;rw[H];unfold Instr.enterLoop;rw[Z,vL];intro d hd;rw[Z,aI,Z,vL];intro l o;rw[aI];let⟨i,u2,e⟩:=hH.two hd (.deferred (some [])) (yB .ready none C.f T k a t d) o;let⟨d1,m⟩:=hH.free hd;let⟨s,l2⟩:=hH.free u2;have u3:=bR ((hE.val hf).symm.trans (fw Q β));have b:=h T d l hT (hE.closed u1 h0) d1 s i m l2 _ e.le;have fin:∀(v:Value) D,(∃p,(∃j y,j≠.busy/\p l=some (yB j y C.f T k a t d,true)/\Qy T d l j y p)/\Post ((L.put d (.deferred (some []))).put l (yB .ready none C.f T k a t d)) ((R.put d (.deferred (some []))).put l (yB .ready none C.f T k a t d)) p D)->
   C.X.Go (G (Fr C.f T (.endRangeFunc l::K) (⟨.collected d,#[]⟩::I) .run C.kd none) C.cs) D:=by
  intro v D ⟨p,⟨j,y,u4,S,c⟩,hp⟩;have u5:=e.call hp;have E:=hp.le _ _ S;refine C.X.ZJ ?_;unfold Instr.endLoop;rw[Z,yd E];have hb:(j==LoopState.busy)=false:=by simpa using u4
  simp only[hb,iM,if_false];rw[Z,lN E rfl rfl,aI];have:=w T d l j y p c T _ β hT hE (u5.wZ S (aj _ _ _) (λb' u6=>aB _ _ u6));rw[H] at this;exact this
 unfold B6 at b;have J:∀v,(Fr C.f T (.inRangeFunc l::K) ([⟨.collected d,#[]⟩]++I) .run C.kd none).finish v=Fr C.f T (.endRangeFunc l::K) (⟨.collected d,#[]⟩::I) .run C.kd none:=λv=>rfl;simp only[resolve,u3]
 split at b
 ·rename_i g f1 f2;obtain⟨⟨fn,u,q,g3⟩,hF⟩:=b;simp only[Deferred.ofValue,Z,aI,invoke];rw[rL u q g3];have:=hF .normal (Fr C.f T (.inRangeFunc l::K) ([⟨.collected d,#[]⟩]++I) .run C.kd none) C.cs (.inl rfl) (λv D Q=>by rw[J];exact fin v D Q) (λ_ _ h=>h.elim)
  simpa [jP,ev] using this
 .rename_i l' f1 f2;obtain⟨rfl,r,wr,h1,h2,h3⟩:=b;simp only[Deferred.ofValue,Z,aI,invoke];have:=h3 (Fr C.f T (.inRangeFunc l::K) ([⟨.collected d,#[]⟩]++I) .run C.kd none) C.cs (λv D Q=>by rw[J];exact fin v D Q);refine Md h1 (by simpa using h2) ?_
  simpa [jP,ev] using this
 .exact b.elim
structure RtR(C:Cx P)(Q:Value->LH->Prop):Prop where
 kd:C.kd=.normal
 cs:∃c cs,C.cs=c::cs/\∀v R' L',Q v L'->Post C.L0 C.R0 L' R'->C.X.Go (G (c.finish v) cs) R'
def vB:List Tmp->List Value->Env->Env
 | p::ps,a::us,E=>vB ps us ((p,.v a)::E)
 | _,_,E=>E
theorem Kf{n:Nat}:∀{l:List Tmp} {us:aR} {E:Env} {T:aK},bS fe (get E) T->T.size=n->(l.all λp=>Nat.blt p n)=true->
  bS fe (get (vB l us E)) ((l.zip us).foldl (λu x=>u.setIfInBounds x.1 x.2) T)/\((l.zip us).foldl (λu x=>u.setIfInBounds x.1 x.2) T).size=n
 | [],_,_,_,h,hT,_=>by simp[vB,h,hT]
 | _::_,[],_,_,h,hT,_=>by simp[vB,h,hT]
 | p::l,a::us,E,T,h,hT,hp=>by
  simp only[Bz,nF] at hp;simp only[vB,List.zip_cons_cons,lJ];exact Kf (h.set (sv:=a) rfl (AB a (by rw[hT];exact eH hp.1))) (by simp[hT]) hp.2
theorem vQ.round{X:aM P}{d:Nat}{T:aK}{l:Array Tmp}{a t:Code}{E':Env}{y:Option Code}(o:L m=some (yB .ready y k T l a t d,true))(J:j=l.size)(K:T.size=n)(D:bS fe (get E') T)
  (w:(l.toList.all λp=>Nat.blt p n)=true)(h:∀C:Cx P,C.X=X->C.f=k->C.ro=m->C.L0=L->RtR C Q->W C n [] [.code a,.beginRound,.code t] (vB l.toList j E') [] L):vQ X (.func (.yield m) #[] #[]) j L Q:=λR I=>by
 refine⟨rfl,_,true,I _ _ o,J,λc i F=>?_⟩;let⟨q,z⟩:=Kf (us:=j) D K w;let e:(l.zip j.toArray).foldl (λu x=>u.setIfInBounds x.1 x.2) T=(l.toList.zip j).foldl (λu x=>u.setIfInBounds x.1 x.2) T:=by
  rw[<-Array.foldl_toList,Array.toList_zip]
 rw[e];exact h ⟨X,k,.normal,m,c::i,L,R⟩ rfl rfl rfl rfl ⟨rfl,c,i,rfl,λv r G H w=>F v r ⟨G,H,w⟩⟩ _ R fe z q
  ⟨(λ_ _ _ h=>by cases h),(λ_ _ h=>by cases h),(λ_ _ h=>by cases h),(λg b x S=>by cases S),I,λb x _ h=>h,λb s=>.inl s,λb s=>s⟩
theorem W.XF{r:Loop}(y:C.ro=some k)(o:L k=some (.loop r,true))(a:r.state=.ready)(w:W C n I K F B (L.put k (.loop {r with state:=.busy}))):W C n I (.beginRound::K) F B L:=by
 intro T R β h q u;let l:=u.le _ _ o;have:=w T _ β h q (u.wZ o (aj _ _ _) (λb x=>aB R _ x));rw[y] at this ⊢;refine C.X.beginRound ?_;unfold Instr.beginRound;rw[Z,yd l,Z,lN l rfl rfl,a,aI];exact this
theorem W.XR{r:Loop}{v:Option Code}(z:RtR C Q)(y:C.ro=k)(f:Leaves K v)(u:L k=some (.loop r,true))(d:Q (.bool v.isNone) (L.put k (.loop {r with state:=if v.isNone then .ready else .done,pending:=v}))):W C n I K F B L:=by
 intro T R β a t q;let l:=q.le _ _ u;let⟨o,c,i,h,b⟩:=z;rw[y,h];refine C.X.endRound f o ?_;unfold Instr.endRound;rw[Z,yd l,Z,lN l rfl rfl,aI];exact b _ _ _ d (q.wZ u (aj _ _ _) (λm x=>aB R _ x)).post
end
section
variable {P:aV}{C:Cx P}
def WM{P:aV}(C:Cx P)(n:Nat)(ds:cj)(md:wB)(E:Env)(B:aX)(L:LH):Prop:=
 ∀(T:aK) (R:LH) (β:Nm) (k:bI),T.size=n->bS β (get E) T->bJ C.L0 C.R0 β B L R->C.X.Go (G (Fr C.f T k ds md C.kd C.ro) C.cs) R
def W.out(y:C.ro=none)(u:Leaves K none\/Leaves K (some .ret))(w:WM C n I .returning F B L):W C n I K F B L:=by
 intro T R β h q r;refine C.X.quiet (g':=G (Fr C.f T K I .returning C.kd C.ro) C.cs) rfl (λw=>?_) (w T R β K h q r);rw[y];rcases u with u | u
 .cases u with
  | nil=>simp[G,Fr,stepG,stepG.exec]
 .cases u with
  | ret=>simp[G,Fr,stepG,stepG.exec]
theorem WM.collected{a:aK}{x:wB}(o:leaving x=true)(b:L k=some (.deferred (some []),true))(w:WM C n I x F B (L.put k (.deferred none))):WM C n (⟨.collected k,a⟩::I) x F B L:=by
 intro T R β c h q r;have l:=r.le _ _ b;refine C.X.collected o ?_;unfold Instr.takeDeferred;rw[Z];show aP P _ _ (.getObj k .pure) R;unfold aP;rw[l];simp only[mq,iM,if_false];show aP P _ _ (pure _) R;rw[aI];rw[Z,lN l rfl rfl,aI];exact w T _ β c h q (r.wZ b (aj _ _ _) (λv u=>aB R _ u))
theorem WM.ret[S:Seat P]{q:Func}{H:kP}{g:gn}(r:Rt C q Q H)(d:uP S.τ (get F) B q.results.toList=g)(f:cW fe g=j)(m:Q (lv j) L):WM C n [] .returning F B L:=by
 intro T R β k l p z;obtain⟨w,y,o,c,i,u,b,_⟩:=r;rw[y,u];refine C.X.leave w o ?_;unfold results;rw[Z,GD,<-bind_pure_comp,Z];refine Ev S.ok (λt=>rfl) (λa t=>rfl) p z.boxes d (qQ f β) ?_;simp only[aI];let e:(if h:j.toArray.size=1 then j.toArray[0] else Value.tuple j.toArray)=lv j:=by
  match j with
  | []=>rfl
  | [v]=>rfl
  | _::_::_=>rfl
 rw[e];exact b _ _ _ m z.post
theorem WM.Ym{q:Func}{H:kP}{v:Value}(r:Rt C q Q H)(a:∀(T:aK) (R:LH) (β:Nm),bS β (get F) T->vM β B R->Le L R->aP P (λu f=>u=v/\f=R) (λ_ _=>False) (results q T) R)(t:Q v L):WM C n [] .returning F B L:=by
 intro T R β k p m z;let⟨g,y,o,c,i,d,j,_⟩:=r;rw[y,d];refine C.X.leave g o (lF ?_ (λ_ _ h=>h) _ _ (a T R β m z.boxes z.le));rintro u f ⟨rfl,rfl⟩;exact j _ _ _ t z.post
theorem WM.raise{q:Func}{H:kP}{v:List PanicEntry}(r:Rt C q Q H)(u:H v L):WM C n [] (.panicking v) F B L:=by
 intro T R β k f t d;let⟨a,y,o,c,i,h,_,z⟩:=r;rw[h];exact C.X.raise a (z _ _ _ u d.post)
end
section
variable {P:aV}{C:Cx P}
theorem W.goto{v:bI}(h:gotoIn k K=v)(w:W C n I v F B L):W C n I (.code (.goto k)::K) F B L:=λT R β u q r=>C.X.goto h (w T R β u q r)
theorem W.pt(c:Xd){u:Env}{v:aX}(f:c m u v L)(g:gR F u)(d:mV B v)
  (h:∀m F B L,c m F B L->(∀t u v i,t<m->c t u v i->W C n I K u v i)->W C n I K F B L)(q:Ah v u=true:=by rfl)(z:CU v v=true:=by rfl):W C n I K F B L:=by
 let j:∀m F B L,c m F B L->W C n I K F B L:=by
  intro m
  induction m using Nat.strongRecOn with
  | ind m ih=>exact λF B L p=>h m F B L p λt u v i o a=>ih t o u v i a
 exact W.kI g d (j m u v L f) q z
end
section
variable {P:aV}{C:Cx P}
abbrev Wx(v:Value):PanicEntry:={v:=v,recovered:=false}
theorem W.ado{d:cU}{v:Value}{i:fD}{l:cR}{o:cZ}(j:nth d.toList k=some ⟨i,.panic x,e,H,l,o⟩)(f:bG (get F) d.toList o=true)(u:bZ (get F) x=z)(a:den fe z=some (.iface t v))
  (w:WM C n I (.panicking [Wx (.iface t v)]) F B L):W C n I (.inRegion d (k::q)::K) F B L:=by
 refine W.oper j f rfl λT R β m h r=>?_;let g:=bR ((h.val u).symm.trans (fw a β));simp only[execOp,g];rw[Z];exact w T R β _ m h r
theorem Mb{T:aK}{g:bO}{f:Frame}{i:dX}{m:jk}{z:fX}{w:fD}{l:cR}{o:cZ}{c:kP}{X:aM P}
  (u:m.map (ev T)=j.toArray)(a:Sp X g j L Q c)(n:Le L R)(b:∀v r,(∃d,Q v d/\Post L R d r)->X.Go (G (f.finish v) i) r)(s:∀y r,(∃d,c y d/\Post L R d r)->X.Go (G (f.raise y) i) r)(p:bC):
  aP P (jP P X.Go f i .normal) p (execOp (ev T) ⟨w,.call {callee:=.value (.func g),args:=m,argTypes:=z},t,H,l,o⟩) R:=by
 let⟨⟨h,q,k,x⟩,e⟩:=a;exact Mj.func q k x u _ _ _ _ _ _ (e R n .normal _ _ (.inl rfl) b s)
def W.iy{x:cU}{g:bO}{f:jk}{D:fX}{l:cR}{o:cZ}{c:kP}(b:nth x.toList k=some ⟨some m,.call {callee:=.value (.func g),args:=f,argTypes:=D},t,H,l,o⟩)(G:bG (get F) x.toList o=true)(p:Nat.blt m n=true)
  (s:nJ (get F) f.toList=j)(a:Sp C.X g j L Q c)(w:∀v d,Q v d->W C n I (.inRegion x q::K) ((m,v)::F) B d)(S:∀i d,c i d->WM C n I (.panicking i) F B d):W C n I (.inRegion x (k::q)::K) F B L:=by
 refine W.oper b G rfl λT R β e h r=>?_;let u:f.map (ev T)=j.toArray:=Lp
 refine Mb u a r.le (λv J ⟨d,y,z⟩=>?_) (λi J ⟨d,y,z⟩=>?_) _
 .exact W.iB b rfl (eH p) e h (r.call z) rfl (w v d y)
 .exact S i d y T J β _ e h (r.call z)
theorem DD.iy{y:cU}{i:Env}[S:Seat P](p:Nat){g:bO}{w:jk}{Q:fX}{J:fD}{l:cR}{o:cZ}{c:kP}(W:nth y.toList p=some ⟨J,.call {callee:=.value (.func g),args:=w,argTypes:=Q},t,H,l,o⟩)(f:Nat.blt p y.size=true)(a:iX q p=false)(b:qY y.toList q [p] y.size=true)(E:bG (cM y.toList p F i) y.toList o=true)
  (ha:nJ (cM y.toList p F i) w.toList=j)(hs:Sp C.X g j L (λ_ _=>False) c)(wp:∀e k,c e k->WM C n I (.panicking e) [] B k):DD C S.τ n I y K m R q F i B L:=by
 refine .pan p f a b W E λT d β k' h hE r=>⟨rfl,?_⟩;let u:w.map (ev T)=j.toArray:=by rw[<-wO hE ha,<-oY]
 refine Mb u hs r.le (λv G ⟨k,D,z⟩=>D.elim) (λe G ⟨k,D,z⟩=>?_) _;exact wp e k D T G β _ h (λs x u=>by cases u) (r.call z)
end
section
variable {P:aV}{C:Cx P}
def agY(B:aX)(L:LH)(sv sv':SV)(B':aX)(L':LH):Prop:=sv'=sv/\B'=B/\L'=L
theorem Ef.val{w:fD}{k:Op}{l:cR}{o:cZ}(e:iU k=false)(h:Vf P k E B L z):Ef C ⟨w,k,t,H,l,o⟩ E B L (agY B L z):=by
 intro T R β u r;let⟨v,q,d⟩:=h T R β u r.boxes r.le;exact⟨e,d t _ _ _ _ _ _ ⟨z,B,L,⟨rfl,rfl,rfl⟩,q,r,λ_ _=>rfl⟩⟩
def vb:LH:=λ_=>none
theorem ij(L:LH):Le vb L:=λb x h=>by cases h
end
theorem W.Sj{P:aV}{C:Cx P}{a b:Item}(J:Q5)(i:∀F B L,J F B L->W C n I K F B L)(h:(∀u v q,J u v q->W C n I K u v q)->W C n I (a::b::K) F B L):W C n I (a::b::K) F B L:=h i
theorem adG(m:Nat):∀l:List Value,HJ m (l.map SV.v)=true
 | []=>rfl
 | _::l=>by rw[iH];unfold HJ;exact adG m l
theorem gV(l:aR)(t:bh)(h:CU m B=true):CU m (some ⟨l.map SV.v,t⟩::B)=true:=by
 unfold CU;rw[adG];exact h
section
variable {P:aV}{α:Type}
structure Yl(X:aM P)(yv:Value)(enc:α->List Value)(xs:List α)(K:LH->Prop)(J:List α->LH->Prop)(ai:LH->Prop):Prop where
 fn:∃a b c,yv=.func a b c
 inv:∀pre L,J pre L->K L
 yl:∀pre x post L,xs=pre++x::post->J pre L->vQ X yv (enc x) L (λv L'=>(v=.bool true/\J (pre++[x]) L')\/(v=.bool false/\ai L'))
def nq(J:List α->LH->Prop)(F:LH)(pre:List α)(L:LH):Prop:=∃L1,J pre L1/\Le L1 L/\Le F L/\∀b,F b≠none->L1 b=none
def Gz(ai:sW)(F:LH)(L:LH):Prop:=∃L1,ai L1/\Le L1 L/\Le F L
variable {X:aM P}{yv:Value}{enc:α->List Value}{xs:List α}{K:sW}{J:List α->LH->Prop}{ai:sW}{F L c:LH}{pre:List α}
theorem nq.mono(h:nq J F pre L)(o:Le L c):nq J F pre c:=let⟨u,q,z,r,x⟩:=h;⟨u,q,z.trans o,r.trans o,x⟩
theorem nq.zero(h:J pre L):nq J vb pre L:=⟨L,h,Le.refl _,ij _,λ_ h=>ar rfl h⟩
def zO{F L:LH}(h:Le F L)(b:Nat)(o:Obj):Le (F.put b o) (L.put b o):=λq x u=>by
 by_cases e:q=b
 .subst e;rw[aj] at u ⊢;exact u
 .rw[aB _ _ e] at u ⊢;exact h q x u
def nq.put(h:nq J F pre L)(d:L n=none)(o:Obj):nq J (F.put n o) pre (L.put n o):=by
 obtain⟨u,q,z,r,v⟩:=h;let y:=bN z d;refine⟨u,q,z.trans (Le.put d _),zO r n o,λb x=>?_⟩
 by_cases e:b=n
 .subst e;exact y
 .rw[aB _ _ e] at x;exact v b x
def nq.set(h:nq J F pre L){b:Nat}(d:F b≠none)(o:Obj):nq J (F.put b o) pre (L.put b o):=by
 obtain⟨a,q,z,r,f⟩:=h;let y:=f b d;refine⟨a,q,λi x u=>?_,zO r b o,λi v=>?_⟩
 .rw[aB _ _ (λe=>by subst e;rw[y] at u;cases u)];exact z i x u
 .by_cases e:i=b
  .subst e;exact y
  .rw[aB _ _ e] at v;exact f i v
theorem nq.less(h:nq J F pre L)(n:Le R F):nq J R pre L:=by
 let⟨v,q,z,r,x⟩:=h;refine⟨v,q,z,n.trans r,λb d=>x b ?_⟩;cases u:R b with
 | none=>exact ar u d
 | some y=>rw[n b y u];simp
def Yl.frame(h:Yl X yv enc xs K J ai)(hK:∀L L',Le L L'->K L->K L')(F:LH):Yl X yv enc xs (λL=>K L/\Le F L) (nq J F) (Gz ai F) where
 fn:=h.fn
 inv:=λpre L ⟨L1,h1,h2,h3,_⟩=>⟨hK _ _ h2 (h.inv _ _ h1),h3⟩
 yl:=λpre x post L hx ⟨L1,h1,h2,h3,h4⟩=>by
  refine((h.yl pre x post L1 hx h1).frame h2).mono ?_;rintro v L' ⟨L1',hq,hp⟩;let hF:Le F L':=λb y hy=>hp.keep b y (h4 b (by rw[hy];simp)) (h3 b y hy);rcases hq with⟨e,hj⟩ | ⟨e,hz⟩
  .refine .inl ⟨e,L1',hj,hp.le,hF,λb hb=>?_⟩;cases hx:L1' b with
   | none=>rfl
   | some y=>
    rcases hp.fresh b F0 with g | g
    .exact ar (h4 b hb) g
    .cases hf:F b with
     | none=>exact ar hf hb
     | some z=>rw[h3 b z hf] at g;cases g
  .exact .inr ⟨e,L1',hz,hp.le,hF⟩
def Iter(X:aM P)(g:bO)(cap:aR)(enc:α->List Value)(xs:List α)(K:sW):Prop:=
 ∀(yv:Value) (J:List α->LH->Prop) (ai:sW) (L:LH),Yl X yv enc xs K J ai->J [] L->Sp X g (yv::cap) L (λv L'=>v=.tuple #[]/\(nq J vb xs L'\/Gz ai vb L'))
end
theorem Et(h:k<n):List.range n=List.range k++k::List.range' (k+1) (n - k - 1):=by
 rw[List.range_eq_range',List.range_eq_range'];let e:n=k+((n - k - 1)+1):=M
 conv=>lhs;rw[e]
 rw[<-List.range'_append_1,jJ,List.range'_succ]
variable {P:aV}{X:aM P}
def LH.calm(L:LH):LH:=λb=>match L b with
 | some (.loop _,_)=>none
 | some (.deferred _,_)=>none
 | x=>x
def rU(L:LH):Le L.calm L:=λb x h=>by
 unfold LH.calm at h
 split at h
 .cases h
 .cases h
 .exact h
theorem xp(h:Le L R):Le L.calm R.calm:=λb x u=>by
 let q:=rU L b x u;let z:=h b x q;unfold LH.calm at u ⊢;rw[q] at u;rwa[z]
def mY{o m:Loop}{j:Bool}(h:L n=some (.loop o,j)):(L.put n (.loop m)).calm=L.calm:=by
 funext b
 unfold LH.calm
 by_cases e:b=n
 .subst e;rw[aj,h]
 .rw[aB _ _ e]
theorem ia{i:aK}{u:km}{j:Bool}(h:L n=some (.cells i t u,j)):L.calm n=some (.cells i t u,j):=by
 unfold LH.calm;rw[h]
theorem aG(h:Le R L)(d:R n=none)(o:Obj):Le R (L.put n o):=λb x u=>by
 rw[aB _ _ (λe=>by subst e;rw[d] at u;cases u)];exact h b x u
theorem W.iter{C:Cx P}{o:sW}{g:bO}{E:Array Tmp}{a H:Code}
  (u:LH)(u1:Le u L)(t:List α->LH->Prop)(ai:Code->LH->Prop)(it:Iter C.X g j h r o)(u9:qN P g)(u4:C.ro=none)(E':Env)(u5:gR F E')(h0:Ah 0 E'=true)
  (hf:bZ (get F) x=z)(hv:den fe z=some (.func (.func g) #[] j.toArray))
  (hm:∀D L1 L2,Le L1 L2->t D L1->t D L2)(hz:∀s L1 L2,Le L1 L2->ai s L1->ai s L2)
  (hK:∀D J,Le u J->t D J->o J)(hI:t [] L.calm)
  (hn:(E.toList.all λp=>Nat.blt p n)=true)(u6:∀m,(h m).length=E.size)
  (hb:∀(d l:Nat) (D:List α) (m:α) (R:List α) (J:LH) (q lb:Loop),r=D++m::R->Le u J->t D J->u l=none->u d=none->l≠d->
   J l=some (.loop q,true)->J d=some (.deferred (some []),true)->
   ∀k:Cx P,k.X=C.X->k.f=C.f->
    (∀(K:bI) (F:Env) (B:aX),(∀L2,L2 l=some (.loop lb,true)->(∀b,b≠l->L2 b=J b)->W k n [] K F B L2)->W k n [] (.beginRound::K) F B J)->
    (∀(K:bI) (F:Env) (B:aX) (G:LH),Leaves K none->G l=some (.loop lb,true)->G d=some (.deferred (some []),true)->Le u G->t (D++[m]) G.calm->W k n [] K F B G)->
    (∀(K:bI) (F:Env) (B:aX) (G:LH) (s:Code),Leaves K s->G l=some (.loop lb,true)->G d=some (.deferred (some []),true)->Le u G->ai s G.calm->W k n [] K F B G)->
    W k n [] [.code a,.beginRound,.code H] (vB E.toList (h m) E') [] J)
  (w1:∀(d l:Nat) (J:LH),Le u J->u l=none->u d=none->t r J->J d=some (.deferred (some []),true)->W C n (⟨.collected d,#[]⟩::I) K F B J)
  (w2:∀(d l:Nat) (s:Code) (J:LH),Le u J->u l=none->u d=none->ai s J->J d=some (.deferred (some []),true)->W C n (⟨.collected d,#[]⟩::I) (.code s::K) F B J):
  W C n I (.code (.rangeFunc x E a H)::K) F B L:=by
 refine W.range u4 E' u5 h0 hf hv (λT d l st y J=>Le u J/\u l=none/\u d=none/\l≠d/\J d=some (.deferred (some []),true)/\(∃st y,J l=some (yB st y C.f T E a H d,true))/\((y=none/\t r J.calm)\/∃s,y=some s/\ai s J.calm)) ?_ ?_
 .intro T d l hT hE u2 u3 i _ _;have hd:=bN u1 u2;have hl:=bN u1 u3;have hJ:Le u ((L.put d (.deferred (some []))).put l (yB .ready none C.f T E a H d)):=aG (aG u1 hd _) hl _;have u7:((L.put d (.deferred (some []))).put l (yB .ready none C.f T E a H d)).calm=L.calm:=by
   funext b
   unfold LH.calm
   by_cases e:b=l
   .subst e;rw[aj,u3]
   .rw[aB _ _ e]
    by_cases e:b=d
    .subst e;rw[aj,u2]
    ·rw[aB _ _ e]
  have hs:=it (.func (.yield l) #[] #[]) (λD J=>Le u J/\t D J.calm/\J l=some (yB .ready none C.f T E a H d,true)/\J d=some (.deferred (some []),true))
   (λJ=>Le u J/\(∃s,J l=some (yB .done (some s) C.f T E a H d,true)/\ai s J.calm)/\J d=some (.deferred (some []),true)) _
   ⟨⟨_,_,_,rfl⟩,λD J c=>hK D J c.1 (hm _ _ _ (rU _) c.2.1),?_⟩ ⟨hJ,by rw[u7];exact hI,aj _ _ _,by rw[aB _ _ (dG i)];exact aj _ _ _⟩
  .refine(Sp.LJ (f1:=[]) (f2:=j) (args:=[.func (.yield l) #[] #[]]) hs).mono ?_;rintro v J ⟨_,⟨L1,⟨q1,w,S,q4⟩,Q,_⟩ | ⟨L1,⟨q1,⟨s,w,S⟩,q4⟩,Q,_⟩⟩
   .exact⟨_,_,V,Q _ _ S,q1.trans Q,hl,hd,i,Q _ _ q4,⟨_,_,Q _ _ S⟩,.inl ⟨rfl,hm _ _ _ (xp Q) w⟩⟩
   .exact⟨_,_,V,Q _ _ w,q1.trans Q,hl,hd,i,Q _ _ q4,⟨_,_,Q _ _ w⟩,.inr ⟨s,rfl,hz _ _ _ (xp Q) S⟩⟩
  .rintro D m R J hx ⟨q1,w,S,q4⟩;refine vQ.round (n:=n) (E':=E') S (u6 m) hT hE hn λk c1 c2 c3 _ rt=>?_;refine hb d l D m R J _ ⟨.busy,none,C.f,T,E,a,H,d⟩ hx q1 (hm _ _ _ (rU _) w) hl hd i S q4 k c1 c2 (λK F B hw=>W.XF c3 S rfl (hw _ (aj _ _ _) λb u8=>aB _ _ u8)) ?_ ?_
   .intro K F B G hk g1 g2 g3 g4;refine W.XR rt c3 hk g1 (.inl ⟨rfl,aG g3 hl _,?_,aj _ _ _,QT⟩);rw[mY g1];exact g4
   .intro K F B G s hk g1 g2 g3 g4;refine W.XR rt c3 hk g1 (.inr ⟨rfl,aG g3 hl _,⟨s,aj _ _ _,?_⟩,QT⟩);rw[mY g1];exact g4
 .rintro T d l st y J ⟨q1,w,S,q4,Q,⟨q0,q8,q6⟩,⟨rfl,q7⟩ | ⟨s,rfl,q7⟩⟩
  .exact w1 d l _ (aG q1 w _) w S (hm _ _ _ (rU _) (by rw[mY q6];exact q7)) (by rw[aB _ _ (dG q4)];exact Q)
  .exact w2 d l s _ (aG q1 w _) w S (hz _ _ _ (rU _) (by rw[mY q6];exact q7)) (by rw[aB _ _ (dG q4)];exact Q)
end Go.Mz
