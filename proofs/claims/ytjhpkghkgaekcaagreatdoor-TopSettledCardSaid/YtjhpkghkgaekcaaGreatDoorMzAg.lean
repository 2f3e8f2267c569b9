/- Lemmas on which the claim leans. -/
import Derived.Test.YtjhpkghkgaekcaaGreatDoorMzAf
namespace Go.Mz
open Go.Conc
def zq:List Edge→List Nat
 | []=>[]
 | e::r=>match always e with | true=>e.on::zq r | false=>zq r
def cM(ops:List Oper)(i:Nat):List Nat:=match nth ops i with
 | some o=>zq o.after.toList
 | none=>[]
theorem wm:∀(l:List Edge),zq l=(l.filter always).map (·.on)
 | []=>rfl
 | e::r=>by
  unfold zq;cases h:always e with
  | true=>simp[h,wm r]
  | false=>simp[h,wm r]
theorem cR(ops:Array Oper)(i:Nat):cM ops.toList i=dT ops i:=by
 unfold cM dT;rw[bU,Array.getElem?_toList];cases ops[i]? with
 | none=>rfl
 | some o=>exact wm _
def writer(s:Nat):List Oper→Nat→Option Nat
 | [],_=>none
 | o::r,n=>match o.dst with
  | some d=>match Nat.beq d s with | true=>some n | false=>writer s r (n+1)
  | none=>writer s r (n+1)
theorem p6{s:Nat}:∀{l:List Oper} {n j:Nat},writer s l n=some j→n≤j∧∃o,l[j - n]?=some o∧o.dst=some s
 | [],_,_,h=>by cases h
 | o::r,n,j,h=>by
  unfold writer at h
  split at h
  ·rename_i d hd
   split at h
   ·rename_i hb;cases h;obtain rfl:=Nat.eq_of_beq_eq_true hb;exact⟨Nat.le_refl _,o,by simp,hd⟩
   ·obtain⟨h1,o',h2,h3⟩:=p6 h;exact⟨by omega,o',by rw[show j - n=(j - (n+1))+1 by omega];simpa using h2,h3⟩
  ·obtain⟨h1,o',h2,h3⟩:=p6 h;exact⟨by omega,o',by rw[show j - n=(j - (n+1))+1 by omega];simpa using h2,h3⟩
theorem p5{s:Nat}:∀{l:List Oper} {n:Nat},writer s l n=none→∀(j:Nat) (o:Oper),l[j]?=some o→o.dst≠some s
 | [],_,_,j,o,h=>by simp at h
 | p::r,n,h,j,o,hj=>by
  unfold writer at h
  split at h
  ·rename_i d hd
   split at h
   ·cases h
   ·rename_i hb;cases j with
    | zero=>
     simp at hj;subst hj;intro e;rw[hd] at e;cases e;simp at hb
    | succ j=>exact p5 h j o (by simpa using hj)
  ·rename_i hd;cases j with
   | zero=>simp at hj;subst hj;rw[hd];simp
   | succ j=>exact p5 h j o (by simpa using hj)
def bJ(ops:List Oper)(i:Nat)(V E0:Env):a8:=fun s=>match writer s ops 0 with
 | none=>get E0 s
 | some j=>match fg (cM ops i) j with
  | true=>get V s
  | false=>match fg (cM ops j) i with
   | true=>get E0 s
   | false=>none
theorem ef{l:List Nat}{d:Nat}:fg l d=true↔d∈l:=by
 induction l with
 | nil=>simp[fg]
 | cons x r ih=>
  unfold fg;cases hb:Nat.beq x d with
  | true=>simp[Nat.eq_of_beq_eq_true hb]
  | false=>
   have aY:d≠x:=fun e=>by subst e;simp at hb
   simp[ih,aY]
def kL(td:List Nat):List Nat→Bool
 | []=>true
 | x::r=>match fg td x with | true=>kL td r | false=>false
theorem r6{td l:List Nat}(h:kL td l=true):∀x∈l,x∈td:=by
 induction l with
 | nil=>simp
 | cons y r ih=>
  unfold kL at h;cases hy:fg td y with
  | false=>rw[hy] at h;cases h
  | true=>
   rw[hy] at h;intro x hx;rcases List.mem_cons.1 hx with rfl | hx
   ·exact ef.1 hy
   ·exact ih h x hx
def pO(ops:List Oper)(td pe:List Nat):Nat→Bool
 | 0=>true
 | i+1=>match fg td i,fg pe i,kL td (cM ops i) with
  | false,false,true=>false
  | _,_,_=>pO ops td pe i
theorem vO{td:List Nat}:∀{l:List Nat},(∀x∈l,x∈td)→kL td l=true
 | [],_=>rfl
 | x::r,h=>by
  unfold kL;rw[ef.2 (h x List.mem_cons_self)];exact vO fun y hy=>h y (List.mem_cons_of_mem _ hy)
def vC(ops:List Oper):Nat→List Nat→Nat→Bool
 | 0,l,j=>fg l j
 | f+1,l,j=>match fg l j with | true=>true | false=>l.any fun k=>vC ops f (cM ops k) j
def xY(ops:List Oper)(B3:List Nat):List Nat→Bool
 | []=>true
 | j::r=>match vC ops 4 B3 j with | true=>xY ops B3 r | false=>false
theorem Au{ops:List Oper}{S:List Nat}(hS:∀k∈S,∀j∈cM ops k,j∈S):∀{f:Nat} {l:List Nat} {j:Nat},vC ops f l j=true→(∀k∈l,k∈S)→j∈S
 | 0,l,j,h,hl=>hl j (ef.1 h)
 | f+1,l,j,h,hl=>by
  unfold vC at h;cases hk:fg l j with
  | true=>exact hl j (ef.1 hk)
  | false=>
   rw[hk] at h;obtain⟨k,h1,h2⟩:=List.any_eq_true.1 h;exact Au hS h2 (hS k (hl k h1))
theorem AY{ops:List Oper}{S B3:List Nat}(hS:∀k∈S,∀j∈cM ops k,j∈S)(hd:∀k∈B3,k∈S):∀{l:List Nat},xY ops B3 l=true→∀j∈l,j∈S
 | [],_,_,hj=>by cases hj
 | x::r,h,j,hj=>by
  unfold xY at h;cases hx:vC ops 4 B3 x with
  | true=>
   rw[hx] at h;rcases List.mem_cons.1 hj with rfl | hj
   ·exact Au hS hx hd
   ·exact AY hS hd h j hj
  | false=>rw[hx] at h;cases h
theorem wV{ops:List Oper}{td pe:List Nat}:∀{n:Nat},pO ops td pe n=true→∀i,i<n→i∉td→(∀j∈cM ops i,j∈td)→i∈pe
 | 0,_,i,h,_,_=>by omega
 | n+1,h,i,hi,ht,hd=>by
  by_cases e:i=n
  ·subst e;unfold pO at h;have h1:fg td i=false:=by
    cases hx:fg td i with
    | false=>rfl
    | true=>exact absurd (ef.1 hx) ht
   rw[h1,vO hd] at h;cases hx:fg pe i with
   | true=>exact ef.1 hx
   | false=>rw[hx] at h;cases h
  ·refine wV (n:=n) ?_ i (by omega) ht hd;unfold pO at h
   split at h
   ·cases h
   ·exact h
def Ah(ops:List Oper)(td:List Nat)(p:Nat):Nat→Bool
 | 0=>true
 | i+1=>match fg td i,fg (cM ops i) p,kL td (cM ops i) with
  | false,false,true=>false
  | _,_,_=>Ah ops td p i
theorem CP{ops:List Oper}{td:List Nat}{p:Nat}:∀{n:Nat},Ah ops td p n=true→∀i,i<n→i∉td→(∀j∈cM ops i,j∈td)→p∈cM ops i
 | 0,_,i,h,_,_=>by omega
 | n+1,h,i,hi,ht,hd=>by
  by_cases e:i=n
  ·subst e;unfold Ah at h;have h1:fg td i=false:=by
    cases hx:fg td i with
    | false=>rfl
    | true=>exact absurd (ef.1 hx) ht
   rw[h1,vO hd] at h;cases hx:fg (cM ops i) p with
   | true=>exact ef.1 hx
   | false=>rw[hx] at h;cases h
  ·refine CP (n:=n) ?_ i (by omega) ht hd;unfold Ah at h
   split at h
   ·cases h
   ·exact h
def Fv(td:List Nat):Nat→Bool
 | 0=>true
 | i+1=>match fg td i with | true=>Fv td i | false=>false
theorem uE{td:List Nat}:∀{n:Nat},Fv td n=true→∀i,i<n→i∈td
 | 0,_,i,h=>by omega
 | n+1,h,i,hi=>by
  unfold Fv at h;cases hx:fg td n with
  | false=>rw[hx] at h;cases h
  | true=>
   rw[hx] at h
   by_cases e:i=n
   ·subst e;exact ef.1 hx
   ·exact uE h i (by omega)
def xv:Option Nat→SV→Env→Env
 | some d,sv,V=>(d,sv)::V
 | none,_,V=>V
mutual
def jk(k b:Nat):SV→SV
 | .v x=>.v x
 | .p k' off=>match Nat.beq k' k with | true=>.v (.pointer (some ⟨b,off,none⟩)) | false=>.p k' off
 | .a l=>.a (xR k b l)
 | .f fn x y=>.f fn (xR k b x) (xR k b y)
 | .i t x=>.i t (jk k b x)
 | .lit c=>.lit c
 | .sl k' off len cap=>match Nat.beq k' k with | true=>.v (.slice (some ⟨b,off,none⟩) len cap) | false=>.sl k' off len cap
def xR(k b:Nat):List SV→List SV
 | []=>[]
 | x::l=>jk k b x::xR k b l
end
mutual
theorem lg{β:Nm}{k b:Nat}(hk:β k=some b):∀(x:SV),den β (jk k b x)=den β x
 | .v x=>rfl
 | .p k' off=>by
  unfold jk;cases hb:Nat.beq k' k with
  | true=>obtain rfl:=Nat.eq_of_beq_eq_true hb;simp only[den,hk]
  | false=>rfl
 | .a l=>by unfold jk den;rw[rX hk l]
 | .f fn x y=>by unfold jk den;rw[rX hk x,rX hk y]
 | .i t x=>by unfold jk den;rw[lg hk x]
 | .lit c=>rfl
 | .sl k' off len cap=>by
  unfold jk;cases hb:Nat.beq k' k with
  | true=>obtain rfl:=Nat.eq_of_beq_eq_true hb;simp only[den,hk]
  | false=>rfl
theorem rX{β:Nm}{k b:Nat}(hk:β k=some b):∀(x:List SV),bC β (xR k b x)=bC β x
 | []=>rfl
 | x::l=>by unfold xR bC;rw[lg hk x,rX hk l]
end
mutual
theorem Aq{γ:Nm}{k b:Nat}(hk:γ k=none):∀{x:SV} {v:Value},den γ x=some v→jk k b x=x
 | .v x,_,_=>rfl
 | .p k' off,v,h=>by
  unfold jk;cases hb:Nat.beq k' k with
  | true=>
   obtain rfl:=Nat.eq_of_beq_eq_true hb;unfold den at h;rw[hk] at h;cases h
  | false=>rfl
 | .a l,v,h=>by
  unfold den at h;cases hl:bC γ l with
  | none=>rw[hl] at h;cases h
  | some vs=>unfold jk;rw[vA hk hl]
 | .f fn x y,v,h=>by
  unfold den at h;cases h1:bC γ x with
  | none=>rw[h1] at h;cases h
  | some a=>
   cases h2:bC γ y with
   | none=>rw[h1,h2] at h;cases h
   | some c=>unfold jk;rw[vA hk h1,vA hk h2]
 | .i t x,v,h=>by
  unfold den at h;cases hx:den γ x with
  | none=>rw[hx] at h;cases h
  | some u=>unfold jk;rw[Aq hk hx]
 | .lit c,_,_=>rfl
 | .sl k' off len cap,v,h=>by
  unfold jk;cases hb:Nat.beq k' k with
  | true=>
   obtain rfl:=Nat.eq_of_beq_eq_true hb;unfold den at h;rw[hk] at h;cases h
  | false=>rfl
theorem vA{γ:Nm}{k b:Nat}(hk:γ k=none):∀{x:List SV} {v:List Value},bC γ x=some v→xR k b x=x
 | [],_,_=>rfl
 | x::l,v,h=>by
  obtain⟨u,us,h1,h2,_⟩:=eX h;unfold xR;rw[Aq hk h1,vA hk h2]
end
def Ap(k b:Nat):Env→Env
 | []=>[]
 | (s,x)::r=>(s,jk k b x)::Ap k b r
theorem kZ(k b:Nat):∀(E:Env) (s:Nat),get (Ap k b E) s=(get E s).map (jk k b)
 | [],s=>rfl
 | (s',x)::r,s=>by
  unfold Ap;rw[bD,bD]
  by_cases e:s'=s
  ·rw[if_pos e,if_pos e];rfl
  ·rw[if_neg e,if_neg e];exact kZ k b r s
theorem Si{β:Nm}{k b:Nat}{E:Env}{T:Array Value}(hk:β k=some b)(h:aH β (get E) T):aH β (get (Ap k b E)) T:=fun s x hx=>by
 rw[kZ,Option.map_eq_some_iff] at hx;obtain⟨y,h1,rfl⟩:=hx;rw[lg hk];exact h s y h1
section
variable {P:Program}{C:Cx P}{τ:TT}{n:Nat}{ds:List Deferred}{k:List Item}{E:Env}{B:List (Option Bx)}{L:LH}
theorem W.cw(s:Nat){kk:Nat}{x:Bx}{cs:List Value}(hs:(∃off,get E s=some (.p kk off))∨(∃off len cap,get E s=some (.sl kk off len cap)))(hx:nth B kk=some (some x))(hc:bC dr x.cells=some cs)
  (w:∀b,L b=none→C.R0 b=none→W C n ds k (Ap kk b E) (B.set kk none) (L.put b (.cells cs.toArray x.ty))):W C n ds k E B L:=by
 intro T R β hT hE hH;have hb:∃b,β kk=some b:=by
  rcases hs with⟨off,hs⟩ | ⟨off,len,cap,hs⟩
  ·obtain⟨b,hb,_⟩:=lV (hE s _ hs);exact⟨b,hb⟩
  ·have:=hE s _ hs;unfold den at this;cases hk:β kk with
   | none=>rw[hk] at this;cases this
   | some b=>exact⟨b,rfl⟩
 obtain⟨b,hb⟩:=hb;have jZ:B[kk]?=some (some x):=by rw[←bU];exact hx
 obtain⟨h1,h2⟩:=hH.cw hb jZ hc;exact w b h1 (hH.box kk b x hb jZ).2.1 T R β hT (Si hb hE) h2
end
section
variable {P:Program}(C:Cx P)(τ:TT)(n:Nat)(ds:List Deferred)(ops:Array Oper)(k:List Item)(m:Nat)(Lf:LH)
inductive DD:List Nat→Env→Env→List (Option Bx)→LH→Prop
 | reg {td:List Nat} {V E0:Env} {B:List (Option Bx)} {L:LH} (i:Nat) {o:Oper} {d:Nat} {sv:SV} (ho:nth ops.toList i=some o) (hn:fg td i=false) (jS:kL td (cM ops.toList i)=true) (hd:o.dst=some d) (fF:fS o.op=false)
   (hg:aK (bJ ops.toList i V E0) ops.toList o.guard=some true) (hv:∀(T:Array Value) (R:LH) (β:Nm),aH β (bJ ops.toList i V E0) T→nU β (B.take m) R→Le Lf R→j6 P β o.op T R sv) (w:DD (i::td) ((d,sv)::V) E0 B L):DD td V E0 B L
 | no {td:List Nat} {V E0:Env} {B:List (Option Bx)} {L:LH} (i:Nat) {o:Oper} {d:Nat} (ho:nth ops.toList i=some o) (hn:fg td i=false) (jS:kL td (cM ops.toList i)=true) (hd:o.dst=some d)
   (hg:aK (bJ ops.toList i V E0) ops.toList o.guard=some false) (w:DD (i::td) ((d,.v undef)::V) E0 B L):DD td V E0 B L
 | pk {td:List Nat} {V E0:Env} {B:List (Option Bx)} {L:LH} (i:Nat) {o:Oper} {d:Nat} {t:TypeId} {x:Operand} {a:Addr} {v:Value} (ho:nth ops.toList i=some o) (hn:fg td i=false) (jS:kL td (cM ops.toList i)=true) (hd:o.dst=some d)
   (hg:aK (bJ ops.toList i V E0) ops.toList o.guard=some true) (aZ:o.op=.load t x) (ht:eV P t=some false) (hx:aL (bJ ops.toList i V E0) x=some (.v (.pointer (some a)))) (UY:C.X.pk a v) (w:DD (i::td) ((d,.v v)::V) E0 B L):DD td V E0 B L
 | alc {td:List Nat} {V E0:Env} {B:List (Option Bx)} {L:LH} (i:Nat) {o:Oper} {d:Nat} {x:Bx} {sh:Nat→SV} (ho:nth ops.toList i=some o) (hn:fg td i=false) (jS:kL td (cM ops.toList i)=true) (hd:o.dst=some d)
   (hg:aK (bJ ops.toList i V E0) ops.toList o.guard=some true) (hs:C1 τ (bJ ops.toList i V E0) o.op=some (x,sh)) (w:DD (i::td) ((d,sh B.length)::V) E0 (B++[some x]) L):DD td V E0 B L
 | aB {td:List Nat} {V E0:Env} {B:List (Option Bx)} {L:LH} (pe:List Nat) (Q:Nat→SV→List (Option Bx)→LH→Prop) (e0:Nat) (h0:Nat.blt e0 ops.size=true) (kR:fg td e0=false) (cz:pO ops.toList td pe ops.size=true)
   (he:∀e∈pe,kL td (cM ops.toList e)=true→∃o,nth ops.toList e=some o∧aK (bJ ops.toList e V E0) ops.toList o.guard=some true∧
    ∀(T:Array Value) (R:LH) (β:Nm),aH β (bJ ops.toList e V E0) T→aF C.L0 C.R0 β B L R→BQ C.X o T R (fun v R'=>∃sv B' L',Q e sv B' L'∧den β sv=some v∧aF C.L0 C.R0 β B' L' R'∧∀kk,β kk=none→B'[kk]?=B[kk]?))
   (hq:∀e∈pe,kL td (cM ops.toList e)=true→∀sv B' L',Q e sv B' L'→Le Lf L'∧B'.length=B.length∧(B'.take m=B.take m∨xY ops.toList (cM ops.toList e) td=true))
   (w:∀e∈pe,kL td (cM ops.toList e)=true→∀sv B' L',Q e sv B' L'→DD (e::td) (xv (cq ops e) sv V) E0 B' L'):DD td V E0 B L
 | cw {td:List Nat} {V E0:Env} {B:List (Option Bx)} {L:LH} (p:Nat) {d kk:Nat} {x:Bx} {cs:List Value} (hp:fg td p=true) (hd:cq ops p=some d) (hs:(∃off,get V d=some (.p kk off))∨(∃off len cap,get V d=some (.sl kk off len cap))) (hm:Nat.ble m kk=true)
   (e0:Nat) (h0:Nat.blt e0 ops.size=true) (kR:fg td e0=false) (cz:Ah ops.toList td p ops.size=true) (hx:nth B kk=some (some x)) (hc:bC dr x.cells=some cs)
   (w:∀b,L b=none→C.R0 b=none→DD td (Ap kk b V) E0 (B.set kk none) (L.put b (.cells cs.toArray x.ty))):DD td V E0 B L
 | gV {td:List Nat} {V E0:Env} {B:List (Option Bx)} {L:LH} (e0:Nat) {o:Oper} (h0:Nat.blt e0 ops.size=true) (kR:fg td e0=false) (cz:pO ops.toList td [e0] ops.size=true) (ho:nth ops.toList e0=some o) (hg:aK (bJ ops.toList e0 V E0) ops.toList o.guard=some true)
   (he:∀(T:Array Value) (R:LH) (β:Nm) (k':List Item),T.size=n→aH β (bJ ops.toList e0 V E0) T→aF C.L0 C.R0 β B L R→fS o.op=false∧
    az P (fj P C.X.Go (Fr C.f T k' ds .run C.kd C.ro) C.cs .normal) (kY C.X.Go (Fr C.f T k' ds .run C.kd C.ro) C.cs) (execOp (ev T) o) R):DD td V E0 B L
 | rest {td:List Nat} {V E0:Env} {B:List (Option Bx)} {L:LH} (e0:Nat) (h0:Nat.blt e0 ops.size=true) (kR:fg td e0=false) (cz:Fv (e0::td) ops.size=true) (gB:xY ops.toList (cM ops.toList e0) td=true)
   (w:W C n ds (.inRegion ops [e0]::k) (V++E0) B L):DD td V E0 B L
 | lit {td:List Nat} {V E0:Env} {B:List (Option Bx)} {L:LH} (s:Nat) {p:Bool} (hs:get V s=some (.v (.bool p))) (w:DD td ((s,.lit p)::V) E0 B L):DD td V E0 B L
 | fin {td:List Nat} {V E0:Env} {B:List (Option Bx)} {L:LH} (cz:Fv td ops.size=true) (w:W C n ds k (V++E0) B L):DD td V E0 B L
end
section
variable {P:Program}{C:Cx P}{τ:TT}{n:Nat}{ds:List Deferred}{ops:Array Oper}{k:List Item}{m:Nat}{Lf:LH}
theorem get_append(V E0:Env)(s:Nat):get (V++E0) s=match get V s with | some y=>some y | none=>get E0 s:=by
 induction V with
 | nil=>rfl
 | cons y V ihV=>
  obtain⟨s',y⟩:=y;rw[List.cons_append,bD,bD]
  by_cases e:s'=s
  ·rw[if_pos e,if_pos e]
  ·rw[if_neg e,if_neg e];exact ihV
theorem iK(gS:fP ops=true){i j s:Nat}(hi:cq ops i=some s)(hj:cq ops j=some s):i=j:=by
 have lt:∀{i:Nat},cq ops i=some s→i<ops.size:=fun{i} h=>by
  unfold cq at h;cases hx:ops[i]? with
  | none=>rw[hx] at h;cases h
  | some o=>exact(Array.getElem?_eq_some_iff.1 hx).1
 have h1:=List.all_eq_true.1 (List.all_eq_true.1 gS i (List.mem_range.2 (lt hi))) j (List.mem_range.2 (lt hj));rw[hi,hj] at h1
 simpa using h1
theorem jM{s j:Nat}(h:writer s ops.toList 0=some j):cq ops j=some s:=by
 obtain⟨_,o,h1,h2⟩:=p6 h;unfold cq;rw[Nat.sub_zero,Array.getElem?_toList] at h1;rw[h1];exact h2
theorem Kd{s:Nat}(h:writer s ops.toList 0=none)(j:Nat):cq ops j≠some s:=by
 unfold cq;cases hx:ops[j]? with
 | none=>simp
 | some o=>exact p5 h j o (by rw[Array.getElem?_toList];exact hx)
def Told(P:Program)(C:Cx P)(n:Nat)(ops:Array Oper)(m:Nat)(Lf:LH)(V E0:Env)(B:List (Option Bx))(β:Nm)(pend:Nat→Option Nat)(i:Nat):Prop:=
  ∃o d sv,ops[i]?=some o∧o.dst=some d∧get V d=some sv∧
    ((pend i=none∧∀(T:Array Value) (R:LH) (γ:Nm),uA β γ→aH γ (bJ ops.toList i V E0) T→nU γ (B.take m) R→Le Lf R→∃v,den γ sv=some v∧Yld C.X ops T R o v)∨
     (∃kk x,pend i=some kk∧B[kk]?=some (some x)∧β kk=none∧∀(T:Array Value) (γ:Nm),uA β γ→aH γ (bJ ops.toList i V E0) T→Region.wanted o (yielded ops T)=true∧fS o.op=false∧
        ∃cs mk,bC γ x.cells=some cs∧(∀(HO:Nm) (b:Nat),HO kk=some b→den HO sv=some (mk b))∧∀ty R,uu P o.op ty T R mk (.cells cs.toArray x.ty)))
structure Inv(C:Cx P)(n:Nat)(ops:Array Oper)(m:Nat)(Lf:LH)(td:List Nat)(V E0:Env)(B:List (Option Bx))(L:LH)(S:List Nat)(T:Array Value)(R:LH)(β:Nm)(pend:Nat→Option Nat):Prop where
 hT:T.size=n
 hS:∀i∈S,i∈td∧i<ops.size∧∀j∈dT ops i,j∈S
 hC:∀i∈td,∀j∈dT ops i,j∈td
 hE:∀s x,get E0 s=some x→(∀j∈S,cq ops j≠some s)→den β x=some (T.getD s undef)
 hV:∀j∈S,∀s x,cq ops j=some s→get V s=some x→den β x=some (T.getD s undef)
 hK:∀s x,get V s=some x→∃j,j∈td∧cq ops j=some s
 hN:∀j∈td,∀s,cq ops j=some s→get V s≠none
 hH:aF C.L0 C.R0 β B L R
 hL:Le Lf L
 hm:m≤B.length
 hI:∀i i' kk,pend i=some kk→pend i'=some kk→i=i'
 hP:∀i kk,pend i=some kk→kk<B.length
 hD:∀i∈td,i∉S→Told P C n ops m Lf V E0 B β pend i
theorem Inv.env{td:List Nat}{V E0:Env}{B:List (Option Bx)}{L:LH}{S:List Nat}{T:Array Value}{R:LH}{β:Nm}{pend:Nat→Option Nat}(h:Inv C n ops m Lf td V E0 B L S T R β pend)(gS:fP ops=true){i:Nat}(hi:i∉S)(hd:∀j∈dT ops i,j∈S):aH β (bJ ops.toList i V E0) T:=by
 intro s x hx;unfold bJ at hx
 split at hx
 ·rename_i hw;exact h.hE s x hx fun j _=>Kd hw j
 ·rename_i j hw;have hj:=jM hw
  split at hx
  ·rename_i h1;rw[cR] at h1;exact h.hV j (hd j (ef.1 h1)) s x hj hx
  ·split at hx
   ·rename_i h1;rw[cR] at h1;refine h.hE s x hx fun j' dL e=>?_;obtain rfl:=iK gS e hj;exact hi ((h.hS j' dL).2.2 i (ef.1 h1))
   ·cases hx
theorem Inv.low{td:List Nat}{V E0:Env}{B:List (Option Bx)}{L:LH}{S:List Nat}{T:Array Value}{R:LH}{β:Nm}{pend:Nat→Option Nat}(h:Inv C n ops m Lf td V E0 B L S T R β pend):nU β (B.take m) R:=fun k b x hk hx=>by
 by_cases aU:k<m
 ·rw[List.getElem?_take_of_lt aU] at hx;exact h.hH.boxes k b x hk hx
 ·rw[List.getElem?_eq_none (by rw[List.length_take];omega)] at hx;cases hx
theorem Inv.exec{td:List Nat}{V E0:Env}{B:List (Option Bx)}{L:LH}{S:List Nat}{T:Array Value}{R:LH}{β:Nm}{pend:Nat→Option Nat}(h:Inv C n ops m Lf td V E0 B L S T R β pend)(gS:fP ops=true)(hz:rL ops n=true){i:Nat}{l:List Nat}(ht:i∈td)(hi:i∉S)(aU:i<ops.size)(hd:∀j∈dT ops i,j∈S)
  (w:∀T' R' Bd iq,Inv C n ops m Lf td V E0 B L (i::S) T' R' Bd iq→C.X.Go (G (Fr C.f T' (.inRegion ops l::k) ds .run C.kd C.ro) C.cs) R'):C.X.Go (G (Fr C.f T (.inRegion ops (i::l)::k) ds .run C.kd C.ro) C.cs) R:=by
 have F8:=h.env gS hi hd;obtain⟨o,d,sv,ho,Qu,wJ,iG⟩:=h.hD i ht hi;have mU:cq ops i=some d:=by unfold cq;rw[ho];exact Qu
 have mw:d<n:=by
  have:=List.all_eq_true.1 hz i (List.mem_range.2 aU);rw[mU] at this
  simpa using this
 have P8:∀j∈i::S,j∈td∧j<ops.size∧∀j'∈dT ops j,j'∈i::S:=fun j hj=>by
  rcases List.mem_cons.1 hj with rfl | hj
  ·exact⟨ht,aU,fun j' dL=>List.mem_cons_of_mem _ (hd j' dL)⟩
  ·exact⟨(h.hS j hj).1,(h.hS j hj).2.1,fun j' dL=>List.mem_cons_of_mem _ ((h.hS j hj).2.2 j' dL)⟩
 -- N6 JQ behind it
 have JQ:∀(γ:Nm) (v:Value) (T':Array Value),uA β γ→den γ sv=some v→TN T T' d v→(∀s x,get E0 s=some x→(∀j∈i::S,cq ops j≠some s)→den γ x=some (T'.getD s undef))∧(∀j∈i::S,∀s x,cq ops j=some s→get V s=some x→den γ x=some (T'.getD s undef)):=by
  intro γ v T' j9 hv u;refine⟨fun s x hx hj=>?_,fun j hj s x hs hx=>?_⟩
  ·have aY:s≠d:=fun e=>hj i List.mem_cons_self (by rw[e];exact mU);rw[u.other s (by simpa using aY)];exact jI j9 (h.hE s x hx fun j dL=>hj j (List.mem_cons_of_mem _ dL))
  ·by_cases e:s=d
   ·subst e;rw[wJ] at hx;cases hx;rw[u.same];exact hv
   ·rw[u.other s (by simpa using e)];rcases List.mem_cons.1 hj with rfl | hj
    ·rw[mU] at hs;cases hs;exact absurd rfl e
    ·exact jI j9 (h.hV j hj s x hs hx)
 rcases iG with⟨hp,hY⟩ | ⟨kk,x,hp,hB,hk,hA⟩
 ·obtain⟨v,hv,hy⟩:=hY T R β (fun _ _ e=>e) F8 h.low (h.hL.trans h.hH.le);refine MT ho hy fun T' yi=>?_;rw[Qu] at yi;have u:=yi (by rw[h.hT];exact mw);obtain⟨s1,s2⟩:=JQ β v T' (fun _ _ e=>e) hv u;refine w T' R β pend ⟨u.size.trans h.hT,P8,h.hC,s1,s2,h.hK,h.hN,h.hH,h.hL,h.hm,h.hI,h.hP,fun j hj dL=>h.hD j hj fun e=>dL (List.mem_cons_of_mem _ e)⟩
 ·obtain⟨hw,fF,cs,mk,h1,h2,h3⟩:=hA T β (fun _ _ e=>e) F8;refine C.X.op ho hw (.inr fun c hc=>by rw[hc] at fF;cases fF) ?_;obtain⟨dst,op,ty,pos,af,gd⟩:=o;refine h3 ty R dst pos af gd _ _ fun b hb=>?_;show C.X.Go (G ((Fr C.f T (.inRegion ops (i::l)::k) ds .run C.kd C.ro).finish (mk b)) C.cs) _;rw[mq ho Qu];have u:=rE (mk b) (show d<T.size by rw[h.hT];exact mw);have j9:=Nm.EU hk b;obtain⟨s1,s2⟩:=JQ (β.set kk b) (mk b) _ j9 (h2 _ b (Nm.jK _ _ _)) u;refine w _ _ (β.set kk b) (fun j=>if j=i then none else pend j) ⟨u.size.trans h.hT,P8,h.hC,s1,s2,h.hK,h.hN,h.hH.name hb hk hB h1,h.hL,h.hm,fun a a' c e1 e2=>?_,fun a c e1=>?_,fun j hj dL=>?_⟩
  ·try simp only at e1 e2
   split at e1
   ·cases e1
   ·split at e2
    ·cases e2
    ·exact h.hI a a' c e1 e2
  ·try simp only at e1
   split at e1
   ·cases e1
   ·exact h.hP a c e1
  ·have pH:j≠i:=fun e=>dL (by rw[e];exact List.mem_cons_self);obtain⟨o',d',fC,g1,g2,g3,g4⟩:=h.hD j hj fun e=>dL (List.mem_cons_of_mem _ e);refine⟨o',d',fC,g1,g2,g3,?_⟩;rcases g4 with⟨g5,g6⟩ | ⟨sB,x',g5,g6,g7,g8⟩
   ·exact .inl ⟨by simp[pH,g5],fun T' R' γ Rq=>g6 T' R' γ (fun a c e=>Rq a c (j9 a c e))⟩
   ·refine .inr ⟨sB,x',by simp[pH,g5],g6,?_,fun T' γ Rq=>g8 T' γ (fun a c e=>Rq a c (j9 a c e))⟩;rw[Nm.yU _ _ (fun e=>by subst e;exact pH (h.hI _ _ _ g5 hp))];exact g7
theorem nL(gS:fP ops=true){td:List Nat}(hC:∀i∈td,∀j∈dT ops i,j∈td){V E0:Env}{j i d:Nat}{sv:SV}(hj:j∈td)(hi:i∉td)(hd:cq ops i=some d){γ:Nm}{T:Array Value}(h:aH γ (bJ ops.toList j ((d,sv)::V) E0) T):aH γ (bJ ops.toList j V E0) T:=by
 intro s x hx;refine h s x ?_;unfold bJ at hx ⊢;cases hw:writer s ops.toList 0 with
 | none=>rw[hw] at hx;exact hx
 | some p=>
  rw[hw] at hx;simp only at hx ⊢;cases h1:fg (cM ops.toList j) p with
  | true=>
   rw[h1] at hx;simp only at hx ⊢;rw[bD,if_neg (fun e=>?_)]
   ·exact hx
   ·subst e;have:=iK gS hd (jM hw);subst this;rw[cR] at h1;exact hi (hC j hj _ (ef.1 h1))
  | false=>rw[h1] at hx;exact hx
theorem Inv.LG{td:List Nat}{V E0:Env}{B B':List (Option Bx)}{L:LH}{S:List Nat}{T:Array Value}{R:LH}{β:Nm}{pend iq:Nat→Option Nat}(h:Inv C n ops m Lf td V E0 B L S T R β pend)(gS:fP ops=true){i d:Nat}{sv:SV}{o:Oper}(ho:ops[i]?=some o)(hd:o.dst=some d)(hi:i∉td)(jS:∀j∈dT ops i,j∈td)
  (hB:B'.take m=B.take m)(F2:∀(kk:Nat) (x:Bx),B[kk]?=some (some x)→B'[kk]?=some (some x))(jW:m≤B'.length)(hH:aF C.L0 C.R0 β B' L R)(hp:∀j,j≠i→iq j=pend j)(hI:∀i i' kk,iq i=some kk→iq i'=some kk→i=i')(hP:∀i kk,iq i=some kk→kk<B'.length)
  (lL:Told P C n ops m Lf ((d,sv)::V) E0 B' β iq i):Inv C n ops m Lf (i::td) ((d,sv)::V) E0 B' L S T R β iq:=by
 have mU:cq ops i=some d:=by unfold cq;rw[ho];exact hd
 refine⟨h.hT,fun j hj=>⟨List.mem_cons_of_mem _ (h.hS j hj).1,(h.hS j hj).2⟩,fun j hj j' dL=>?_,h.hE,fun j hj s x hs hx=>?_,fun s x hx=>?_,fun j hj s hs=>?_,hH,h.hL,jW,hI,hP,fun j hj dL=>?_⟩
 ·rcases List.mem_cons.1 hj with rfl | hj
  ·exact List.mem_cons_of_mem _ (jS j' dL)
  ·exact List.mem_cons_of_mem _ (h.hC j hj j' dL)
 ·have aY:d≠s:=fun e=>by
   subst e;obtain rfl:=iK gS mU hs;exact hi (h.hS _ hj).1
  rw[bD,if_neg aY] at hx;exact h.hV j hj s x hs hx
 ·rw[bD] at hx
  by_cases e:d=s
  ·exact⟨i,List.mem_cons_self,by rw[mU,e]⟩
  ·rw[if_neg e] at hx;obtain⟨j,h1,h2⟩:=h.hK s x hx;exact⟨j,List.mem_cons_of_mem _ h1,h2⟩
 ·rw[bD]
  by_cases e:d=s
  ·rw[if_pos e];simp
  ·rw[if_neg e];rcases List.mem_cons.1 hj with rfl | hj
   ·rw[mU] at hs;cases hs;exact absurd rfl e
   ·exact h.hN j hj s hs
 ·rcases List.mem_cons.1 hj with rfl | hj
  ·exact lL
  ·have pH:j≠i:=fun e=>hi (e▸hj);obtain⟨o',d',fC,g1,g2,g3,g4⟩:=h.hD j hj dL;have se:d≠d':=fun e=>by
    subst e;exact pH (iK gS (by unfold cq;rw[g1];exact g2) mU)
   refine⟨o',d',fC,g1,g2,by rw[bD,if_neg se];exact g3,?_⟩;rcases g4 with⟨g5,g6⟩ | ⟨sB,x',g5,g6,g7,g8⟩
   ·exact .inl ⟨by rw[hp j pH];exact g5,fun T' R' γ j9 hE D7=>g6 T' R' γ j9 (nL gS h.hC hj hi mU hE) (by rw[←hB];exact D7)⟩
   ·exact .inr ⟨sB,x',by rw[hp j pH];exact g5,F2 _ _ g6,g7,fun T' γ j9 hE=>g8 T' γ j9 (nL gS h.hC hj hi mU hE)⟩
theorem DD.run(dw:τ.Ok P)(gS:fP ops=true)(hz:rL ops n=true){td:List Nat}{V E0:Env}{B:List (Option Bx)}{L:LH}(h:DD C τ n ds ops k m Lf td V E0 B L):∀(l S:List Nat) (T:Array Value) (R:LH) (β:Nm) (pend:Nat→Option Nat),HV ops S l→Inv C n ops m Lf td V E0 B L S T R β pend→
  C.X.Go (G (Fr C.f T (.inRegion ops l::k) ds .run C.kd C.ro) C.cs) R:=by
 have opsOf:∀{i:Nat} {o:Oper},nth ops.toList i=some o→ops[i]?=some o:=fun h=>by rw[bU,Array.getElem?_toList] at h;exact h
 have wT:∀{td:List Nat} {i:Nat},fg td i=false→i∉td:=fun h e=>by rw[ef.2 e] at h;cases h
 induction h with
 | @reg td V E0 B L i o d sv ho hn jS hd fF hg hv w ih=>
  intro l S T R β pend hl hI;have gr:=wT hn;have yy:pend i=none∨True:=.inr trivial;have qR:∀j∈dT ops i,j∈td:=fun j hj=>r6 jS j (by rw[cR];exact hj);refine ih l S T R β (fun j=>if j=i then none else pend j) hl (hI.LG gS (opsOf ho) hd gr qR rfl (fun _ _ e=>e) hI.hm hI.hH (fun j hj=>by simp[hj]) (fun a a' c e1 e2=>?_) (fun a c e1=>?_) ?_)
  ·try simp only at e1 e2
   split at e1
   ·cases e1
   ·split at e2
    ·cases e2
    ·exact hI.hI a a' c e1 e2
  ·try simp only at e1
   split at e1
   ·cases e1
   ·exact hI.hP a c e1
  ·refine⟨o,d,sv,opsOf ho,hd,by rw[bD,if_pos rfl],.inl ⟨by simp,fun T' R' γ _ hE hB hR=>?_⟩⟩;have lH:aH γ (bJ ops.toList i V E0) T':=fun s x hx=>by
    refine hE s x ?_;unfold bJ at hx ⊢;cases hw:writer s ops.toList 0 with
    | none=>rw[hw] at hx;exact hx
    | some p=>
     rw[hw] at hx;simp only at hx ⊢;cases h1:fg (cM ops.toList i) p with
     | true=>
      rw[h1] at hx;simp only at hx ⊢;rw[bD,if_neg (fun e=>?_)]
      ·exact hx
      ·subst e;have:=iK gS (show cq ops i=some d by unfold cq;rw[opsOf ho];exact hd) (jM hw);subst this;rw[cR] at h1;exact gr (qR _ (ef.1 h1))
     | false=>rw[h1] at hx;exact hx
   obtain⟨v,h1,h2⟩:=hv T' R' γ lH hB hR;exact⟨v,h1,.inl ⟨aO lH hg,fF,h2 _⟩⟩
 | @pk td V E0 B L i o d t x a v ho hn jS hd hg aZ ht hx UY w ih=>
  intro l S T R β pend hl hI;have gr:=wT hn;have yy:pend i=none∨True:=.inr trivial;have qR:∀j∈dT ops i,j∈td:=fun j hj=>r6 jS j (by rw[cR];exact hj);refine ih l S T R β (fun j=>if j=i then none else pend j) hl (hI.LG gS (opsOf ho) hd gr qR rfl (fun _ _ e=>e) hI.hm hI.hH (fun j hj=>by simp[hj]) (fun a a' c e1 e2=>?_) (fun a c e1=>?_) ?_)
  ·try simp only at e1 e2
   split at e1
   ·cases e1
   ·split at e2
    ·cases e2
    ·exact hI.hI a a' c e1 e2
  ·try simp only at e1
   split at e1
   ·cases e1
   ·exact hI.hP a c e1
  ·refine⟨o,d,.v v,opsOf ho,hd,by rw[bD,if_pos rfl],.inl ⟨by simp,fun T' R' γ _ hE hB hR=>?_⟩⟩;have lH:aH γ (bJ ops.toList i V E0) T':=fun s x hx=>by
    refine hE s x ?_;unfold bJ at hx ⊢;cases hw:writer s ops.toList 0 with
    | none=>rw[hw] at hx;exact hx
    | some p=>
     rw[hw] at hx;simp only at hx ⊢;cases h1:fg (cM ops.toList i) p with
     | true=>
      rw[h1] at hx;simp only at hx ⊢;rw[bD,if_neg (fun e=>?_)]
      ·exact hx
      ·subst e;have:=iK gS (show cq ops i=some d by unfold cq;rw[opsOf ho];exact hd) (jM hw);subst this;rw[cR] at h1;exact gr (qR _ (ef.1 h1))
     | false=>rw[h1] at hx;exact hx
   exact⟨v,rfl,.inr (.inr ⟨aO lH hg,t,x,a,aZ,ht,(Option.some.inj (lH.val hx)).symm,UY⟩)⟩
 | @no td V E0 B L i o d ho hn jS hd hg w ih=>
  intro l S T R β pend hl hI;have gr:=wT hn;have qR:∀j∈dT ops i,j∈td:=fun j hj=>r6 jS j (by rw[cR];exact hj);refine ih l S T R β (fun j=>if j=i then none else pend j) hl (hI.LG gS (opsOf ho) hd gr qR rfl (fun _ _ e=>e) hI.hm hI.hH (fun j hj=>by simp[hj]) (fun a a' c e1 e2=>?_) (fun a c e1=>?_) ?_)
  ·try simp only at e1 e2
   split at e1
   ·cases e1
   ·split at e2
    ·cases e2
    ·exact hI.hI a a' c e1 e2
  ·try simp only at e1
   split at e1
   ·cases e1
   ·exact hI.hP a c e1
  ·refine⟨o,d,_,opsOf ho,hd,by rw[bD,if_pos rfl],.inl ⟨by simp,fun T' R' γ _ hE hB hR=>?_⟩⟩;have lH:aH γ (bJ ops.toList i V E0) T':=fun s x hx=>by
    refine hE s x ?_;unfold bJ at hx ⊢;cases hw:writer s ops.toList 0 with
    | none=>rw[hw] at hx;exact hx
    | some p=>
     rw[hw] at hx;simp only at hx ⊢;cases h1:fg (cM ops.toList i) p with
     | true=>
      rw[h1] at hx;simp only at hx ⊢;rw[bD,if_neg (fun e=>?_)]
      ·exact hx
      ·subst e;have:=iK gS (show cq ops i=some d by unfold cq;rw[opsOf ho];exact hd) (jM hw);subst this;rw[cR] at h1;exact gr (qR _ (ef.1 h1))
     | false=>rw[h1] at hx;exact hx
   exact⟨undef,rfl,.inr (.inl ⟨aO lH hg,rfl⟩)⟩
 | @alc td V E0 B L i o d x sh ho hn jS hd hg hs w ih=>
  intro l S T R β pend hl hI;have gr:=wT hn;have qR:∀j∈dT ops i,j∈td:=fun j hj=>r6 jS j (by rw[cR];exact hj);obtain⟨zK,zM⟩:=hI.hH.more x;refine ih l S T R β (fun j=>if j=i then some B.length else pend j) hl (hI.LG gS (opsOf ho) hd gr qR (by rw[List.take_append_of_le_length hI.hm]) (fun kk y hy=>by rw[List.getElem?_append_left (List.getElem?_eq_some_iff.1 hy).1];exact hy) (by simp;have:=hI.hm;omega) zK (fun j hj=>by simp[hj]) (fun a a' c e1 e2=>?_) (fun a c e1=>?_) ?_)
  ·try simp only at e1 e2
   split at e1
   ·rename_i ea;cases e1
    split at e2
    ·rename_i eb;rw[ea,eb]
    ·exact absurd (hI.hP _ _ e2) (Nat.lt_irrefl _)
   ·split at e2
    ·cases e2;exact absurd (hI.hP _ _ e1) (Nat.lt_irrefl _)
    ·exact hI.hI a a' c e1 e2
  ·try simp only at e1
   split at e1
   ·cases e1;simp
   ·have:=hI.hP a c e1;simp;omega
  ·refine⟨o,d,_,opsOf ho,hd,by rw[bD,if_pos rfl],.inr ⟨B.length,x,by simp,by simp,zM,fun T' γ _ hE=>?_⟩⟩;have lH:aH γ (bJ ops.toList i V E0) T':=fun s y hx=>by
    refine hE s y ?_;unfold bJ at hx ⊢;cases hw:writer s ops.toList 0 with
    | none=>rw[hw] at hx;exact hx
    | some p=>
     rw[hw] at hx;simp only at hx ⊢;cases h1:fg (cM ops.toList i) p with
     | true=>
      rw[h1] at hx;simp only at hx ⊢;rw[bD,if_neg (fun e=>?_)]
      ·exact hx
      ·subst e;have:=iK gS (show cq ops i=some d by unfold cq;rw[opsOf ho];exact hd) (jM hw);subst this;rw[cR] at h1;exact gr (qR _ (ef.1 h1))
     | false=>rw[h1] at hx;exact hx
   obtain⟨cs,mk,e1,e2,e3⟩:=Hd dw lH hs;exact⟨aO lH hg,xT hs,cs,mk,e1,fun HO b hb=>e2 HO _ b hb,e3⟩
 | @aB td V E0 B L pe Q e0 h0 kR cz he hq w ih=>
  intro l
  induction l with
  | nil=>
   intro S T R β pend hl hI;cases hl with
   | nil jw=>exact absurd (hI.hS e0 (jw e0 (cC h0))).1 (wT kR)
  | cons i l Es=>
   intro S T R β pend hl hI;cases hl with
   | cons hi gr hd eL=>
    by_cases ht:i∈td
    ·exact hI.exec gS hz ht gr hi hd fun T' R' Bd iq wD=>Es _ T' R' Bd iq eL wD
    ·have Ed:∀j∈dT ops i,j∈td:=fun j hj=>(hI.hS j (hd j hj)).1;have Nl:=wV cz i hi ht (fun j hj=>Ed j (by rw[←cR];exact hj));have gB:kL td (cM ops.toList i)=true:=vO fun j hj=>Ed j (by rw[←cR];exact hj);obtain⟨o,ho,hg,dO⟩:=he i Nl gB;have F8:=hI.env gS gr hd;obtain⟨fF,hE⟩:=dO T R β F8 hI.hH;refine C.X.op (opsOf ho) (aO F8 hg) (.inr fun c hc=>by rw[hc] at fF;cases fF) (gH ?_ (fun _ _ h=>h.elim) _ _ hE);have go:∀v R',(∃sv B' L',Q i sv B' L'∧den β sv=some v∧aF C.L0 C.R0 β B' L' R'∧∀kk,β kk=none→B'[kk]?=B[kk]?)→C.X.Go (G ((Fr C.f T (.inRegion ops (i::l)::k) ds .run C.kd C.ro).finish v) C.cs) R':=by
      rintro v R' ⟨sv,B',L',hQ,hv,zK,hBk⟩;obtain⟨q1,q2,q3⟩:=hq i Nl gB sv B' L' hQ;have P8:∀j∈i::S,j∈i::td∧j<ops.size∧∀j'∈dT ops j,j'∈i::S:=fun j hj=>by
       rcases List.mem_cons.1 hj with rfl | hj
       ·exact⟨List.mem_cons_self,hi,fun j' dL=>List.mem_cons_of_mem _ (hd j' dL)⟩
       ·exact⟨List.mem_cons_of_mem _ (hI.hS j hj).1,(hI.hS j hj).2.1,fun j' dL=>List.mem_cons_of_mem _ ((hI.hS j hj).2.2 j' dL)⟩
      have hC':∀j∈i::td,∀j'∈dT ops j,j'∈i::td:=fun j hj j' dL=>by
       rcases List.mem_cons.1 hj with rfl | hj
       ·exact List.mem_cons_of_mem _ (Ed j' dL)
       ·exact List.mem_cons_of_mem _ (hI.hC j hj j' dL)
      have Cu:∀{j:Nat},j∈td→j∉S→B'.take m=B.take m:=fun{j} hj dL=>by
       rcases q3 with q3 | q3
       ·exact q3
       ·exact absurd (AY (S:=S) (fun k hk j hj=>(hI.hS k hk).2.2 j (by rw[←cR];exact hj)) (fun k hk=>hd k (by rw[←cR];exact hk)) q3 j hj) dL
      have mU:cq ops i=o.dst:=by unfold cq;rw[opsOf ho];rfl
      cases qh:o.dst with
      | none=>
       rw[pF (opsOf ho) qh];have Rv:=ih i Nl gB sv B' L' hQ l (i::S) T R' β pend eL;rw[mU,qh] at Rv;refine Rv ⟨hI.hT,P8,hC',fun s x hx hj=>hI.hE s x hx fun j dL=>hj j (List.mem_cons_of_mem _ dL),fun j hj s x hs hx=>?_,fun s x hx=>?_,fun j hj s hs=>?_,zK,q1,by rw[q2];exact hI.hm,hI.hI,fun a c e=>by rw[q2];exact hI.hP a c e,fun j hj dL=>?_⟩
       ·rcases List.mem_cons.1 hj with rfl | hj
        ·rw[mU,qh] at hs;cases hs
        ·exact hI.hV j hj s x hs hx
       ·obtain⟨j,h1,h2⟩:=hI.hK s x hx;exact⟨j,List.mem_cons_of_mem _ h1,h2⟩
       ·rcases List.mem_cons.1 hj with rfl | hj
        ·rw[mU,qh] at hs;cases hs
        ·exact hI.hN j hj s hs
       ·have QK:j∉S:=fun e=>dL (List.mem_cons_of_mem _ e);have IP:j∈td:=by
         rcases List.mem_cons.1 hj with rfl | hj
         ·exact absurd List.mem_cons_self dL
         ·exact hj
        obtain⟨o',d',fC,g1,g2,g3,g4⟩:=hI.hD j IP QK;refine⟨o',d',fC,g1,g2,g3,?_⟩;rcases g4 with⟨g5,g6⟩ | ⟨sB,x',g5,g6,g7,g8⟩
        ·exact .inl ⟨g5,fun T' X4 γ j9 hE D7=>g6 T' X4 γ j9 hE (by rw[←Cu IP QK];exact D7)⟩
        ·exact .inr ⟨sB,x',g5,by rw[hBk sB g7];exact g6,g7,g8⟩
      | some d=>
       rw[mq (opsOf ho) qh];have mw:d<T.size:=by
        have:=List.all_eq_true.1 hz i (List.mem_range.2 hi);rw[mU,qh] at this;rw[hI.hT];simpa using this
       have u:=rE v mw;have Rv:=ih i Nl gB sv B' L' hQ l (i::S) (T.setIfInBounds d v) R' β pend eL;rw[mU,qh] at Rv;refine Rv ⟨u.size.trans hI.hT,P8,hC',fun s x hx hj=>?_,fun j hj s x hs hx=>?_,fun s x hx=>?_,fun j hj s hs=>?_,zK,q1,by rw[q2];exact hI.hm,hI.hI,fun a c e=>by rw[q2];exact hI.hP a c e,fun j hj dL=>?_⟩
       ·have aY:s≠d:=fun e=>hj i List.mem_cons_self (by rw[e,mU];exact qh);rw[u.other s (by simpa using aY)];exact hI.hE s x hx fun j dL=>hj j (List.mem_cons_of_mem _ dL)
       ·simp only[xv] at hx;rw[bD] at hx
        by_cases e:d=s
        ·subst e;rw[if_pos rfl] at hx;cases hx;rw[u.same];exact hv
        ·rw[if_neg e] at hx;rw[u.other s (by simpa using Ne.symm e)];rcases List.mem_cons.1 hj with rfl | hj
         ·rw[mU,qh] at hs;cases hs;exact absurd rfl e
         ·exact hI.hV j hj s x hs hx
       ·simp only[xv] at hx;rw[bD] at hx
        by_cases e:d=s
        ·exact⟨i,List.mem_cons_self,by rw[mU,qh,e]⟩
        ·rw[if_neg e] at hx;obtain⟨j,h1,h2⟩:=hI.hK s x hx;exact⟨j,List.mem_cons_of_mem _ h1,h2⟩
       ·simp only[xv];rw[bD]
        by_cases e:d=s
        ·rw[if_pos e];simp
        ·rw[if_neg e];rcases List.mem_cons.1 hj with rfl | hj
         ·rw[mU,qh] at hs;cases hs;exact absurd rfl e
         ·exact hI.hN j hj s hs
       ·have QK:j∉S:=fun e=>dL (List.mem_cons_of_mem _ e);have IP:j∈td:=by
         rcases List.mem_cons.1 hj with rfl | hj
         ·exact absurd List.mem_cons_self dL
         ·exact hj
        have pH:j≠i:=fun e=>dL (by rw[e];exact List.mem_cons_self);obtain⟨o',d',fC,g1,g2,g3,g4⟩:=hI.hD j IP QK;have Ze:cq ops i=some d:=by rw[mU];exact qh
        have se:d≠d':=fun e=>by
         subst e;exact pH (iK gS (by unfold cq;rw[g1];exact g2) Ze)
        refine⟨o',d',fC,g1,g2,by simp only[xv];rw[bD,if_neg se];exact g3,?_⟩;rcases g4 with⟨g5,g6⟩ | ⟨sB,x',g5,g6,g7,g8⟩
        ·exact .inl ⟨g5,fun T' X4 γ j9 hE D7=>g6 T' X4 γ j9 (nL gS hI.hC IP ht Ze hE) (by rw[←Cu IP QK];exact D7)⟩
        ·exact .inr ⟨sB,x',g5,by rw[hBk sB g7];exact g6,g7,fun T' γ j9 hE=>g8 T' γ j9 (nL gS hI.hC IP ht Ze hE)⟩
     intro nx L1 jf;cases nx <;> first | exact jf.elim | skip
     ·exact go _ _ jf
     ·exact go _ _ jf
     ·obtain⟨Q',tH,kS⟩:=jf;exact tH .normal _ _ (.inl rfl) (fun v L' hv=>go v L' (kS v L' hv)) (fun _ _ h=>h.elim)
     ·obtain⟨Q',tH,kS⟩:=jf;exact tH _ _ (fun v L' hv=>go v L' (kS v L' hv))
 | @cw td V E0 B L p d kk x cs hp hd hs hm e0 h0 kR cz hx hc w ih=>
  intro l
  induction l with
  | nil=>
   intro S T R β pend hl hI;cases hl with
   | nil jw=>exact absurd (hI.hS e0 (jw e0 (cC h0))).1 (wT kR)
  | cons i l Es=>
   intro S T R β pend hl hI
   by_cases ZK:p∈S
   ·have hb:∃b,β kk=some b:=by
     rcases hs with⟨off,hs⟩ | ⟨off,len,cap,hs⟩
     ·obtain⟨b,hb,_⟩:=lV (hI.hV p ZK d _ hd hs);exact⟨b,hb⟩
     ·have:=hI.hV p ZK d _ hd hs;unfold den at this;cases hk:β kk with
      | none=>rw[hk] at this;cases this
      | some b=>exact⟨b,rfl⟩
    obtain⟨b,hb⟩:=hb;have jZ:B[kk]?=some (some x):=by rw[←bU];exact hx
    obtain⟨g1,g2⟩:=hI.hH.cw hb jZ hc;have QT:=Nat.le_of_ble_eq_true hm;have eI:(B.set kk none).take m=B.take m:=by rw[List.take_set_of_le QT]
    have conv:∀{γ:Nm} {j:Nat} {T':Array Value},uA β γ→aH γ (bJ ops.toList j (Ap kk b V) E0) T'→aH γ (bJ ops.toList j V E0) T':=fun{γ j T'} j9 hE s y hy=>by
     unfold bJ at hy;cases hw:writer s ops.toList 0 with
     | none=>
      rw[hw] at hy;exact hE s y (by unfold bJ;rw[hw];exact hy)
     | some q=>
      rw[hw] at hy;simp only at hy;cases h1:fg (cM ops.toList j) q with
      | true=>
       rw[h1] at hy;simp only at hy;have:=hE s (jk kk b y) (by unfold bJ;rw[hw];simp only;rw[h1];simp only;rw[kZ,hy];rfl);rw[lg (j9 _ _ hb)] at this;exact this
      | false=>
       rw[h1] at hy;exact hE s y (by unfold bJ;rw[hw];simp only;rw[h1];exact hy)
    refine ih b g1 (hI.hH.box kk b x hb jZ).2.1 (i::l) S T R β pend hl ⟨hI.hT,hI.hS,hI.hC,hI.hE,fun j hj s y iA hy=>?_,fun s y hy=>?_,fun j hj s iA=>?_,g2,hI.hL.trans (Le.put g1 _),by simpa using hI.hm,hI.hI,fun a c e=>by simpa using hI.hP a c e,fun j hj dL=>?_⟩
    ·rw[kZ,Option.map_eq_some_iff] at hy;obtain⟨z,h1,rfl⟩:=hy;rw[lg hb];exact hI.hV j hj s z iA h1
    ·rw[kZ,Option.map_eq_some_iff] at hy;obtain⟨z,h1,rfl⟩:=hy;exact hI.hK s z h1
    ·rw[kZ];have:=hI.hN j hj s iA;cases hg:get V s with
     | none=>exact absurd hg this
     | some y=>simp
    ·obtain⟨o',d',fC,q1,q2,q3,q4⟩:=hI.hD j hj dL;refine⟨o',d',jk kk b fC,q1,q2,by rw[kZ,q3];rfl,?_⟩;rcases q4 with⟨q5,q6⟩ | ⟨sB,x',q5,q6,q7,q8⟩
     ·refine .inl ⟨q5,fun T' R' γ j9 hE D7 YP=>?_⟩;obtain⟨v,e1,e2⟩:=q6 T' R' γ j9 (conv j9 hE) (by rw[←eI];exact D7) YP;exact⟨v,by rw[lg (j9 _ _ hb)];exact e1,e2⟩
     ·have aY:kk≠sB:=fun e=>by subst e;rw[hb] at q7;cases q7
      refine .inr ⟨sB,x',q5,by rw[List.getElem?_set_ne aY];exact q6,q7,fun T' γ j9 hE=>?_⟩;obtain⟨f1,f2,iY,mk,f3,f4,f5⟩:=q8 T' γ j9 (conv j9 hE);refine⟨f1,f2,iY,mk,f3,fun HO c Eb=>?_,f5⟩;have abK:=f4 HO c Eb
      -- N6 shape names box sB alone
      have h4:=f4 (dr.set sB c) c (Nm.jK _ _ _);have:jk kk b fC=fC:=Aq (by rw[Nm.yU _ _ aY];rfl) h4;rw[this];exact abK
   ·cases hl with
    | cons hi gr se eL=>
     by_cases ht:i∈td
     ·exact hI.exec gS hz ht gr hi se fun T' R' Bd iq wD=>Es _ T' R' Bd iq eL wD
     ·have Ed:∀j∈dT ops i,j∈td:=fun j hj=>(hI.hS j (se j hj)).1;have:=CP cz i hi ht (fun j hj=>Ed j (by rw[←cR];exact hj));rw[cR] at this;exact absurd (se p this) ZK
 | @gV td V E0 B L e0 o h0 kR cz ho hg he=>
  intro l
  induction l with
  | nil=>
   intro S T R β pend hl hI;cases hl with
   | nil jw=>exact absurd (hI.hS e0 (jw e0 (cC h0))).1 (wT kR)
  | cons i l Es=>
   intro S T R β pend hl hI;cases hl with
   | cons hi gr hd eL=>
    by_cases ht:i∈td
    ·exact hI.exec gS hz ht gr hi hd fun T' R' Bd iq wD=>Es _ T' R' Bd iq eL wD
    ·have Ed:∀j∈dT ops i,j∈td:=fun j hj=>(hI.hS j (hd j hj)).1;have Nl:=wV cz i hi ht (fun j hj=>Ed j (by rw[←cR];exact hj));obtain rfl:=List.mem_singleton.1 Nl;have F8:=hI.env gS gr hd;obtain⟨fF,hE⟩:=he T R β (.inRegion ops (i::l)::k) hI.hT F8 hI.hH;exact C.X.op (opsOf ho) (aO F8 hg) (.inr fun c hc=>by rw[hc] at fF;cases fF) hE
 | @rest td V E0 B L e0 h0 kR cz gB w=>
  intro l
  induction l with
  | nil=>
   intro S T R β pend hl hI;cases hl with
   | nil jw=>exact absurd (hI.hS e0 (jw e0 (cC h0))).1 (wT kR)
  | cons i l Es=>
   intro S T R β pend hl hI;cases hl with
   | cons hi gr hd eL=>
    by_cases ht:i∈td
    ·exact hI.exec gS hz ht gr hi hd fun T' R' Bd iq wD=>Es _ T' R' Bd iq eL wD
    ·have iZ:i=e0:=(List.mem_cons.1 (uE cz i hi)).resolve_right ht;subst iZ;have mD:∀j∈td,j∈S:=AY (fun a ha j hj=>(hI.hS a ha).2.2 j (by rw[←cR];exact hj)) (fun a ha=>hd a (by rw[←cR];exact ha)) gB;have Y2:∀j,j<ops.size→j∈i::S:=fun j hj=>by
      rcases List.mem_cons.1 (uE cz j hj) with e | e
      ·exact e▸List.mem_cons_self
      ·exact List.mem_cons_of_mem _ (mD j e)
     have IQ:l=[]:=by
      cases eL with
      | nil _=>rfl
      | cons tK ach _ _=>exact absurd (Y2 _ tK) ach
     subst IQ;refine w T R β hI.hT (fun s x hx=>?_) hI.hH;rw[get_append] at hx;cases hv:get V s with
     | some y=>
      rw[hv] at hx;cases hx;obtain⟨j,h1,h2⟩:=hI.hK s x hv;exact hI.hV j (mD j h1) s x h2 hv
     | none=>
      rw[hv] at hx;exact hI.hE s x hx fun j hj e=>hI.hN j (hI.hS j hj).1 s e hv
 | @lit td V E0 B L s p hs w ih=>
  intro l S T R β pend hl hI;have Gc:∀t x,get V t=some x→∃y,get ((s,SV.lit p)::V) t=some y∧∀γ,den γ y=den γ x:=fun t x hx=>by
   rw[bD]
   by_cases e:s=t
   ·subst e;rw[hs] at hx;cases hx;exact⟨.lit p,by rw[if_pos rfl],fun _=>rfl⟩
   ·exact⟨x,by rw[if_neg e];exact hx,fun _=>rfl⟩
  have QC:∀t y,get ((s,SV.lit p)::V) t=some y→∃x,get V t=some x∧∀γ,den γ y=den γ x:=fun t y hy=>by
   rw[bD] at hy
   by_cases e:s=t
   ·subst e;rw[if_pos rfl] at hy;cases hy;exact⟨_,hs,fun _=>rfl⟩
   ·rw[if_neg e] at hy;exact⟨y,hy,fun _=>rfl⟩
  have conv:∀{γ:Nm} {j:Nat} {T':Array Value},aH γ (bJ ops.toList j ((s,SV.lit p)::V) E0) T'→aH γ (bJ ops.toList j V E0) T':=fun{γ j T'} hE t y hy=>by
   unfold bJ at hy;cases hw:writer t ops.toList 0 with
   | none=>
    rw[hw] at hy;exact hE t y (by unfold bJ;rw[hw];exact hy)
   | some q=>
    rw[hw] at hy;simp only at hy;cases h1:fg (cM ops.toList j) q with
    | true=>
     rw[h1] at hy;obtain⟨z,h2,h3⟩:=Gc t y hy;have:=hE t z (by unfold bJ;rw[hw];simp only;rw[h1];exact h2);rw[h3] at this;exact this
    | false=>
     rw[h1] at hy;exact hE t y (by unfold bJ;rw[hw];simp only;rw[h1];exact hy)
  refine ih l S T R β pend hl ⟨hI.hT,hI.hS,hI.hC,hI.hE,fun j hj t y ht hy=>?_,fun t y hy=>?_,fun j hj t ht=>?_,hI.hH,hI.hL,hI.hm,hI.hI,hI.hP,fun j hj dL=>?_⟩
  ·obtain⟨x,h1,h2⟩:=QC t y hy;rw[h2];exact hI.hV j hj t x ht h1
  ·obtain⟨x,h1,_⟩:=QC t y hy;exact hI.hK t x h1
  ·have:=hI.hN j hj t ht;cases hg:get V t with
   | none=>exact absurd hg this
   | some x=>obtain⟨y,h1,_⟩:=Gc t x hg;rw[h1];simp
  ·obtain⟨o',d',fC,q1,q2,q3,q4⟩:=hI.hD j hj dL;obtain⟨y,h1,h2⟩:=Gc d' fC q3;refine⟨o',d',y,q1,q2,h1,?_⟩;rcases q4 with⟨q5,q6⟩ | ⟨sB,x',q5,q6,q7,q8⟩
   ·refine .inl ⟨q5,fun T' R' γ j9 hE D7 YP=>?_⟩;obtain⟨v,e1,e2⟩:=q6 T' R' γ j9 (conv hE) D7 YP;exact⟨v,by rw[h2];exact e1,e2⟩
   ·refine .inr ⟨sB,x',q5,q6,q7,fun T' γ j9 hE=>?_⟩;obtain⟨f1,f2,iY,mk,f3,f4,f5⟩:=q8 T' γ j9 (conv hE);exact⟨f1,f2,iY,mk,f3,fun HO c Eb=>by rw[h2];exact f4 HO c Eb,f5⟩
 | @fin td V E0 B L cz w=>
  intro l
  induction l with
  | nil=>
   intro S T R β pend hl hI;cases hl with
   | nil jw=>
    refine C.X.Aw (w T R β hI.hT (fun s x hx=>?_) hI.hH);rw[get_append] at hx;cases hv:get V s with
    | some y=>
     rw[hv] at hx;cases hx;obtain⟨j,h1,h2⟩:=hI.hK s x hv;have aU:j<ops.size:=by
      unfold cq at h2;cases hy:ops[j]? with
      | none=>rw[hy] at h2;cases h2
      | some o=>exact(Array.getElem?_eq_some_iff.1 hy).1
     exact hI.hV j (jw j aU) s x h2 hv
    | none=>
     rw[hv] at hx;exact hI.hE s x hx fun j hj e=>hI.hN j (hI.hS j hj).1 s e hv
  | cons i l Es=>
   intro S T R β pend hl hI;cases hl with
   | cons hi gr hd eL=>exact hI.exec gS hz (uE cz i hi) gr hi hd fun T' R' Bd iq wD=>Es _ T' R' Bd iq eL wD
theorem W.draw(dw:τ.Ok P){id:Nat}{E:Env}{B:List (Option Bx)}{L:LH}(dF:VF ops n=true)(hle:Le Lf L)(h:DD C τ n ds ops k B.length Lf [] [] E B L):W C n ds (.code (.region id ops true)::k) E B L:=by
 intro T R β hT hE hH;obtain⟨⟨_,h1⟩,⟨_,h2⟩,⟨_,h3⟩,gS,hz⟩:=VG dF;refine C.X.G7 fun t=>?_;refine h.run dw gS hz _ [] T R β (fun _=>none) (BJ h1 h2 h3 t) ⟨hT,(fun i hi=>by cases hi),(fun i hi=>by cases hi),(fun s x hx _=>hE s x hx),(fun j hj=>by cases hj),(fun s x hx=>by cases hx),(fun j hj=>by cases hj),hH,hle,Nat.le_refl _,(fun _ _ _ h=>by cases h),(fun _ _ h=>by cases h),(fun i hi=>by cases hi)⟩
def CY(τ:TT)(ops:List Oper)(E0:Env)(m:Nat):List Nat→List Nat→Env→List (Option Bx)→Option (List Nat×Env×List (Option Bx))
 | [],td,V,B=>some (td,V,B)
 | i::is,td,V,B=>match nth ops i,fg td i,kL td (cM ops i) with
  | some o,false,true=>match o.dst with
   | some d=>match aK (bJ ops i V E0) ops o.guard with
    | some true=>match C3 τ (bJ ops i V E0) (B.take m) o.op with
     | some sv=>CY τ ops E0 m is (i::td) ((d,sv)::V) B
     | none=>match C1 τ (bJ ops i V E0) o.op with
      | some (x,sh)=>CY τ ops E0 m is (i::td) ((d,sh B.length)::V) (B++[some x])
      | none=>none
    | some false=>CY τ ops E0 m is (i::td) ((d,.v undef)::V) B
    | none=>none
   | none=>none
  | _,_,_=>none
theorem DD.go(dw:τ.Ok P){E0:Env}{L:LH}(is:List Nat){td SZ:List Nat}{V V':Env}{B B':List (Option Bx)}(h:CY τ ops.toList E0 m is td V B=some (SZ,V',B'))(w:DD C τ n ds ops k m Lf SZ V' E0 B' L):DD C τ n ds ops k m Lf td V E0 B L:=by
 induction is generalizing td V B with
 | nil=>cases h;exact w
 | cons i is ih=>
  unfold CY at h
  split at h
  ·rename_i o ho hn jS
   split at h
   ·rename_i d hd
    split at h
    ·rename_i hg
     split at h
     ·rename_i sv hs;exact .reg i ho hn jS hd (rA hs) hg (fun T R β hE hB _=>AD dw hE hB hs) (ih h)
     ·split at h
      ·rename_i x sh hs;exact .alc i ho hn jS hd hg hs (ih h)
      ·cases h
    ·rename_i hg;exact .no i ho hn jS hd hg (ih h)
    ·cases h
   ·cases h
  ·cases h
end
class Seat(P:Program) where
 τ:TT
 ok:τ.Ok P
def Vf(P:Program)(op:Op)(E:a8)(B:List (Option Bx))(L:LH)(sv:SV):Prop:=∀(T:Array Value) (R:LH) (β:Nm),aH β E T→nU β B R→Le L R→j6 P β op T R sv
def Ef{P:Program}(C:Cx P)(o:Oper)(E:a8)(B:List (Option Bx))(L:LH)(Q:SV→List (Option Bx)→LH→Prop):Prop:=
 ∀(T:Array Value) (R:LH) (β:Nm),aH β E T→aF C.L0 C.R0 β B L R→BQ C.X o T R (fun v R'=>∃sv B' L',Q sv B' L'∧den β sv=some v∧aF C.L0 C.R0 β B' L' R'∧∀kk,β kk=none→B'[kk]?=B[kk]?)
section
variable {P:Program}[S:Seat P]{C:Cx P}{n:Nat}{ds:List Deferred}{k:List Item}{E:Env}{B:List (Option Bx)}{L:LH}
variable {ops:Array Oper}{i:Nat}{rest:List Nat}{d:Nat}{op:Op}{ty:TypeId}{pos:String}{af:Array Edge}{gd:Option (Nat×Bool)}{sv:SV}
theorem W.go(m:Nat){k':List Item}{E':Env}{B':List (Option Bx)}(h:runK S.τ n [] m k E B=(k',E',B'))(w:W C n ds k' E' B' L):W C n ds k E B L:=W.run S.ok m h w
theorem W.dv(cw:List Nat)(m:Nat){k':List Item}{E':Env}{B':List (Option Bx)}(h:runK S.τ n cw m k E B=(k',E',B'))(w:W C n ds k' E' B' L):W C n ds k E B L:=W.run S.ok m h w
theorem W.ret{fn:Func}{Q:Value→LH→Prop}{H:List PanicEntry→LH→Prop}{jl:List SV}{vs:List Value}(r:Rt C fn Q H)(hs:o8 S.τ (get E) B fn.results.toList=some jl)(hv:bC dr jl=some vs)(hq:Q (o9 vs) L):W C n [] (.code .ret::k) E B L:=W.So S.ok r (.inr ⟨k,rfl⟩) hs hv hq
theorem W.lP{fn:Func}{Q:Value→LH→Prop}{H:List PanicEntry→LH→Prop}{jl:List SV}{vs:List Value}(r:Rt C fn Q H)(hs:o8 S.τ (get E) B fn.results.toList=some jl)(hv:bC dr jl=some vs)(hq:Q (o9 vs) L):W C n [] [] E B L:=W.So S.ok r (.inl rfl) hs hv hq
theorem W.drawn{id:Nat}(dF:VF ops n=true)(Lf:LH)(hle:Le Lf L)(h:DD C S.τ n ds ops k B.length Lf [] [] E B L):W C n ds (.code (.region id ops true)::k) E B L:=W.draw S.ok dF hle h
end
section
variable {P:Program}{C:Cx P}{n:Nat}{ds:List Deferred}{k:List Item}{E:Env}{B:List (Option Bx)}{L:LH}
variable {ops:Array Oper}{i:Nat}{rest:List Nat}{d:Nat}{op:Op}{ty:TypeId}{pos:String}{af:Array Edge}{gd:Option (Nat×Bool)}{sv:SV}
theorem W.vf(ho:nth ops.toList i=some ⟨some d,op,ty,pos,af,gd⟩)(hg:aK (get E) ops.toList gd=some true)(hz:Nat.blt d n=true)(fF:fS op=false)(hv:Vf P op (get E) B L sv)(w:W C n ds (.inRegion ops rest::k) ((d,sv)::E) B L):W C n ds (.inRegion ops (i::rest)::k) E B L:=
 W.val ho hg rfl hz fF (fun T R β hE hH=>hv T R β hE hH.boxes hH.le) w
theorem W.aB{Q:SV→List (Option Bx)→LH→Prop}(ho:nth ops.toList i=some ⟨some d,op,ty,pos,af,gd⟩)(hg:aK (get E) ops.toList gd=some true)(hz:Nat.blt d n=true)(he:Ef C ⟨some d,op,ty,pos,af,gd⟩ (get E) B L Q)
  (w:∀sv B' L',Q sv B' L'→W C n ds (.inRegion ops rest::k) ((d,sv)::E) B' L'):W C n ds (.inRegion ops (i::rest)::k) E B L:=by
 intro T R β hT hE hH;obtain⟨fF,lH⟩:=he T R β hE hH;refine W.oper (C:=C) (L:=L) ho hg fF (fun T1 R1 Fe YU lY YI=>?_) T R β hT hE hH;obtain⟨_,YH⟩:=he T1 R1 Fe lY YI;refine gH ?_ (fun _ _ h=>h.elim) _ _ YH;have go:∀v R',(∃sv B' L',Q sv B' L'∧den Fe sv=some v∧aF C.L0 C.R0 Fe B' L' R'∧∀kk,Fe kk=none→B'[kk]?=B[kk]?)→C.X.Go (G ((Fr C.f T1 (.inRegion ops (i::rest)::k) ds .run C.kd C.ro).finish v) C.cs) R':=by
  rintro v R' ⟨sv,B',L',hq,hv,zK,_⟩;exact W.eQ ho rfl (cC hz) YU lY zK hv (w sv B' L' hq)
 intro nx L1 jf;cases nx <;> first | exact jf.elim | skip
 ·exact go _ _ jf
 ·exact go _ _ jf
 ·obtain⟨Q',tH,kS⟩:=jf;exact tH .normal _ _ (.inl rfl) (fun v L' hv=>go v L' (kS v L' hv)) (fun _ _ h=>h.elim)
 ·obtain⟨Q',tH,kS⟩:=jf;exact tH _ _ (fun v L' hv=>go v L' (kS v L' hv))
theorem W.dY{Q:SV→List (Option Bx)→LH→Prop}(ho:nth ops.toList i=some ⟨none,op,ty,pos,af,gd⟩)(hg:aK (get E) ops.toList gd=some true)(he:Ef C ⟨none,op,ty,pos,af,gd⟩ (get E) B L Q)
  (w:∀sv B' L',Q sv B' L'→W C n ds (.inRegion ops rest::k) E B' L'):W C n ds (.inRegion ops (i::rest)::k) E B L:=by
 intro T R β hT hE hH;obtain⟨fF,lH⟩:=he T R β hE hH;refine W.oper (C:=C) (L:=L) ho hg fF (fun T1 R1 Fe YU lY YI=>?_) T R β hT hE hH;obtain⟨_,YH⟩:=he T1 R1 Fe lY YI;refine gH ?_ (fun _ _ h=>h.elim) _ _ YH;have go:∀v R',(∃sv B' L',Q sv B' L'∧den Fe sv=some v∧aF C.L0 C.R0 Fe B' L' R'∧∀kk,Fe kk=none→B'[kk]?=B[kk]?)→C.X.Go (G ((Fr C.f T1 (.inRegion ops (i::rest)::k) ds .run C.kd C.ro).finish v) C.cs) R':=by
  rintro v R' ⟨sv,B',L',hq,hv,zK,_⟩;exact W.kP ho rfl YU lY zK (w sv B' L' hq)
 intro nx L1 jf;cases nx <;> first | exact jf.elim | skip
 ·exact go _ _ jf
 ·exact go _ _ jf
 ·obtain⟨Q',tH,kS⟩:=jf;exact tH .normal _ _ (.inl rfl) (fun v L' hv=>go v L' (kS v L' hv)) (fun _ _ h=>h.elim)
 ·obtain⟨Q',tH,kS⟩:=jf;exact tH _ _ (fun v L' hv=>go v L' (kS v L' hv))
end
section
variable {P:Program}[S:Seat P]{C:Cx P}{n:Nat}{ds:List Deferred}{k:List Item}{E:Env}{B:List (Option Bx)}{L:LH}
variable {ops:Array Oper}{i:Nat}{rest:List Nat}{d:Nat}{op:Op}{ty:TypeId}{pos:String}{af:Array Edge}{gd:Option (Nat×Bool)}{sv:SV}
variable {m:Nat}{Lf:LH}{td:List Nat}{V E0:Env}
theorem DD.run'(is:List Nat){SZ:List Nat}{V':Env}{B':List (Option Bx)}(h:CY S.τ ops.toList E0 m is td V B=some (SZ,V',B'))(w:DD C S.τ n ds ops k m Lf SZ V' E0 B' L):DD C S.τ n ds ops k m Lf td V E0 B L:=DD.go S.ok is h w
theorem DD.vf(i:Nat)(ho:nth ops.toList i=some ⟨some d,op,ty,pos,af,gd⟩)(hn:fg td i=false)(jS:kL td (cM ops.toList i)=true)(hg:aK (bJ ops.toList i V E0) ops.toList gd=some true)(fF:fS op=false)
  (hv:Vf P op (bJ ops.toList i V E0) (B.take m) Lf sv)(w:DD C S.τ n ds ops k m Lf (i::td) ((d,sv)::V) E0 B L):DD C S.τ n ds ops k m Lf td V E0 B L:=
 .reg i ho hn jS rfl fF hg hv w
theorem DD.split(s:Nat){p:Bool}(hs:get V s=some (.v (.bool p)))(h1:p=true→DD C S.τ n ds ops k m Lf td ((s,.lit true)::V) E0 B L)(h2:p=false→DD C S.τ n ds ops k m Lf td ((s,.lit false)::V) E0 B L):DD C S.τ n ds ops k m Lf td V E0 B L:=
 .lit s hs (by cases p;exact h2 rfl;exact h1 rfl)
theorem DD.act(i:Nat){Q:SV→List (Option Bx)→LH→Prop}{o:Oper}(ho:nth ops.toList i=some o)(aU:Nat.blt i ops.size=true)(hn:fg td i=false)(cz:pO ops.toList td [i] ops.size=true)(hg:aK (bJ ops.toList i V E0) ops.toList o.guard=some true)
  (he:Ef C o (bJ ops.toList i V E0) B L Q)(hq:∀sv B' L',Q sv B' L'→Le Lf L'∧B'.length=B.length∧(B'.take m=B.take m∨xY ops.toList (cM ops.toList i) td=true))
  (w:∀sv B' L',Q sv B' L'→DD C S.τ n ds ops k m Lf (i::td) (xv o.dst sv V) E0 B' L'):DD C S.τ n ds ops k m Lf td V E0 B L:=by
 refine .aB [i] (fun _=>Q) i aU hn cz (fun e nl _=>?_) (fun e nl _ sv B' L' h=>?_) (fun e nl _ sv B' L' h=>?_)
 ·obtain rfl:=List.mem_singleton.1 nl;exact⟨o,ho,hg,he⟩
 ·obtain rfl:=List.mem_singleton.1 nl;exact hq sv B' L' h
 ·obtain rfl:=List.mem_singleton.1 nl;have:cq ops e=o.dst:=by
   unfold cq;rw[bU,Array.getElem?_toList] at ho;rw[ho];rfl
  rw[this];exact w sv B' L' h
theorem DD.OQ(i j:Nat){Qi Qj:SV→List (Option Bx)→LH→Prop}{oi oj:Oper}(lJ:Nat.beq i j=false)(Gq:nth ops.toList i=some oi)(hoj:nth ops.toList j=some oj)(aU:Nat.blt i ops.size=true)(hn:fg td i=false)(cz:pO ops.toList td [i,j] ops.size=true)
  (lI:aK (bJ ops.toList i V E0) ops.toList oi.guard=some true)(hgj:aK (bJ ops.toList j V E0) ops.toList oj.guard=some true)(hei:Ef C oi (bJ ops.toList i V E0) B L Qi)(hej:Ef C oj (bJ ops.toList j V E0) B L Qj)
  (En:∀sv B' L',Qi sv B' L'→Le Lf L'∧B'.length=B.length∧(B'.take m=B.take m∨xY ops.toList (cM ops.toList i) td=true))(IX:∀sv B' L',Qj sv B' L'→Le Lf L'∧B'.length=B.length∧(B'.take m=B.take m∨xY ops.toList (cM ops.toList j) td=true))
  (wi:∀sv B' L',Qi sv B' L'→DD C S.τ n ds ops k m Lf (i::td) (xv oi.dst sv V) E0 B' L')(wj:∀sv B' L',Qj sv B' L'→DD C S.τ n ds ops k m Lf (j::td) (xv oj.dst sv V) E0 B' L'):DD C S.τ n ds ops k m Lf td V E0 B L:=by
 have aY:i≠j:=fun e=>by subst e;simp at lJ
 have dst:∀{a:Nat} {o:Oper},nth ops.toList a=some o→cq ops a=o.dst:=fun{a o} h=>by
  unfold cq;rw[bU,Array.getElem?_toList] at h;rw[h];rfl
 refine .aB [i,j] (fun e=>if e=i then Qi else Qj) i aU hn cz (fun e nl _=>?_) (fun e nl _ sv B' L' h=>?_) (fun e nl _ sv B' L' h=>?_)
 ·simp only[List.mem_cons,List.not_mem_nil,or_false] at nl;rcases nl with rfl | rfl
  ·exact⟨oi,Gq,lI,by simp only[if_true];exact hei⟩
  ·exact⟨oj,hoj,hgj,by simp only[Ne.symm aY,if_false];exact hej⟩
 ·simp only[List.mem_cons,List.not_mem_nil,or_false] at nl;rcases nl with rfl | rfl
  ·simp only[if_true] at h;exact En sv B' L' h
  ·simp only[Ne.symm aY,if_false] at h;exact IX sv B' L' h
 ·simp only[List.mem_cons,List.not_mem_nil,or_false] at nl;rcases nl with rfl | rfl
  ·simp only[if_true] at h;rw[dst Gq];exact wi sv B' L' h
  ·simp only[Ne.symm aY,if_false] at h;rw[dst hoj];exact wj sv B' L' h
end
section
variable {P:Program}[S:Seat P]{E:a8}{B:List (Option Bx)}{L:LH}{t t2:TypeId}{x y:Operand}{ti te:TI}{ad:Addr}{v:Value}
theorem Vf.load(hx:aL E x=some (.v (.pointer (some ad))))(ht:S.τ.find t=some ti)(ha:ti.agg=false)(hc:L.cell? ad=some v):Vf P (.load t x) E B L (.v v):=fun T R β hE _ hL=>
 ⟨v,rfl,fun ty=>aR.RH (by rw[(TT.aD S.ok ht).agg,ha]) (Option.some.inj (hE.val hx)).symm (hL.cell hc)⟩
theorem Vf.cO{vs:List Value}(hx:aL E x=some (.v (.pointer (some ad))))(ht:S.τ.find t=some ti)(ha:ti.agg=true)(hc:cH L ad ti.size vs):Vf P (.load t x) E B L (.v (.agg vs.toArray)):=fun T R β hE _ hL=>
 ⟨_,rfl,fun ty=>aR.cO (by rw[(TT.aD S.ok ht).agg,ha]) (TT.aD S.ok ht).size (Option.some.inj (hE.val hx)).symm (hL.cH hc)⟩
theorem Vf.idx{e:TypeId}{len cap i:Nat}{kk:IntKind}{j:Int}(hx:aL E x=some (.v (.slice (some ad) len cap)))(hy:aL E y=some (.v (.int kk j)))(ht:S.τ.find t=some ti)(hd:ti.d=.slice e)(he:S.τ.find e=some te)(hj:j=(i:Int))(hi:i<len):
  Vf P (.indexAddr t x y) E B L (.v (.pointer (some (ad.add (i *te.size))))):=fun T R β hE _ _=>by
 have h1:=(TT.aD S.ok ht).d;rw[hd] at h1;subst hj;exact⟨_,rfl,fun ty=>aR.xI h1 (TT.aD S.ok he).size (Option.some.inj (hE.val hx)).symm (Option.some.inj (hE.val hy)).symm hi⟩
theorem Vf.aW{e:TypeId}{len cap i:Nat}{kk:IntKind}{j:Int}(hx:aL E x=some (.v (.slice (some ad) len cap)))(hy:aL E y=some (.v (.int kk j)))(ht:S.τ.find t=some ti)(hd:ti.d=.slice e)(he:S.τ.find e=some te)(h1:te.size=1)(hj:j=(i:Int))(hi:i<len):
  Vf P (.indexAddr t x y) E B L (.v (.pointer (some (ad.add i)))):=by
 have:=Vf.idx (B:=B) (L:=L) hx hy ht hd he hj hi;rw[h1,Nat.mul_one] at this;exact this
theorem Vf.oX{e:TypeId}{len kk off i:Nat}{ik:IntKind}{j:Int}(hx:aL E x=some (.p kk off))(hy:aL E y=some (.v (.int ik j)))(ht:S.τ.find t=some ti)(hd:ti.d=.arr len e)(he:S.τ.find e=some te)(hj:j=(i:Int))(hi:i<len):
  Vf P (.indexAddr t x y) E B L (.p kk (off+i *te.size)):=fun T R β hE _ _=>by
 have h1:=(TT.aD S.ok ht).d;rw[hd] at h1;subst hj;obtain⟨b,hb,hv⟩:=lV (hE.val hx);refine⟨.pointer (some ⟨b,off+i *te.size,none⟩),by unfold den;rw[hb],fun ty=>?_⟩;have:=aR.CG (P:=P) (L:=R) (ty:=ty) h1 (TT.aD S.ok he).size hv (Option.some.inj (hE.val hy)).symm hi;rw[cK] at this;exact this
theorem Vf.Ru{e:TypeId}{len i:Nat}{ik:IntKind}{j:Int}(hx:aL E x=some (.v (.pointer (some ad))))(hy:aL E y=some (.v (.int ik j)))(ht:S.τ.find t=some ti)(hd:ti.d=.arr len e)(he:S.τ.find e=some te)(hj:j=(i:Int))(hi:i<len):
  Vf P (.indexAddr t x y) E B L (.v (.pointer (some (ad.add (i *te.size))))):=fun T R β hE _ _=>by
 have h1:=(TT.aD S.ok ht).d;rw[hd] at h1;subst hj;exact⟨_,rfl,fun ty=>aR.CG h1 (TT.aD S.ok he).size (Option.some.inj (hE.val hx)).symm (Option.some.inj (hE.val hy)).symm hi⟩
theorem Vf.zW{kk off:Nat}{bx:Bx}{s:SV}(hx:aL E x=some (.p kk off))(hb:nth B kk=some (some bx))(ht:S.τ.find t=some ti)(ha:ti.agg=false)(hc:nth bx.cells off=some s):Vf P (.load t x) E B L s:=fun T R β hE hB _=>
 rz S.ok hE hB (by unfold m8;rw[hx];simp only[hb,ht,ha];exact hc)
theorem Vf.RI{kk:Nat}{bx:Bx}{vs:List Value}(hx:aL E x=some (.p kk 0))(hb:nth B kk=some (some bx))(ht:S.τ.find t=some ti)(ha:ti.agg=true)(hc:bx.cells=vs.map .v)(hn:vs.length=ti.size):Vf P (.load t x) E B L (.v (.agg vs.toArray)):=fun T R β hE hB _=>by
 obtain⟨b,h1,h2⟩:=lV (hE.val hx);obtain⟨cs,h3,h4⟩:=hB kk b bx h1 (by rw[←bU];exact hb);rw[hc,gK] at h3;cases h3;refine⟨_,rfl,fun ty=>aR.cO (by rw[(TT.aD S.ok ht).agg,ha]) (TT.aD S.ok ht).size h2 ⟨hn,fun i v hi=>?_⟩⟩;rw[cK,Nat.zero_add];exact ay h4 (by rw[List.getElem?_toArray];exact hi)
end
section
variable {P:Program}{E:a8}{B:List (Option Bx)}{L:LH}{t t2:TypeId}{x y:Operand}{ti te:TI}{ad:Addr}{v:Value}
theorem Vf.bin{bo:BinOp}{kk:IntKind}{a b:Int}(hx:aL E x=some (.v (.int kk a)))(hy:aL E y=some (.v (.int kk b)))(h:nJ bo kk a b=some v):Vf P (.binOp bo t x y t2) E B L (.v v):=fun T R β hE _ _=>
 ⟨v,rfl,fun ty=>aR.bin (Option.some.inj (hE.val hx)).symm (Option.some.inj (hE.val hy)).symm h⟩
end
section
variable {P:Program}{C:Cx P}{E:a8}{B:List (Option Bx)}{L:LH}{dst:Option Tmp}{ty:TypeId}{pos:String}{af:Array Edge}{gd:Option (Nat×Bool)}
def oH(E:a8)(xs:List Operand):Option (List Value):=match uL E xs with
 | some l=>bC dr l
 | none=>none
theorem j8{β:Nm}{T:Array Value}(hE:aH β E T){xs:List Operand}{vs:List Value}(h:oH E xs=some vs):xs.map (ev T)=vs:=by
 unfold oH at h
 split at h
 ·rename_i l hl;exact Option.some.inj ((hE.LO hl).symm.trans (oI h β))
 ·cases h
def mO(B:List (Option Bx))(Q:Value→LH→Prop)(sv:SV)(B':List (Option Bx))(L':LH):Prop:=∃v,sv=.v v∧B'=B∧Q v L'
theorem Ef.call{g:FuncId}{xs:Array Operand}{ts:Array TypeId}{args:List Value}{Q:Value→LH→Prop}(ha:oH E xs.toList=some args)(hs:Sp C.X g args L Q):Ef C ⟨dst,.call {callee:=.value (.func g),args:=xs,argTypes:=ts},ty,pos,af,gd⟩ E B L (mO B Q):=by
 intro T R β hE hH;obtain⟨⟨fn,h1,h2,h3⟩,hf⟩:=hs;have hx:xs.map (ev T)=args.toArray:=by rw[←j8 hE ha,←List.map_toArray]
 refine⟨rfl,Di.func h1 h2 h3 hx _ _ _ _ _ _ ⟨_,(hf R hH.le).mono (Q':=fun v R'=>∃L',Q v L'∧Post L R L' R') (H':=fun _ _=>False) (fun _ _ h=>h) ?_,?_⟩⟩
 ·rintro ch R' ⟨L',h,_⟩;exact h
 ·rintro v R' ⟨L',hq,hp⟩;exact⟨.v v,B,L',⟨v,rfl,rfl,hq⟩,rfl,hH.call hp,fun _ _=>rfl⟩
end
section
variable {P:Program}[S:Seat P]{C:Cx P}{E:a8}{B:List (Option Bx)}{L:LH}{dst:Option Tmp}{ty:TypeId}{pos:String}{af:Array Edge}{gd:Option (Nat×Bool)}
def xu(L:LH)(B1:List (Option Bx))(sv:SV)(B':List (Option Bx))(L':LH):Prop:=sv=.v undef∧B'=B1∧L'=L
theorem Ef.ui{op:Op}{kk:Nat}{x:Bx}(h:AB S.τ E B op=some (kk,x)):Ef C ⟨dst,op,ty,pos,af,gd⟩ E B L (xu L (B.set kk (some x))):=by
 intro T R β hE hH;refine⟨xU h,Hk S.ok hE hH h dst ty pos af gd _ _ fun R' M8=>?_⟩;refine⟨.v undef,_,L,⟨rfl,rfl,rfl⟩,rfl,M8,fun j hj=>?_⟩
 by_cases e:kk=j
 ·subst e;have aU:∃b,β kk=some b:=by
   unfold AB at h
   split at h
   ·split at h
    ·rename_i hx hy ht
     split at h
     ·split at h
      ·cases h;obtain⟨b,hb,_⟩:=lV (hE.val hx);exact⟨b,hb⟩
      ·cases h
     ·cases h
    ·cases h
   ·cases h
  obtain⟨b,hb⟩:=aU;rw[hb] at hj;cases hj
 ·rw[List.getElem?_set_ne e]
theorem Ef.Hx{t:TypeId}{x y:Operand}{ti:TI}{kk off:Nat}{bt:TypeId}{s:SV}{cells cs Ky:List SV}(hx:aL E x=some (.p kk off))(hy:aL E y=some s)(ht:S.τ.find t=some ti)(hb:nth B kk=some (some ⟨cells,bt⟩))(il:eK s=cs)(h1:cs.length=ti.size)(h2:off+ti.size≤cells.length)(h3:AH cs=true)(hc:sQ cells off cs=Ky):
  Ef C ⟨dst,.store t x y,ty,pos,af,gd⟩ E B L (xu L (B.set kk (some ⟨Ky,bt⟩))):=by
 refine Ef.ui ?_;unfold AB;simp only[hx,hy,ht,hb,il,h1,h3,hc];rw[Nat.beq_refl,Nat.ble_eq_true_of_le h2]
theorem Ef.gn{t e:TypeId}{x y:Operand}{ti:TI}{b off:Nat}{c:Array Value}{v:Value}(hx:aL E x=some (.v (.pointer (some ⟨b,off,none⟩))))(hy:∃s,aL E y=some s∧den dr s=some v)(ht:S.τ.find t=some ti)(hb:L b=some (.cells c e (0,0),true))(hn:v.cells.size=ti.size)(hl:off+ti.size≤c.size)
  (hs:∀u∈v.cells.toList,single u=true):Ef C ⟨dst,.store t x y,ty,pos,af,gd⟩ E B L (xu (L.put b (.cells (db c off v.cells.toList) e)) B):=by
 intro T R β hE hH;obtain⟨s,hy1,Vb⟩:=hy;have ex:=(Option.some.inj (hE.val hx)).symm;have ey:ev T y=v:=Option.some.inj ((hE.val hy1).symm.trans (cP Vb β));refine⟨rfl,?_⟩;simp only[execOp,ex,ey];rw[ae];unfold Instr.storeAt;rw[ae];simp only[Instr.sureAddr,ar];unfold storeVar;rw[ae,bL (TT.aD S.ok ht).size];simp only[hn,ne_eq,not_true_eq_false,if_false];refine fL (e:=e) v.cells.toList 0 c R (hH.le _ _ hb) (by rw[Array.length_toList,hn];omega) hs (fun R' h1 h2=>?_);rw[Nat.add_zero] at h1;exact⟨.v undef,B,_,⟨rfl,rfl,rfl⟩,rfl,hH.m9 hb h1 h2,fun _ _=>rfl⟩
end
theorem bu{i:Nat}(h:i≤140737488355328):SV.v (.int .i64 (IntKind.i64.wrap ((i:Int)+1)))=.v (.int .i64 ((i+1:Nat):Int)):=by
 rw[wrap64_in _ (by omega) (by omega)];rfl
section
variable {P:Program}(X:ax P)
variable {f:FuncId}{T:Array Value}{k:List Item}{ds:List Deferred}{kd:CallKind}{ro:Option Nat}{cs:List Frame}{L:LH}
theorem r4{α:Type}{s:Sem α}{K:Goroutine→LH→Prop}{w:World}{fn:FuncId}{F:Result α→GStep}(hs:Sub L w)
  (h:az P (fun a L'=>∀w',Sub L' w'→∃g' Wl es g9,F (.ok a w')=.go g' Wl es∧Tr L' g9 w' Wl es∧K g' g9) (fun _ _=>False) s L):
  ∃g' w' es L',GStep.after (seen P fn (s.runT P w #[]).2) (F (s.runT P w #[]).1)=.go g' w' es∧Tr L L' w w' es∧K g' L':=by
 have ia:=pZ s L h w #[] hs;have he:∃r e9,s.runT P w #[]=(r,e9):=⟨_,_,rfl⟩;obtain⟨r,e9,he⟩:=he;rw[he] at ia ⊢;cases r with
 | halt hh w'=>cases hh <;> first | exact ia.elim | (obtain⟨_,_,_,_,h3⟩:=ia;exact h3.elim)
 | ok a w'=>
  obtain⟨L',us,h1,h2,h3⟩:=ia;rw[Array.empty_append] at h1;subst h1;obtain⟨g',Wl,es,g9,h4,h5,h6⟩:=h3 w' h2.sub;refine⟨g',Wl,seen P fn e9++es,g9,?_,(h2.fewer (mL _ _ _)).trans h5,h6⟩;simp only;rw[h4,ig]
theorem ax.rangeFunc{fo:Operand}{ps:Array Tmp}{jP body:Code}
  (h:az P (fun x L1=>az P (fj P X.Go (Fr f T (.inRangeFunc x.1::k) (x.2++ds) .run kd ro) cs .normal) (kY X.Go (Fr f T (.inRangeFunc x.1::k) (x.2++ds) .run kd ro) cs)
   (do let d ←resolve (ev T) {callee:=.value fo,args:=#[.const (.func (.yield x.1) #[] #[])],argTypes:=#[]} 0;invoke d.target d.args) L1) (fun _ _=>False) (Instr.enterLoop f T ps jP body ro) L):
  X.Go (G (Fr f T (.code (.rangeFunc fo ps jP body)::k) ds .run kd ro) cs) L:=
 X.step _ L rfl fun w hs=>by
  have key:=r4 (P:=P) (L:=L) (K:=X.Go) (w:=w) (fn:=f) (F:=fun rr=>match rr with
   | .ok (l,mark) w=>stepG.apply P true (Fr f T (.inRangeFunc l::k) (mark++ds) .run kd ro) cs none (do let d ←resolve (ev T) {callee:=.value fo,args:=#[.const (.func (.yield l) #[] #[])],argTypes:=#[]} 0;invoke d.target d.args) w
   | .halt _ w=>.ended (.stuck "range over a function: no such loop" ((Fr f T (.code (.rangeFunc fo ps jP body)::k) ds .run kd ro).pos P)) w) hs (gH (fun x L1 hx w1 jY=>?_) (fun _ _ h=>h) _ _ h)
  ·obtain⟨g',w',es,L',h1,h2,h3⟩:=key;refine⟨g',w',es,L',?_,h2,h3⟩;rw[←h1];simp only[G,Fr,stepG,stepG.exec];have he:∀(l:Nat) (mark:List Deferred),Frame.eval {fn:=f,tmps:=T,todo:=.inRangeFunc l::k,defers:=mark++ds,mode:=.run,kind:=kd,roundOf:=ro}=ev T:=fun l mark=>qO f T (.inRangeFunc l::k) (mark++ds) .run kd ro;simp only[he]
   rfl
  ·obtain⟨l,mark⟩:=x;obtain⟨g',w',es,L',h1,h2,h3⟩:=ml (K:=X.Go) (fr:=Fr f T (.inRangeFunc l::k) (mark++ds) .run kd ro) (cs:=cs) jY hx;exact⟨g',w',es,L',h1,h2,h3⟩
theorem ax.MN{l:Nat}(h:az P (fun j L'=>X.Go (G (Fr f T ((j.map Item.code).toList++k) ds .run kd ro) cs) L') (fun _ _=>False) (Instr.endLoop l) L):X.Go (G (Fr f T (.endRangeFunc l::k) ds .run kd ro) cs) L:=
 X.step _ L rfl fun w hs=>by
  have key:=r4 (P:=P) (L:=L) (K:=X.Go) (w:=w) (fn:=f) (F:=fun rr=>match rr with
   | .ok qi w=>.go (G (Fr f T ((qi.map Item.code).toList++k) ds .run kd ro) cs) w
   | .halt (.panic v) w=>.go (G ((Fr f T (.endRangeFunc l::k) ds .run kd ro).raise [{v,recovered:=false}]) cs) w
   | .halt _ w=>.ended (.stuck "range over a function: no such loop" ((Fr f T (.endRangeFunc l::k) ds .run kd ro).pos P)) w) hs (gH (fun x L1 hx w1 jY=>⟨_,_,#[],L1,rfl,Tr.refl jY,hx⟩) (fun _ _ h=>h) _ _ h)
  obtain⟨g',w',es,L',h1,h2,h3⟩:=key;refine⟨g',w',es,L',?_,h2,h3⟩;rw[←h1];simp only[G,Fr,stepG,stepG.exec]
  rfl
theorem ax.beginRound{l:Nat}(h:az P (fun _ L'=>X.Go (G (Fr f T k ds .run kd (some l)) cs) L') (fun _ _=>False) (Instr.beginRound l) L):X.Go (G (Fr f T (.beginRound::k) ds .run kd (some l)) cs) L:=
 X.step _ L rfl fun w hs=>by
  have h':az P (fj P X.Go (Fr f T (.beginRound::k) ds .run kd (some l)) cs .normal) (kY X.Go (Fr f T (.beginRound::k) ds .run kd (some l)) cs) (do Instr.beginRound l;pure .skip) L:=by
   rw[ae];exact gH (fun _ L1 hx=>hx) (fun _ _ h=>h.elim) _ _ h
  obtain⟨g',w',es,L',h1,h2,h3⟩:=ml (K:=X.Go) (fr:=Fr f T (.beginRound::k) ds .run kd (some l)) (cs:=cs) hs h';exact⟨g',w',es,L',h1,h2,h3⟩
inductive Leaves:List Item→Option Code→Prop
 | nil:Leaves [] none
 | ret {k:List Item}:Leaves (.code .ret::k) (some .ret)
 | exit {id:Nat} {k:List Item} (h:exitTo id k=none):Leaves (.code (.exit id)::k) (some (.exit id))
 | goto {l:Nat} {k:List Item} (h:gotoIn l k=none):Leaves (.code (.goto l)::k) (some (.goto l))
theorem ax.endRound{l:Nat}{qi:Option Code}{c:Frame}(hk:Leaves k qi)(aM:kd=.normal)(h:az P (fun v L'=>X.Go (G (c.finish v) cs) L') (fun _ _=>False) (Instr.endRound l qi) L):X.Go (G (Fr f T k ds .run kd (some l)) (c::cs)) L:=
 X.step _ L rfl fun w hs=>by
  subst aM;have key:=r4 (P:=P) (L:=L) (K:=X.Go) (w:=w) (fn:=f) (F:=fun rr=>match rr with
   | .ok v w=>doReturn P X.main (Fr f T k ds .run .normal (some l)) (c::cs) none v w
   | .halt _ w=>.ended (.stuck "range over a function: no such loop" ((Fr f T k ds .run .normal (some l)).pos P)) w) hs (gH (fun x L1 hx w1 jY=>⟨G (c.finish x) cs,w1,#[],L1,rfl,Tr.refl jY,hx⟩) (fun _ _ h=>h) _ _ h)
  obtain⟨g',w',es,L',h1,h2,h3⟩:=key;refine⟨g',w',es,L',?_,h2,h3⟩;rw[←h1];cases hk with
  | nil=>simp only[G,Fr,stepG,stepG.exec];rfl
  | ret=>simp only[G,Fr,stepG,stepG.exec];rfl
  | exit hx=>simp only[G,Fr,stepG,stepG.exec,hx];rfl
  | goto hx=>simp only[G,Fr,stepG,stepG.exec,hx];rfl
def leaving:FrameMode→Bool
 | .run=>false
 | _=>true
theorem ax.collected{r:Nat}{a:Array Value}{md:FrameMode}(hm:leaving md=true)(h:az P (fun calls L'=>X.Go (G (Fr f T k (calls++ds) md kd ro) cs) L') (fun _ _=>False) (Instr.takeDeferred r) L):
  X.Go (G (Fr f T k (⟨.collected r,a⟩::ds) md kd ro) cs) L:=
 X.step _ L rfl fun w hs=>by
  have key:=r4 (P:=P) (L:=L) (K:=X.Go) (w:=w) (fn:=f) (F:=fun rr=>match rr with
   | .ok calls w=>.go (G (Fr f T k (calls++ds) md kd ro) cs) w
   | .halt _ w=>.ended (.stuck "the deferred calls of a range-over-func loop have been taken" ((Fr f T k (({target:=.collected r,args:=a}:Deferred)::ds) md kd ro).pos P)) w) hs (gH (fun x L1 hx w1 jY=>⟨_,_,#[],L1,rfl,Tr.refl jY,hx⟩) (fun _ _ h=>h) _ _ h)
  obtain⟨g',w',es,L',h1,h2,h3⟩:=key;refine⟨g',w',es,L',?_,h2,h3⟩;rw[←h1];cases md with
  | run=>cases hm
  | returning=>simp only[G,Fr,stepG,unwind];rfl
  | panicking ch=>simp only[G,Fr,stepG,unwind];rfl
theorem ax.raise{fn:Func}{c:Frame}{ch:List PanicEntry}(hf:P.funcs[f]?=some fn)(h:X.Go (G (c.raise ch) cs) L):X.Go (G (Fr f T k [] (.panicking ch) kd ro) (c::cs)) L:=
 X.quiet rfl (fun w=>by simp[G,Fr,stepG,unwind,Frame.catches,hf]) h
end
def sU{P:Program}(X:ax P)(fv:Value)(args:List Value)(R:LH)(Q:Value→LH→Prop):Prop:=
 match fv with
 | .func (.func g) f1 f2=>mG P g∧Fn X g (f1++args.toArray++f2) R Q
 | .func (.yield l) f1 _=>f1=#[]∧∃r wr,R l=some (.loop r,wr)∧args.length=r.params.size∧
   Mb X (Frame.round l r.fn ((r.params.zip args.toArray).foldl (fun tmps x=>tmps.setIfInBounds x.1 x.2) r.tmps) r.assign r.body .normal) R Q
 | _=>False
def sX{P:Program}(X:ax P)(fv:Value)(args:List Value)(L:LH)(Q:Value→LH→Prop):Prop:=∀R,Le L R→sU X fv args R (fun v R'=>∃L',Q v L'∧Post L R L' R')
theorem sU.mono{P:Program}{X:ax P}{fv:Value}{args:List Value}{R:LH}{Q Q':Value→LH→Prop}(h:sU X fv args R Q)(hq:∀v L',Q v L'→Q' v L'):sU X fv args R Q':=by
 unfold sU at h ⊢
 split at h
 ·exact⟨h.1,h.2.mono hq (fun _ _ h=>h)⟩
 ·obtain⟨h1,r,wr,h2,h3,h4⟩:=h;exact⟨h1,r,wr,h2,h3,h4.mono hq⟩
 ·exact h.elim
theorem sX.mono{P:Program}{X:ax P}{fv:Value}{args:List Value}{L:LH}{Q Q':Value→LH→Prop}(h:sX X fv args L Q)(hq:∀v L',Q v L'→Q' v L'):sX X fv args L Q':=
 fun R hR=>(h R hR).mono fun _ _ ⟨L',h1,h2⟩=>⟨L',hq _ _ h1,h2⟩
theorem Sp.We{P:Program}{X:ax P}{g:FuncId}{args f1 f2:List Value}{L:LH}{Q:Value→LH→Prop}(h:Sp X g (f1++args++f2) L Q):sX X (.func (.func g) f1.toArray f2.toArray) args L Q:=fun R hR=>by
 refine⟨h.1,?_⟩;have:=h.2 R hR;have e:f1.toArray++args.toArray++f2.toArray=(f1++args++f2).toArray:=by simp
 rw[e];exact this.mono (fun _ _ h=>h) fun ch R' ⟨L',h,_⟩=>h
theorem Post.of_le{L1 L R ql R':LH}(h:Post L1 R ql R')(hL:Le L1 L)(hR:Le L R):∃L',Post L R L' R'∧Post L1 L ql L':=by
 refine⟨fun b=>if(L b).isSome∨(ql b).isSome then R' b else none,⟨fun b x hx=>?_,fun b x h1 h2=>?_,fun b hb=>?_,fun b hb=>?_⟩,⟨fun b x hx=>?_,fun b x h1 h2=>?_,fun b hb=>?_,h.gP⟩⟩
 ·split at hx
  ·exact hx
  ·cases hx
 ·refine h.keep b x ?_ h2;cases hh:L1 b with
  | none=>rfl
  | some y=>rw[hL b y hh] at h1;cases h1
 ·split at hb
  ·rename_i hc;rcases hc with hc | hc
   ·exact .inl (by intro e;rw[e] at hc;cases hc)
   ·rcases h.fresh b (by intro e;rw[e] at hc;cases hc) with e | e
    ·cases hh:L1 b with
     | none=>exact absurd hh e
     | some y=>exact .inl (by rw[hL b y hh];simp)
    ·exact .inr e
  ·exact absurd rfl hb
 ·cases hh:L b with
  | none=>exact absurd hh hb
  | some y=>
   rw[if_pos (.inl rfl)];cases h1:L1 b with
   | none=>rw[h.keep b y h1 (hR b y hh)];simp
   | some z=>
    cases h2:ql b with
    | none=>exact absurd h2 (h.gP b (by rw[h1];simp))
    | some u=>rw[h.le b u h2];simp
 ·rw[if_pos (.inr (by rw[hx];rfl))];exact h.le b x hx
 ·rw[if_pos (.inl (by rw[h2];rfl))];exact h.keep b x h1 (hR b x h2)
 ·rcases h.fresh b hb with e | e
  ·exact .inl e
  ·refine .inr ?_;cases hh:L b with
   | none=>rfl
   | some y=>rw[hR b y hh] at e;cases e
theorem sX.frame{P:Program}{X:ax P}{fv:Value}{args:List Value}{L1 L:LH}{Q:Value→LH→Prop}(h:sX X fv args L1 Q)(hL:Le L1 L):sX X fv args L (fun v L'=>∃ql,Q v ql∧Post L1 L ql L'):=fun R hR=>
 (h R (hL.trans hR)).mono fun v R' ⟨ql,h1,h2⟩=>let⟨L',h3,h4⟩:=h2.of_le hL hR;⟨L',⟨ql,h1,h4⟩,h3⟩
theorem Sp.frame{P:Program}{X:ax P}{g:FuncId}{args:List Value}{L1 L:LH}{Q:Value→LH→Prop}(h:Sp X g args L1 Q)(hL:Le L1 L):Sp X g args L (fun v L'=>∃ql,Q v ql∧Post L1 L ql L'):=
 ⟨h.1,fun R hR=>(h.2 R (hL.trans hR)).mono (fun v R' ⟨ql,h1,h2⟩=>let⟨L',h3,h4⟩:=h2.of_le hL hR;⟨L',⟨ql,h1,h4⟩,h3⟩) fun ch R' ⟨L',h,_⟩=>h.elim⟩
theorem Ba{P:Program}{R:LH}{l:Nat}{r:Loop}{wr:Bool}{args:Array Value}{Q:Next→LH→Prop}{H:Value→LH→Prop}(hl:R l=some (.loop r,wr))(hn:args.size=r.params.size)
  (hq:Q (.round l r.fn ((r.params.zip args).foldl (fun tmps x=>tmps.setIfInBounds x.1 x.2) r.tmps) r.assign r.body) R):az P Q H (Instr.yield l args) R:=by
 unfold Instr.yield Instr.getLoop;rw[ae,ae];show az P _ H (.getObj l .pure) R;unfold az;rw[hl];show az P Q H (if args.size≠r.params.size then _ else _) R;rw[if_neg (by simpa using hn)];exact hq
theorem nT{P:Program}{R:LH}{o:Obj}{Q:Nat→LH→Prop}{H:Value→LH→Prop}:az P Q H (newObj o) R=∀b,R b=none→Q b (R.put b o):=rfl
theorem pW{P:Program}{R:LH}{l:Nat}{r:Loop}{wr:Bool}{Q:Loop→LH→Prop}{H:Value→LH→Prop}(hl:R l=some (.loop r,wr)):az P Q H (Instr.getLoop l) R=Q r R:=by
 unfold Instr.getLoop;rw[ae];show az P _ H (.getObj l .pure) R=_;unfold az;rw[hl]
 rfl
theorem eO{P:Program}{R:LH}{l:Nat}{o o':Obj}{Q:Unit→LH→Prop}{H:Value→LH→Prop}(hl:R l=some (o',true))(h1:ic o'=false)(h2:ic o=false):az P Q H (setObj l o) R=Q () (R.put l o):=by
 show az P Q H (.setObj l o (.pure ())) R=_;unfold az;rw[hl];simp only[h1,h2,Bool.or_self,Bool.false_eq_true,if_false]
 rfl
section
variable {P:Program}{C:Cx P}{E:a8}{B:List (Option Bx)}{L:LH}{dst:Option Tmp}{ty:TypeId}{pos:String}{af:Array Edge}{gd:Option (Nat×Bool)}
theorem Ef.DN{x:Operand}{sv:SV}{fv:Value}{xs:Array Operand}{ts:Array TypeId}{args:List Value}{Q:Value→LH→Prop}(hv:aL E x=some sv)(hd:den dr sv=some fv)(ha:oH E xs.toList=some args)(hs:sX C.X fv args L Q):
  Ef C ⟨dst,.call {callee:=.value x,args:=xs,argTypes:=ts},ty,pos,af,gd⟩ E B L (mO B Q):=by
 intro T R β hE hH;have hc:=hs R hH.le;have hx:xs.map (ev T)=args.toArray:=by rw[←j8 hE ha,←List.map_toArray]
 have Nb:ev T x=fv:=Option.some.inj ((hE.val hv).symm.trans (cP hd β));refine⟨rfl,?_⟩;have fin:∀v R',(∃L',Q v L'∧Post L R L' R')→∃sv B' L',mO B Q sv B' L'∧den β sv=some v∧aF C.L0 C.R0 β B' L' R'∧∀kk,β kk=none→B'[kk]?=B[kk]?:=fun v R' ⟨L',hq,hp⟩=>⟨.v v,B,L',⟨v,rfl,rfl,hq⟩,rfl,hH.call hp,fun _ _=>rfl⟩;unfold sU at hc
 split at hc
 ·rename_i g f1 f2;obtain⟨⟨fn,g1,g2,g3⟩,hf⟩:=hc;exact Di.value g1 g2 g3 Nb hx rfl _ _ _ _ _ _ ⟨_,hf,fin⟩
 ·rename_i l f1 f2;obtain⟨rfl,r,wr,h1,h2,h3⟩:=hc;simp only[execOp,resolve,Nb,Deferred.ofValue,hx];rw[ae,ar];simp only[invoke,Array.empty_append];exact Ba h1 (by simpa using h2) ⟨_,h3,fin⟩
 ·exact hc.elim
end
section
variable {P:Program}{C:Cx P}{n:Nat}{ds:List Deferred}{k:List Item}{E:Env}{B:List (Option Bx)}{L:LH}
theorem NM(β:Nm):β.upto 0=dr:=by funext k;simp[Nm.upto,dr]
theorem aH.closed{β:Nm}{E E':Env}{T:Array Value}(h:aH β (get E) T)(hs:gk E E')(h0:vE 0 E'=true):aH dr (get E') T:=fun s x hx=>by
 have:=rZ (ru h0 s x hx) (h s x (hs.get s x hx));rw[NM] at this;exact this
abbrev wO(st:LoopState)(pd:Option Code)(f:FuncId)(T:Array Value)(ps:Array Tmp)(jP body:Code)(d:Nat):Obj:=.loop ⟨st,pd,f,T,ps,jP,body,d⟩
theorem aF.two{L0 R0:LH}{β:Nm}{B:List (Option Bx)}{L R:LH}(h:aF L0 R0 β B L R){d l:Nat}(hd:R d=none)(o o':Obj)(hl:(R.put d o) l=none):l≠d∧R l=none∧aF L0 R0 β B ((L.put d o).put l o') ((R.put d o).put l o'):=by
 have aY:l≠d:=fun e=>by subst e;rw[aj] at hl;cases hl
 rw[au _ _ aY] at hl;refine⟨aY,hl,?_⟩;have h1:=h.vw hd o;exact h1.vw (by rw[au _ _ aY];exact hl) o'
theorem W.range{fo:Operand}{ps:Array Tmp}{jP body:Code}{sv:SV}{fv:Value}(bE:C.ro=none)(E':Env)(lH:gk E E')(h0:vE 0 E'=true)(hf:aL (get E) fo=some sv)(hv:den dr sv=some fv)(Qy:Array Value→Nat→Nat→LoopState→Option Code→LH→Prop)
  (h:∀(T:Array Value) (d l:Nat),T.size=n→aH dr (get E') T→L d=none→L l=none→l≠d→C.R0 d=none→C.R0 l=none→
   sX C.X fv [.func (.yield l) #[] #[]] ((L.put d (.deferred (some []))).put l (wO .ready none C.f T ps jP body d)) (fun _ L'=>∃st pd,st≠.busy∧L' l=some (wO st pd C.f T ps jP body d,true)∧Qy T d l st pd L'))
  (w:∀T d l st pd L',Qy T d l st pd L'→W C n (⟨.collected d,#[]⟩::ds) ((pd.map Item.code).toList++k) E B (L'.put l (wO .exhausted pd C.f T ps jP body d))):
  W C n ds (.code (.rangeFunc fo ps jP body)::k) E B L:=by
 intro T R β hT hE hH;refine C.X.rangeFunc ?_;rw[bE];unfold Instr.enterLoop;simp only;rw[ae,nT];intro d hd;rw[ae,ar,ae,nT];intro l hl;rw[ar];obtain⟨aY,oT,zK⟩:=hH.two hd (.deferred (some [])) (wO .ready none C.f T ps jP body d) hl;obtain⟨d1,d2⟩:=hH.free hd;obtain⟨l1,l2⟩:=hH.free oT;have Nb:ev T fo=fv:=Option.some.inj ((hE.val hf).symm.trans (cP hv β));have hc:=h T d l hT (hE.closed lH h0) d1 l1 aY d2 l2 _ zK.le;have fin:∀(v:Value) R',(∃L',(∃st pd,st≠.busy∧L' l=some (wO st pd C.f T ps jP body d,true)∧Qy T d l st pd L')∧Post ((L.put d (.deferred (some []))).put l (wO .ready none C.f T ps jP body d)) ((R.put d (.deferred (some []))).put l (wO .ready none C.f T ps jP body d)) L' R')→
   C.X.Go (G (Fr C.f T (.endRangeFunc l::k) (⟨.collected d,#[]⟩::ds) .run C.kd none) C.cs) R':=by
  rintro v R' ⟨L',⟨st,pd,cu,ID,hq⟩,hp⟩;have hH2:=zK.call hp;have M8:=hp.le _ _ ID;refine C.X.MN ?_;unfold Instr.endLoop;rw[ae,pW M8];have hb:(st==LoopState.busy)=false:=by simpa using cu
  simp only[hb,Bool.false_eq_true,if_false];rw[ae,eO M8 rfl rfl,ar];have:=w T d l st pd L' hq T _ β hT hE (hH2.m9 ID (aj _ _ _) (fun b' bG=>au _ _ bG));rw[bE] at this;exact this
 unfold sU at hc;have dh:∀v,(Fr C.f T (.inRangeFunc l::k) ([⟨.collected d,#[]⟩]++ds) .run C.kd none).finish v=Fr C.f T (.endRangeFunc l::k) (⟨.collected d,#[]⟩::ds) .run C.kd none:=fun v=>rfl;simp only[resolve,Nb]
 split at hc
 ·rename_i g f1 f2;obtain⟨⟨fn,g1,g2,g3⟩,hF⟩:=hc;simp only[Deferred.ofValue,ae,ar,invoke];rw[lD g1 g2 g3];have:=hF .normal (Fr C.f T (.inRangeFunc l::k) ([⟨.collected d,#[]⟩]++ds) .run C.kd none) C.cs (.inl rfl) (fun v R' hv=>by rw[dh];exact fin v R' hv) (fun _ _ h=>h.elim)
  simpa [fj,ev] using this
 ·rename_i l' f1 f2;obtain⟨rfl,r,wr,h1,h2,h3⟩:=hc;simp only[Deferred.ofValue,ae,ar,invoke];have:=h3 (Fr C.f T (.inRangeFunc l::k) ([⟨.collected d,#[]⟩]++ds) .run C.kd none) C.cs (fun v R' hv=>by rw[dh];exact fin v R' hv);refine Ba h1 (by simpa using h2) ?_
  simpa [fj,ev] using this
 ·exact hc.elim
structure RtR(C:Cx P)(Q:Value→LH→Prop):Prop where
 kd:C.kd=.normal
 cs:∃c cs,C.cs=c::cs∧∀v R' L',Q v L'→Post C.L0 C.R0 L' R'→C.X.Go (G (c.finish v) cs) R'
def pP:List Tmp→List Value→Env→Env
 | p::ps,a::us,E=>pP ps us ((p,.v a)::E)
 | _,_,E=>E
theorem Aj{n:Nat}:∀{ps:List Tmp} {us:List Value} {E:Env} {T:Array Value},aH dr (get E) T→T.size=n→(ps.all fun p=>Nat.blt p n)=true→
  aH dr (get (pP ps us E)) ((ps.zip us).foldl (fun tmps x=>tmps.setIfInBounds x.1 x.2) T)∧((ps.zip us).foldl (fun tmps x=>tmps.setIfInBounds x.1 x.2) T).size=n
 | [],_,_,_,h,hT,_=>by simp[pP,h,hT]
 | _::_,[],_,_,h,hT,_=>by simp[pP,h,hT]
 | p::ps,a::us,E,T,h,hT,hp=>by
  simp only[List.all_cons,Bool.and_eq_true] at hp;simp only[pP,List.zip_cons_cons,List.foldl_cons];exact Aj (h.set (sv:=.v a) rfl (rE a (by rw[hT];exact cC hp.1))) (by simp[hT]) hp.2
theorem sX.round{X:ax P}{f l d:Nat}{T:Array Value}{ps:Array Tmp}{jP body:Code}{args:List Value}{L1:LH}{Q:Value→LH→Prop}{E':Env}{pd:Option Code}(hl:L1 l=some (wO .ready pd f T ps jP body d,true))(hn:args.length=ps.size)(hT:T.size=n)(hE:aH dr (get E') T)
  (hp:(ps.toList.all fun p=>Nat.blt p n)=true)(h:∀C:Cx P,C.X=X→C.f=f→C.ro=some l→C.L0=L1→RtR C Q→W C n [] [.code jP,.beginRound,.code body] (pP ps.toList args E') [] L1):sX X (.func (.yield l) #[] #[]) args L1 Q:=fun R hR=>by
 refine⟨rfl,_,true,hR _ _ hl,hn,fun c cs hc=>?_⟩;obtain⟨h1,h2⟩:=Aj (us:=args) hE hT hp;have e:(ps.zip args.toArray).foldl (fun tmps x=>tmps.setIfInBounds x.1 x.2) T=(ps.toList.zip args).foldl (fun tmps x=>tmps.setIfInBounds x.1 x.2) T:=by
  rw[←Array.foldl_toList,Array.toList_zip]
 simp only;rw[e];exact h ⟨X,f,.normal,some l,c::cs,L1,R⟩ rfl rfl rfl rfl ⟨rfl,c,cs,rfl,fun v R' L' hq hp=>hc v R' ⟨L',hq,hp⟩⟩ _ R dr h2 h1
  ⟨(fun _ _ _ h=>by cases h),(fun _ _ h=>by cases h),(fun _ _ h=>by cases h),(fun k b x hk=>by cases hk),hR,fun b x _ h=>h,fun b hb=>.inl hb,fun b hb=>hb⟩
theorem W.TV{l:Nat}{r:Loop}(bE:C.ro=some l)(hl:L l=some (.loop r,true))(hs:r.state=.ready)(w:W C n ds k E B (L.put l (.loop {r with state:=.busy}))):W C n ds (.beginRound::k) E B L:=by
 intro T R β hT hE hH;have hR:=hH.le _ _ hl;have:=w T _ β hT hE (hH.m9 hl (aj _ _ _) (fun b' bG=>au R _ bG));rw[bE] at this ⊢;refine C.X.beginRound ?_;unfold Instr.beginRound;rw[ae,pW hR,ae,eO hR rfl rfl];rw[hs,ar];exact this
theorem W.WK{l:Nat}{r:Loop}{qi:Option Code}{Q:Value→LH→Prop}(rt:RtR C Q)(bE:C.ro=some l)(hk:Leaves k qi)(hl:L l=some (.loop r,true))(hq:Q (.bool qi.isNone) (L.put l (.loop {r with state:=if qi.isNone then .ready else .done,pending:=qi}))):W C n ds k E B L:=by
 intro T R β hT hE hH;have hR:=hH.le _ _ hl;obtain⟨aM,c,cs,il,hc⟩:=rt;rw[bE,il];refine C.X.endRound hk aM ?_;unfold Instr.endRound;rw[ae,pW hR,ae,eO hR rfl rfl,ar];exact hc _ _ _ hq (hH.m9 hl (aj _ _ _) (fun b' bG=>au R _ bG)).post
end
section
variable {P:Program}{C:Cx P}{n:Nat}{ds:List Deferred}{k:List Item}{E:Env}{B:List (Option Bx)}{L:LH}
def WM{P:Program}(C:Cx P)(n:Nat)(ds:List Deferred)(md:FrameMode)(E:Env)(B:List (Option Bx))(L:LH):Prop:=
 ∀(T:Array Value) (R:LH) (β:Nm) (k:List Item),T.size=n→aH β (get E) T→aF C.L0 C.R0 β B L R→C.X.Go (G (Fr C.f T k ds md C.kd C.ro) C.cs) R
theorem W.out(bE:C.ro=none)(hk:Leaves k none∨Leaves k (some .ret))(w:WM C n ds .returning E B L):W C n ds k E B L:=by
 intro T R β hT hE hH;refine C.X.quiet (g':=G (Fr C.f T k ds .returning C.kd C.ro) C.cs) rfl (fun w=>?_) (w T R β k hT hE hH);rw[bE];rcases hk with hk | hk
 ·cases hk with
  | nil=>simp[G,Fr,stepG,stepG.exec]
 ·cases hk with
  | ret=>simp[G,Fr,stepG,stepG.exec]
theorem WM.collected{r:Nat}{a:Array Value}{md:FrameMode}(hm:leaving md=true)(hr:L r=some (.deferred (some []),true))(w:WM C n ds md E B (L.put r (.deferred none))):WM C n (⟨.collected r,a⟩::ds) md E B L:=by
 intro T R β k hT hE hH;have hR:=hH.le _ _ hr;refine C.X.collected hm ?_;unfold Instr.takeDeferred;rw[ae];show az P _ _ (.getObj r .pure) R;unfold az;rw[hR];simp only[ic,Bool.false_eq_true,if_false];show az P _ _ (pure _) R;rw[ar];simp only;rw[ae,eO hR rfl rfl,ar];exact w T _ β k hT hE (hH.m9 hr (aj _ _ _) (fun b' bG=>au R _ bG))
theorem WM.ret[S:Seat P]{fn:Func}{Q:Value→LH→Prop}{H:List PanicEntry→LH→Prop}{jl:List SV}{vs:List Value}(r:Rt C fn Q H)(hs:o8 S.τ (get E) B fn.results.toList=some jl)(hv:bC dr jl=some vs)(hq:Q (o9 vs) L):WM C n [] .returning E B L:=by
 intro T R β k hT hE hH;obtain⟨hf,bE,aM,c,cs,il,h1,_⟩:=r;rw[bE,il];refine C.X.leave hf aM ?_;unfold results;rw[ae,Array.mapM_eq_mapM_toList,←bind_pure_comp,ae];refine vD S.ok (fun t=>rfl) (fun a t=>rfl) hE hH.boxes hs (oI hv β) ?_;simp only[ar];have e:(if h:vs.toArray.size=1 then vs.toArray[0] else Value.tuple vs.toArray)=o9 vs:=by
  match vs with
  | []=>rfl
  | [v]=>rfl
  | _::_::_=>rfl
 rw[e];exact h1 _ _ _ hq hH.post
theorem WM.Sn{fn:Func}{Q:Value→LH→Prop}{H:List PanicEntry→LH→Prop}{v:Value}(r:Rt C fn Q H)(hs:∀(T:Array Value) (R:LH) (β:Nm),aH β (get E) T→nU β B R→Le L R→az P (fun u R'=>u=v∧R'=R) (fun _ _=>False) (results fn T) R)(hq:Q v L):WM C n [] .returning E B L:=by
 intro T R β k hT hE hH;obtain⟨hf,bE,aM,c,cs,il,h1,_⟩:=r;rw[bE,il];refine C.X.leave hf aM (gH ?_ (fun _ _ h=>h) _ _ (hs T R β hE hH.boxes hH.le));rintro u R' ⟨rfl,rfl⟩;exact h1 _ _ _ hq hH.post
theorem WM.raise{fn:Func}{Q:Value→LH→Prop}{H:List PanicEntry→LH→Prop}{ch:List PanicEntry}(r:Rt C fn Q H)(hh:H ch L):WM C n [] (.panicking ch) E B L:=by
 intro T R β k hT hE hH;obtain⟨hf,bE,aM,c,cs,il,_,h2⟩:=r;rw[il];exact C.X.raise hf (h2 _ _ _ hh hH.post)
end
section
variable {P:Program}{C:Cx P}{n:Nat}{ds:List Deferred}{k:List Item}{E:Env}{B:List (Option Bx)}{L:LH}
theorem W.goto{l:Nat}{k':List Item}(h:gotoIn l k=some k')(w:W C n ds k' E B L):W C n ds (.code (.goto l)::k) E B L:=fun T R β hT hE hH=>C.X.goto h (w T R β hT hE hH)
theorem W.pt(I:Nat→Env→List (Option Bx)→LH→Prop){m:Nat}{E':Env}{B':List (Option Bx)}(h0:I m E' B' L)(hE:gk E E')(hB:oD B B')
  (h:∀m E B L,I m E B L→(∀m' E' B' L',m'<m→I m' E' B' L'→W C n ds k E' B' L')→W C n ds k E B L)(h1:vE B'.length E'=true:=by rfl)(h2:w8 B'.length B'=true:=by rfl):W C n ds k E B L:=by
 have key:∀m E B L,I m E B L→W C n ds k E B L:=by
  intro m
  induction m using Nat.strongRecOn with
  | ind m ih=>exact fun E B L hI=>h m E B L hI fun m' E' B' L' hm wD=>ih m' hm E' B' L' wD
 exact W.cG hE hB (key m E' B' L h0) h1 h2
end
section
variable {P:Program}{C:Cx P}{n:Nat}{ds:List Deferred}{k:List Item}{E:Env}{B:List (Option Bx)}{L:LH}{ops:Array Oper}{i:Nat}{rest:List Nat}
abbrev Ju(v:Value):PanicEntry:={v:=v,recovered:=false}
theorem W.R8{x:Operand}{sv:SV}{t:TypeId}{v:Value}{dst:Option Tmp}{ty:TypeId}{pos:String}{af:Array Edge}{gd:Option (Nat×Bool)}(ho:nth ops.toList i=some ⟨dst,.panic x,ty,pos,af,gd⟩)(hg:aK (get E) ops.toList gd=some true)(hx:aL (get E) x=some sv)(hd:den dr sv=some (.iface t v))
  (w:WM C n ds (.panicking [Ju (.iface t v)]) E B L):W C n ds (.inRegion ops (i::rest)::k) E B L:=by
 refine W.oper ho hg rfl fun T R β hT hE hH=>?_;have ex:ev T x=.iface t v:=Option.some.inj ((hE.val hx).symm.trans (cP hd β));simp only[execOp,ex];rw[ae];unfold Instr.panic;exact w T R β _ hT hE hH
theorem A8{T:Array Value}{R:LH}{g:FuncId}{args:List Value}{fr:Frame}{cs:List Frame}{xs:Array Operand}{ts:Array TypeId}{dst:Option Tmp}{ty:TypeId}{pos:String}{af:Array Edge}{gd:Option (Nat×Bool)}{Q:Value→LH→Prop}{H:List PanicEntry→LH→Prop}{X:ax P}
  (hx:xs.map (ev T)=args.toArray)(hs:Sp X g args L Q H)(hL:Le L R)(hq:∀v R',(∃L',Q v L'∧Post L R L' R')→X.Go (G (fr.finish v) cs) R')(hp:∀ch R',(∃L',H ch L'∧Post L R L' R')→X.Go (G (fr.raise ch) cs) R')(Hh:Value→LH→Prop):
  az P (fj P X.Go fr cs .normal) Hh (execOp (ev T) ⟨dst,.call {callee:=.value (.func g),args:=xs,argTypes:=ts},ty,pos,af,gd⟩) R:=by
 obtain⟨⟨fn,h1,h2,h3⟩,hf⟩:=hs;exact Di.func h1 h2 h3 hx _ _ _ _ _ _ (hf R hL .normal _ _ (.inl rfl) hq hp)
theorem W.dQ{d:Nat}{g:FuncId}{args:List Value}{xs:Array Operand}{ts:Array TypeId}{ty:TypeId}{pos:String}{af:Array Edge}{gd:Option (Nat×Bool)}{Q:Value→LH→Prop}{H:List PanicEntry→LH→Prop}(ho:nth ops.toList i=some ⟨some d,.call {callee:=.value (.func g),args:=xs,argTypes:=ts},ty,pos,af,gd⟩)(hg:aK (get E) ops.toList gd=some true)(hz:Nat.blt d n=true)
  (ha:oH (get E) xs.toList=some args)(hs:Sp C.X g args L Q H)(w:∀v L',Q v L'→W C n ds (.inRegion ops rest::k) ((d,.v v)::E) B L')(wp:∀ch L',H ch L'→WM C n ds (.panicking ch) E B L'):W C n ds (.inRegion ops (i::rest)::k) E B L:=by
 refine W.oper ho hg rfl fun T R β hT hE hH=>?_;have hx:xs.map (ev T)=args.toArray:=by rw[←j8 hE ha,←List.map_toArray]
 refine A8 hx hs hH.le (fun v R' ⟨L',h1,h2⟩=>?_) (fun ch R' ⟨L',h1,h2⟩=>?_) _
 ·exact W.eQ ho rfl (cC hz) hT hE (hH.call h2) rfl (w v L' h1)
 ·exact wp ch L' h1 T R' β _ hT hE (hH.call h2)
variable {m:Nat}{Lf:LH}{td:List Nat}{V E0:Env}
theorem DD.dQ[S:Seat P](e0:Nat){g:FuncId}{args:List Value}{xs:Array Operand}{ts:Array TypeId}{dst:Option Tmp}{ty:TypeId}{pos:String}{af:Array Edge}{gd:Option (Nat×Bool)}{H:List PanicEntry→LH→Prop}(ho:nth ops.toList e0=some ⟨dst,.call {callee:=.value (.func g),args:=xs,argTypes:=ts},ty,pos,af,gd⟩)(h0:Nat.blt e0 ops.size=true)(kR:fg td e0=false)(cz:pO ops.toList td [e0] ops.size=true)(hg:aK (bJ ops.toList e0 V E0) ops.toList gd=some true)
  (ha:oH (bJ ops.toList e0 V E0) xs.toList=some args)(hs:Sp C.X g args L (fun _ _=>False) H)(wp:∀ch L',H ch L'→WM C n ds (.panicking ch) [] B L'):DD C S.τ n ds ops k m Lf td V E0 B L:=by
 refine .gV e0 h0 kR cz ho hg fun T R β k' hT hE hH=>⟨rfl,?_⟩;have hx:xs.map (ev T)=args.toArray:=by rw[←j8 hE ha,←List.map_toArray]
 refine A8 hx hs hH.le (fun v R' ⟨L',h1,h2⟩=>h1.elim) (fun ch R' ⟨L',h1,h2⟩=>?_) _;exact wp ch L' h1 T R' β _ hT (fun s x hx=>by cases hx) (hH.call h2)
end
section
variable {P:Program}{C:Cx P}{E:a8}{B:List (Option Bx)}{L:LH}{dst:Option Tmp}{op:Op}{ty:TypeId}{pos:String}{af:Array Edge}{gd:Option (Nat×Bool)}{sv:SV}
def X6(B:List (Option Bx))(L:LH)(sv fC:SV)(B':List (Option Bx))(L':LH):Prop:=fC=sv∧B'=B∧L'=L
theorem Ef.val(fF:fS op=false)(h:Vf P op E B L sv):Ef C ⟨dst,op,ty,pos,af,gd⟩ E B L (X6 B L sv):=by
 intro T R β hE hH;obtain⟨v,h1,h2⟩:=h T R β hE hH.boxes hH.le;exact⟨fF,h2 ty _ _ _ _ _ _ ⟨sv,B,L,⟨rfl,rfl,rfl⟩,h1,hH,fun _ _=>rfl⟩⟩
def oY:LH:=fun _=>none
theorem aE(L:LH):Le oY L:=fun b x h=>by cases h
end
theorem W.KA{P:Program}{C:Cx P}{n:Nat}{ds:List Deferred}{a b:Item}{k:List Item}{E:Env}{B:List (Option Bx)}{L:LH}(J:Env→List (Option Bx)→LH→Prop)(hJ:∀E B L,J E B L→W C n ds k E B L)(h:(∀E' B' L',J E' B' L'→W C n ds k E' B' L')→W C n ds (a::b::k) E B L):W C n ds (a::b::k) E B L:=h hJ
theorem Sv(m:Nat):∀l:List Value,yC m (l.map SV.v)=true
 | []=>rfl
 | _::l=>by rw[List.map_cons];unfold yC;exact Sv m l
theorem gX{m:Nat}{r:List (Option Bx)}(l:List Value)(t:TypeId)(h:w8 m r=true):w8 m (some ⟨l.map SV.v,t⟩::r)=true:=by
 unfold w8;rw[Sv];exact h
section
variable {P:Program}{α:Type}
structure Yl(X:ax P)(yv:Value)(enc:α→List Value)(xs:List α)(K:LH→Prop)(J:List α→LH→Prop)(Z:LH→Prop):Prop where
 fn:∃a b c,yv=.func a b c
 inv:∀pre L,J pre L→K L
 yl:∀pre x post L,xs=pre++x::post→J pre L→sX X yv (enc x) L (fun v L'=>(v=.bool true∧J (pre++[x]) L')∨(v=.bool false∧Z L'))
def Md(J:List α→LH→Prop)(F:LH)(pre:List α)(L:LH):Prop:=∃L1,J pre L1∧Le L1 L∧Le F L∧∀b,F b≠none→L1 b=none
def Wx(Z:LH→Prop)(F:LH)(L:LH):Prop:=∃L1,Z L1∧Le L1 L∧Le F L
variable {X:ax P}{yv:Value}{enc:α→List Value}{xs:List α}{K:LH→Prop}{J:List α→LH→Prop}{Z:LH→Prop}{F L L2:LH}{pre:List α}
theorem Md.zero(h:J pre L):Md J oY pre L:=⟨L,h,Le.refl _,aE _,fun _ h=>absurd rfl h⟩
theorem Yl.frame(h:Yl X yv enc xs K J Z)(hK:∀L L',Le L L'→K L→K L')(F:LH):Yl X yv enc xs (fun L=>K L∧Le F L) (Md J F) (Wx Z F) where
 fn:=h.fn
 inv:=fun pre L ⟨L1,h1,h2,h3,_⟩=>⟨hK _ _ h2 (h.inv _ _ h1),h3⟩
 yl:=fun pre x post L hx ⟨L1,h1,h2,h3,h4⟩=>by
  refine((h.yl pre x post L1 hx h1).frame h2).mono ?_;rintro v L' ⟨ql,hq,hp⟩;have hF:Le F L':=fun b y hy=>hp.keep b y (h4 b (by rw[hy];simp)) (h3 b y hy);rcases hq with⟨e,hj⟩ | ⟨e,hz⟩
  ·refine .inl ⟨e,ql,hj,hp.le,hF,fun b hb=>?_⟩;cases hx:ql b with
   | none=>rfl
   | some y=>
    rcases hp.fresh b (by rw[hx];simp) with g | g
    ·exact absurd (h4 b hb) g
    ·cases hf:F b with
     | none=>exact absurd hf hb
     | some z=>rw[h3 b z hf] at g;cases g
  ·exact .inr ⟨e,ql,hz,hp.le,hF⟩
def Iter(X:ax P)(g:FuncId)(cap:List Value)(enc:α→List Value)(xs:List α)(K:LH→Prop):Prop:=
 ∀(yv:Value) (J:List α→LH→Prop) (Z:LH→Prop) (L:LH),Yl X yv enc xs K J Z→J [] L→Sp X g (yv::cap) L (fun v L'=>v=.tuple #[]∧(Md J oY xs L'∨Wx Z oY L'))
end
def LH.calm(L:LH):LH:=fun b=>match L b with
 | some (.loop _,_)=>none
 | some (.deferred _,_)=>none
 | x=>x
theorem qJ(L:LH):Le L.calm L:=fun b x h=>by
 unfold LH.calm at h
 split at h
 ·cases h
 ·cases h
 ·exact h
theorem zm{L L':LH}(h:Le L L'):Le L.calm L'.calm:=fun b x hx=>by
 have h1:=qJ L b x hx;have h2:=h b x h1;unfold LH.calm at hx ⊢;rw[h1] at hx;rw[h2];exact hx
theorem pz{L:LH}{l:Nat}{o o':Loop}{wr:Bool}(h:L l=some (.loop o,wr)):(L.put l (.loop o')).calm=L.calm:=by
 funext b
 unfold LH.calm
 by_cases e:b=l
 ·subst e;rw[aj,h]
 ·rw[au _ _ e]
theorem jG{L:LH}{b:Nat}{cs:Array Value}{t:TypeId}{fz:Nat×Nat}{wr:Bool}(h:L b=some (.cells cs t fz,wr)):L.calm b=some (.cells cs t fz,wr):=by
 unfold LH.calm;rw[h]
theorem aC{L0 L:LH}{b:Nat}(h:Le L0 L)(hb:L0 b=none)(o:Obj):Le L0 (L.put b o):=fun b' x hx=>by
 rw[au _ _ (fun e=>by subst e;rw[hb] at hx;cases hx)];exact h b' x hx
section
variable {P:Program}{α:Type}{C:Cx P}{n:Nat}{ds:List Deferred}{k:List Item}{E:Env}{B:List (Option Bx)}{L:LH}
theorem W.iter{enc:α→List Value}{xs:List α}{K:LH→Prop}{g:FuncId}{cap:List Value}{fo:Operand}{ps:Array Tmp}{jP body:Code}{sv:SV}
  (Lb:LH)(n8:Le Lb L)(I:List α→LH→Prop)(Z:Code→LH→Prop)(it:Iter C.X g cap enc xs K)(jR:mG P g)(bE:C.ro=none)(E':Env)(lH:gk E E')(h0:vE 0 E'=true)
  (hf:aL (get E) fo=some sv)(hv:den dr sv=some (.func (.func g) #[] cap.toArray))
  (hm:∀pre L1 L2,Le L1 L2→I pre L1→I pre L2)(hz:∀j L1 L2,Le L1 L2→Z j L1→Z j L2)
  (hK:∀pre L',Le Lb L'→I pre L'→K L')(hI:I [] L.calm)
  (hn:(ps.toList.all fun p=>Nat.blt p n)=true)(QR:∀x,(enc x).length=ps.size)
  (hb:∀(d l:Nat) (pre:List α) (x:α) (post:List α) (L':LH) (q lb:Loop),xs=pre++x::post→Le Lb L'→I pre L'→Lb l=none→Lb d=none→l≠d→
   L' l=some (.loop q,true)→L' d=some (.deferred (some []),true)→
   ∀C':Cx P,C'.X=C.X→C'.f=C.f→
    (∀(k:List Item) (E:Env) (B:List (Option Bx)),(∀L2,L2 l=some (.loop lb,true)→(∀b,b≠l→L2 b=L' b)→W C' n [] k E B L2)→W C' n [] (.beginRound::k) E B L')→
    (∀(k:List Item) (E:Env) (B:List (Option Bx)) (g9:LH),Leaves k none→g9 l=some (.loop lb,true)→g9 d=some (.deferred (some []),true)→Le Lb g9→I (pre++[x]) g9.calm→W C' n [] k E B g9)→
    (∀(k:List Item) (E:Env) (B:List (Option Bx)) (g9:LH) (j:Code),Leaves k (some j)→g9 l=some (.loop lb,true)→g9 d=some (.deferred (some []),true)→Le Lb g9→Z j g9.calm→W C' n [] k E B g9)→
    W C' n [] [.code jP,.beginRound,.code body] (pP ps.toList (enc x) E') [] L')
  (w1:∀(d l:Nat) (L':LH),Le Lb L'→Lb l=none→Lb d=none→I xs L'→L' d=some (.deferred (some []),true)→W C n (⟨.collected d,#[]⟩::ds) k E B L')
  (w2:∀(d l:Nat) (j:Code) (L':LH),Le Lb L'→Lb l=none→Lb d=none→Z j L'→L' d=some (.deferred (some []),true)→W C n (⟨.collected d,#[]⟩::ds) (.code j::k) E B L'):
  W C n ds (.code (.rangeFunc fo ps jP body)::k) E B L:=by
 refine W.range bE E' lH h0 hf hv (fun T d l st pd L'=>Le Lb L'∧Lb l=none∧Lb d=none∧l≠d∧L' d=some (.deferred (some []),true)∧(∃st pd,L' l=some (wO st pd C.f T ps jP body d,true))∧((pd=none∧I xs L'.calm)∨∃j,pd=some j∧Z j L'.calm)) ?_ ?_
 ·intro T d l hT hE ym IQ aY _ _;have hd:=aP n8 ym;have hl:=aP n8 IQ;have hJ:Le Lb ((L.put d (.deferred (some []))).put l (wO .ready none C.f T ps jP body d)):=aC (aC n8 hd _) hl _;have yo:((L.put d (.deferred (some []))).put l (wO .ready none C.f T ps jP body d)).calm=L.calm:=by
   funext b
   unfold LH.calm
   by_cases e:b=l
   ·subst e;rw[aj,IQ]
   ·rw[au _ _ e]
    by_cases e:b=d
    ·subst e;rw[aj,ym]
    ·rw[au _ _ e]
  have hs:=it (.func (.yield l) #[] #[]) (fun pre L'=>Le Lb L'∧I pre L'.calm∧L' l=some (wO .ready none C.f T ps jP body d,true)∧L' d=some (.deferred (some []),true))
   (fun L'=>Le Lb L'∧(∃j,L' l=some (wO .done (some j) C.f T ps jP body d,true)∧Z j L'.calm)∧L' d=some (.deferred (some []),true)) _
   ⟨⟨_,_,_,rfl⟩,fun pre L' h=>hK pre L' h.1 (hm _ _ _ (qJ _) h.2.1),?_⟩ ⟨hJ,by rw[yo];exact hI,aj _ _ _,by rw[au _ _ (Ne.symm aY)];exact aj _ _ _⟩
  ·refine(Sp.We (f1:=[]) (f2:=cap) (args:=[.func (.yield l) #[] #[]]) hs).mono ?_;rintro v L' ⟨_,⟨L1,⟨q1,q2,q3,q4⟩,q5,_⟩ | ⟨L1,⟨q1,⟨j,q2,q3⟩,q4⟩,q5,_⟩⟩
   ·exact⟨_,_,by decide,q5 _ _ q3,q1.trans q5,hl,hd,aY,q5 _ _ q4,⟨_,_,q5 _ _ q3⟩,.inl ⟨rfl,hm _ _ _ (zm q5) q2⟩⟩
   ·exact⟨_,_,by decide,q5 _ _ q2,q1.trans q5,hl,hd,aY,q5 _ _ q4,⟨_,_,q5 _ _ q2⟩,.inr ⟨j,rfl,hz _ _ _ (zm q5) q3⟩⟩
  ·rintro pre x post L' hx ⟨q1,q2,q3,q4⟩;refine sX.round (n:=n) (E':=E') q3 (QR x) hT hE hn fun C' c1 c2 c3 _ rt=>?_;refine hb d l pre x post L' _ ⟨.busy,none,C.f,T,ps,jP,body,d⟩ hx q1 (hm _ _ _ (qJ _) q2) hl hd aY q3 q4 C' c1 c2 (fun k E B hw=>W.TV c3 q3 rfl (hw _ (aj _ _ _) fun b bG=>au _ _ bG)) ?_ ?_
   ·intro k E B g9 hk g1 g2 g3 g4;refine W.WK rt c3 hk g1 (.inl ⟨rfl,aC g3 hl _,?_,aj _ _ _,by rw[au _ _ (Ne.symm aY)];exact g2⟩);rw[pz g1];exact g4
   ·intro k E B g9 j hk g1 g2 g3 g4;refine W.WK rt c3 hk g1 (.inr ⟨rfl,aC g3 hl _,⟨j,aj _ _ _,?_⟩,by rw[au _ _ (Ne.symm aY)];exact g2⟩);rw[pz g1];exact g4
 ·rintro T d l st pd L' ⟨q1,q2,q3,q4,q5,⟨pj,pd',q6⟩,⟨rfl,q7⟩ | ⟨j,rfl,q7⟩⟩
  ·exact w1 d l _ (aC q1 q2 _) q2 q3 (hm _ _ _ (qJ _) (by rw[pz q6];exact q7)) (by rw[au _ _ (Ne.symm q4)];exact q5)
  ·exact w2 d l j _ (aC q1 q2 _) q2 q3 (hz _ _ _ (qJ _) (by rw[pz q6];exact q7)) (by rw[au _ _ (Ne.symm q4)];exact q5)
end
end Go.Mz
