/- Lemmas on which the claim leans. -/
import Derived.Test.YtjhpkghkgaekcaaGreatDoorMzAe
import Derived.Laws.Strings
namespace Go.Mz
open Go.Conc
def nU(β:Nm)(B:List (Option Bx))(R:LH):Prop:=
 ∀(k b:Nat) (x:Bx),β k=some b→B[k]?=some (some x)→∃cs,bC β x.cells=some cs∧R b=some (.cells cs.toArray x.ty (0,0),true)
theorem aF.boxes{L0 R0:LH}{β:Nm}{B:List (Option Bx)}{L R:LH}(h:aF L0 R0 β B L R):nU β B R:=fun k b x hk hx=>(h.box k b x hk hx).2.2
def j6(P:Program)(β:Nm)(op:Op)(T:Array Value)(R:LH)(sv:SV):Prop:=∃v,den β sv=some v∧∀ty,aR P op ty T R v
section
variable {P:Program}{τ:TT}{β:Nm}{E:a8}{B:List (Option Bx)}{T:Array Value}{R:LH}{sv:SV}
def vF(E:a8)(x:Operand):Option SV:=aL E x
theorem Hi(hE:aH β E T){x:Operand}(h:vF E x=some sv):j6 P β (.move x) T R sv:=⟨_,hE.val h,fun _=>aR.move rfl⟩
theorem BL(hE:aH β E T){x:Operand}(h:vF E x=some sv):j6 P β (.assign x) T R sv:=⟨_,hE.val h,fun _=>aR.assign rfl⟩
def AA(E:a8)(c a b:Operand):Option SV:=match aL E c with
 | some (.lit true)=>aL E a
 | some (.lit false)=>aL E b
 | _=>none
theorem Hj(hE:aH β E T){c a b:Operand}(h:AA E c a b=some sv):j6 P β (.pick c a b) T R sv:=by
 unfold AA at h
 split at h
 ·rename_i hc;have:=hE.val hc;unfold den at this;exact⟨_,hE.val h,fun _=>aR.aau (Option.some.inj this).symm rfl⟩
 ·rename_i hc;have:=hE.val hc;unfold den at this;exact⟨_,hE.val h,fun _=>aR.aat (Option.some.inj this).symm rfl⟩
 ·cases h
theorem lV{k off:Nat}{v:Value}(h:den β (.p k off)=some v):∃b,β k=some b∧v=.pointer (some ⟨b,off,none⟩):=by
 unfold den at h;cases hk:β k with
 | none=>rw[hk] at h;cases h
 | some b=>rw[hk] at h;cases h;exact⟨b,rfl,rfl⟩
def m8(τ:TT)(E:a8)(B:List (Option Bx))(t:TypeId)(x:Operand):Option SV:=match aL E x with
 | some (.p k off)=>
  match nth B k,τ.find t with
  | some (some bx),some ti=>
   match ti.agg with
   | true=>match part bx.cells off ti.size with | some l=>some (.a l) | none=>none
   | false=>nth bx.cells off
  | _,_=>none
 | _=>none
theorem rz(dw:τ.Ok P)(hE:aH β E T)(hB:nU β B R){t:TypeId}{x:Operand}(h:m8 τ E B t x=some sv):j6 P β (.load t x) T R sv:=by
 unfold m8 at h
 split at h
 ·rename_i k off hx;obtain⟨b,hb,hv⟩:=lV (hE.val hx)
  split at h
  ·rename_i bx ti hn ht;have hi:=TT.aD dw ht;obtain⟨cs,hc,hR⟩:=hB k b bx hb (by rw[←bU];exact hn)
   split at h
   ·rename_i Qb
    split at h
    ·rename_i l hp;cases h;obtain⟨ws,h1,h2⟩:=tp hc hp;refine⟨.agg ws.toArray,by unfold den;rw[h1],fun ty=>aR.cO (by rw[hi.agg,Qb]) hi.size hv ⟨?_,fun i v tV=>?_⟩⟩
     ·rw[gO h1,pQ hp]
     ·rw[cK];exact ay hR (by rw[List.getElem?_toArray];exact h2 i v tV)
    ·cases h
   ·rename_i Qb;obtain⟨v,h1,h2⟩:=wh hc h;exact⟨v,h1,fun ty=>aR.RH (by rw[hi.agg,Qb]) hv (ay hR (by rw[List.getElem?_toArray];exact h2))⟩
  ·cases h
 ·cases h
theorem Yp{fn:Go.Fn}{f1 f2:List SV}{v:Value}(h:den β (.f fn f1 f2)=some v):∃v1 v2,bC β f1=some v1∧bC β f2=some v2∧v=.func fn v1.toArray v2.toArray:=by
 unfold den at h;cases h1:bC β f1 with
 | none=>rw[h1] at h;cases h
 | some a=>
  cases h2:bC β f2 with
  | none=>rw[h1,h2] at h;cases h
  | some b=>rw[h1,h2] at h;cases h;exact⟨a,b,rfl,rfl,rfl⟩
def ET(E:a8)(x:Operand):Option SV:=match aL E x with
 | some (.p k off)=>some (.p k off)
 | some (.v (.pointer (some a)))=>some (.v (.pointer (some a)))
 | some (.f (.func g) f1 f2)=>some (.f (.func g) f1 f2)
 | some (.v (.func (.func g) f1 f2))=>some (.v (.func (.func g) f1 f2))
 | some (.v (.func (.yield g) f1 f2))=>some (.v (.func (.yield g) f1 f2))
 | some (.v (.iface t v))=>some (.v (.iface t v))
 | _=>none
theorem JG(hE:aH β E T){x:Operand}(h:ET E x=some sv):j6 P β (.nilCheck x) T R sv:=by
 unfold ET at h
 split at h <;> first | cases h;done | skip
 ·rename_i hx;cases h;obtain⟨b,hb,hv⟩:=lV (hE.val hx);exact⟨_,by rw[←hv];exact hE.val hx,fun _=>aR.Ae hv⟩
 ·rename_i hx;cases h;exact⟨_,hE.val hx,fun _=>by have:=Option.some.inj (hE.val hx);rw[←this];exact aR.Ae this.symm⟩
 ·rename_i hx;cases h;obtain⟨v1,v2,_,_,hv⟩:=Yp (hE.val hx);exact⟨_,by rw[←hv];exact hE.val hx,fun _=>aR.Ad hv⟩
 ·rename_i hx;cases h;exact⟨_,hE.val hx,fun _=>by have:=Option.some.inj (hE.val hx);rw[←this];exact aR.Ad this.symm⟩
 ·rename_i hx;cases h;exact⟨_,hE.val hx,fun _=>by have:=Option.some.inj (hE.val hx);rw[←this];exact aR.Jl this.symm⟩
 ·rename_i t v hx;cases h;refine⟨_,hE.val hx,fun _=>?_⟩;have:=Option.some.inj (hE.val hx);rw[←this];intro dst pos af gd Q H hq;simp only[execOp,←this];exact hq
def Z3:IntKind→IntKind→Bool
 | .i8,.i8 | .i16,.i16 | .i32,.i32 | .i64,.i64 | .u8,.u8 | .u16,.u16 | .u32,.u32 | .u64,.u64=>true
 | _,_=>false
theorem K4{k k':IntKind}(h:Z3 k k'=true):k=k':=by cases k <;> cases k' <;> first | rfl | cases h
def Kt(op:BinOp)(k:IntKind)(a b:Int):Option Value:=match op with
 | .quo | .rem=>none
 | .shl | .shr=>none
 | op=>nJ op k a b
def C7(op:BinOp)(k:IntKind)(a:Int):Int→Option Value
 | .ofNat n=>match op with
  | .shl=>some (.int k (k.wrap (a * 2 ^ min n k.bits)))
  | .shr=>some (.int k (a.fdiv (2 ^ min n k.bits)))
  | _=>none
 | _=>none
def rJ:SV→Option Bool
 | .lit b=>some b
 | .v (.bool b)=>some b
 | _=>none
theorem xx{x:SV}{b:Bool}(h:rJ x=some b):den β x=some (.bool b):=by
 unfold rJ at h
 split at h <;> cases h <;> rfl
def sBI(op:BinOp)(k:IntKind)(a:Int):SV→Option SV
 | .v (.int k' b)=>match Kt op k a b with
  | some r=>match Z3 k k' with | true=>some (.v r) | false=>none
  | none=>match C7 op k a b with | some r=>some (.v r) | none=>none
 | _=>none
def tf(op:BinOp)(c:Bool):Option SV:=match op with | .eql=>some (.v (.bool c)) | .neq=>some (.v (.bool (!c))) | _=>none
def Wc(op:BinOp)(c:Bool):Option SV:=match op with | .eql=>some (.lit c) | .neq=>some (.lit (match c with | true=>false | false=>true)) | _=>none
def sBN(op:BinOp)(d:TD)(y:Operand):SV→Option SV
 | .v .nilIface=>match d,y with
  | .iface,.const _=>Wc op true
  | _,_=>none
 | _=>none
def sBF(op:BinOp)(d:TD):SV→Option SV
 | .v .nilIface=>match d with
  | .iface=>Wc op false
  | _=>none
 | _=>none
def sBS(op:BinOp)(d:TD)(a:Option Addr):SV→Option SV
 | .v (.slice none _ _)=>match d with
  | .slice _=>tf op a.isNone
  | _=>none
 | _=>none
def sBP(op:BinOp)(d:TD)(a:Option Addr):SV→Option SV
 | .v (.pointer none)=>match d with
  | .ptr _=>tf op a.isNone
  | _=>none
 | _=>none
def VQ(op:BinOp)(d:TD)(a:Bool)(y:SV):Option SV:=match d,rJ y with
 | .bool,some b=>tf op (a==b)
 | _,_=>none
def nj:List UInt8→List UInt8→Bool
 | [],[]=>true
 | a::l,b::r=>match Nat.beq a.toNat b.toNat with | true=>nj l r | false=>false
 | _,_=>false
theorem pB:∀(a b:List UInt8),nj a b=(a==b)
 | [],[]=>rfl
 | [],_::_=>rfl
 | _::_,[]=>rfl
 | a::l,b::r=>by
  unfold nj;rw[List.cons_beq_cons,←pB l r]
  by_cases h:a=b
  ·subst h;simp
  ·have h1:(a==b)=false:=by simpa using h
   have h2:Nat.beq a.toNat b.toNat=false:=by
    cases hb:Nat.beq a.toNat b.toNat with
    | false=>rfl
    | true=>exact absurd (UInt8.toNat_inj.1 (Nat.eq_of_beq_eq_true hb)) h
   rw[h1,h2];rfl
def sBT(op:BinOp)(a:ByteArray):SV→Option SV
 | .v (.string b)=>match op with
  | .eql=>some (.v (.bool (nj a.data.toList b.data.toList)))
  | .neq=>some (.v (.bool (!nj a.data.toList b.data.toList)))
  | _=>none
 | _=>none
def He(op:BinOp)(d:TD)(y:Operand)(a b:SV):Option SV:=match a with
 | .v x=>match x with
  | .int k a=>sBI op k a b
  | .nilIface=>sBN op d y b
  | .iface _ _=>sBF op d b
  | .slice a _ _=>sBS op d a b
  | .pointer a=>sBP op d a b
  | .bool a=>VQ op d a b
  | .string a=>sBT op a b
  | _=>none
 | .lit a=>VQ op d a b
 | _=>none
def EL(τ:TT)(E:a8)(op:BinOp)(t:TypeId)(x y:Operand):Option SV:=match aL E x,aL E y,τ.find t with
 | some a,some b,some ti=>He op ti.d y a b
 | _,_,_=>none
def yg(op:BinOp)(c:Bool):Bool:=match op with | .eql=>c | _=>!c
theorem aR.nj{t t2:TypeId}{x y:Operand}{u w:Value}{c:Bool}{op:BinOp}(hx:ev T x=u)(hy:ev T y=w)(hg:∀(Q:Unit→LH→Prop) (H:Value→LH→Prop),Q () R→az P Q H (eqGuard op t x y u w) R)
  (he:∀(n:Nat) (Q:Bool→LH→Prop) (H:Value→LH→Prop),Q c R→az P Q H (Op.equalIn (n+1) t u w) R)
  (hb:binOp op t u w=(match op with | .eql=>do pure (.bool (←Op.equal t u w)) | _=>do pure (.bool (!(←Op.equal t u w)))))
  {ty:TypeId}:aR P (.binOp op t x y t2) ty T R (.bool (yg op (c))):=by
 intro dst pos af gd Q H hq;simp only[execOp,hx,hy];rw[ae,ae];refine hg _ _ ?_;rw[hb];unfold Op.equal;cases op <;> (simp only[ae,ar];exact he 9999 _ _ hq)
section
variable {t:TypeId}{n:Nat}{Q:Bool→LH→Prop}{H:Value→LH→Prop}
theorem Py{ms:Array (String×TypeId)}(hu:P.underlying t=some (.interface ms))(hq:Q true R):az P Q H (Op.equalIn (n+1) t .nilIface .nilIface) R:=by
 rw[Op.equalIn,ae,ao hu];exact hq
theorem Px{ms:Array (String×TypeId)}{it:TypeId}{iv:Value}(hu:P.underlying t=some (.interface ms))(hq:Q false R):az P Q H (Op.equalIn (n+1) t (.iface it iv) .nilIface) R:=by
 rw[Op.equalIn,ae,ao hu];exact hq
theorem PC{e:TypeId}{a:Option Addr}{l c yl yc:Nat}(hu:P.underlying t=some (.slice e))(hq:Q a.isNone R):az P Q H (Op.equalIn (n+1) t (.slice a l c) (.slice none yl yc)) R:=by
 rw[Op.equalIn,ae,ao hu];cases a <;> exact hq
theorem Pz{e:TypeId}{a:Option Addr}(hu:P.underlying t=some (.pointer e))(hq:Q a.isNone R):az P Q H (Op.equalIn (n+1) t (.pointer a) (.pointer none)) R:=by
 rw[Op.equalIn,ae,ao hu];cases a <;> exact hq
theorem Pw{a b:Bool}(hu:P.underlying t=some .bool)(hq:Q (a==b) R):az P Q H (Op.equalIn (n+1) t (.bool a) (.bool b)) R:=by
 rw[Op.equalIn,ae,ao hu];exact hq
end
section
variable {t t2:TypeId}{x y:Operand}{op:BinOp}
theorem aR.abq{ms:Array (String×TypeId)}{w:Value}(hu:P.underlying t=some (.interface ms))(hx:ev T x=.nilIface)(hy:ev T (.const w)=.nilIface)(ho:op=.eql∨op=.neq){ty:TypeId}:aR P (.binOp op t x (.const w) t2) ty T R (.bool (yg op (true))):=by
 rcases ho with rfl | rfl
 ·exact aR.nj hx hy (fun _ _ hq=>by simp only[eqGuard,Bool.or_true];exact hq) (fun _ _ _ hq=>Py hu hq) rfl
 ·exact aR.nj hx hy (fun _ _ hq=>by simp only[eqGuard,Bool.or_true];exact hq) (fun _ _ _ hq=>Py hu hq) rfl
theorem aR.abp{ms:Array (String×TypeId)}{it:TypeId}{iv:Value}(hu:P.underlying t=some (.interface ms))(hx:ev T x=.iface it iv)(hy:ev T y=.nilIface)(ho:op=.eql∨op=.neq){ty:TypeId}:aR P (.binOp op t x y t2) ty T R (.bool (yg op (false))):=by
 rcases ho with rfl | rfl
 ·exact aR.nj hx hy (fun _ _ hq=>by exact hq) (fun _ _ _ hq=>Px hu hq) rfl
 ·exact aR.nj hx hy (fun _ _ hq=>by exact hq) (fun _ _ _ hq=>Px hu hq) rfl
theorem aR.abt{e:TypeId}{a:Option Addr}{l c yl yc:Nat}(hu:P.underlying t=some (.slice e))(hx:ev T x=.slice a l c)(hy:ev T y=.slice none yl yc)(ho:op=.eql∨op=.neq){ty:TypeId}:aR P (.binOp op t x y t2) ty T R (.bool (yg op (a.isNone))):=by
 rcases ho with rfl | rfl
 ·exact aR.nj hx hy (fun _ _ hq=>by exact hq) (fun _ _ _ hq=>PC hu hq) rfl
 ·exact aR.nj hx hy (fun _ _ hq=>by exact hq) (fun _ _ _ hq=>PC hu hq) rfl
theorem aR.abr{e:TypeId}{a:Option Addr}(hu:P.underlying t=some (.pointer e))(hx:ev T x=.pointer a)(hy:ev T y=.pointer none)(ho:op=.eql∨op=.neq){ty:TypeId}:aR P (.binOp op t x y t2) ty T R (.bool (yg op (a.isNone))):=by
 rcases ho with rfl | rfl
 ·exact aR.nj hx hy (fun _ _ hq=>by exact hq) (fun _ _ _ hq=>Pz hu hq) rfl
 ·exact aR.nj hx hy (fun _ _ hq=>by exact hq) (fun _ _ _ hq=>Pz hu hq) rfl
theorem aR.abo{a b:Bool}(hu:P.underlying t=some .bool)(hx:ev T x=.bool a)(hy:ev T y=.bool b)(ho:op=.eql∨op=.neq){ty:TypeId}:aR P (.binOp op t x y t2) ty T R (.bool (yg op (a==b))):=by
 rcases ho with rfl | rfl
 ·exact aR.nj hx hy (fun _ _ hq=>by exact hq) (fun _ _ _ hq=>Pw hu hq) rfl
 ·exact aR.nj hx hy (fun _ _ hq=>by exact hq) (fun _ _ _ hq=>Pw hu hq) rfl
end
theorem J0{op:BinOp}{c:Bool}(h:tf op c=some sv):(op=.eql∨op=.neq)∧den β sv=some (.bool (yg op (c))):=by
 unfold tf at h
 split at h <;> cases h
 ·exact⟨.inl rfl,rfl⟩
 ·exact⟨.inr rfl,rfl⟩
theorem LI{op:BinOp}{c:Bool}(h:Wc op c=some sv):(op=.eql∨op=.neq)∧den β sv=some (.bool (yg op (c))):=by
 unfold Wc at h
 split at h <;> cases h
 ·exact⟨.inl rfl,rfl⟩
 ·exact⟨.inr rfl,by cases c <;> rfl⟩
section
variable {op:BinOp}{t t2:TypeId}{x y:Operand}{b:SV}{d:TD}
theorem VS{k:IntKind}{a:Int}(hx:ev T x=.int k a)(hy:den β b=some (ev T y))(h:sBI op k a b=some sv):j6 P β (.binOp op t x y t2) T R sv:=by
 unfold sBI at h
 split at h
 ·rename_i k' b;have ey:ev T y=.int k' b:=(Option.some.inj hy).symm
  split at h
  ·rename_i r hr
   split at h
   ·rename_i hk;cases h;obtain rfl:=K4 hk;refine⟨r,rfl,fun ty=>aR.bin hx ey ?_⟩;unfold Kt at hr
    split at hr <;> first | cases hr;done | exact hr
   ·cases h
  ·split at h
   ·rename_i r hr;cases h;unfold C7 at hr
    split at hr
    ·rename_i n _;have e:(Int.ofNat n).toNat=n:=rfl
     split at hr
     ·cases hr;refine⟨_,rfl,fun ty=>?_⟩;have:=aR.shl (P:=P) (L:=R) (ty:=ty) (t:=t) (t2:=t2) hx ey (Int.natCast_nonneg n);rw[e] at this;exact this
     ·cases hr;refine⟨_,rfl,fun ty=>?_⟩;have:=aR.shr (P:=P) (L:=R) (ty:=ty) (t:=t) (t2:=t2) hx ey (Int.natCast_nonneg n);rw[e] at this;exact this
     ·cases hr
    ·cases hr
   ·cases h
 ·cases h
theorem VT(hd:vP P t d)(hx:ev T x=.nilIface)(hy:den β b=some (ev T y))(h:sBN op d y b=some sv):j6 P β (.binOp op t x y t2) T R sv:=by
 unfold sBN at h
 split at h
 ·have ey:=(Option.some.inj hy).symm
  split at h
  ·obtain⟨ms,hu⟩:=hd;obtain⟨ho,hv⟩:=LI (β:=β) h;exact⟨_,hv,fun ty=>aR.abq hu hx ey ho⟩
  ·cases h
 ·cases h
theorem VR{it:TypeId}{iv:Value}(hd:vP P t d)(hx:ev T x=.iface it iv)(hy:den β b=some (ev T y))(h:sBF op d b=some sv):j6 P β (.binOp op t x y t2) T R sv:=by
 unfold sBF at h
 split at h
 ·have ey:=(Option.some.inj hy).symm
  split at h
  ·obtain⟨ms,hu⟩:=hd;obtain⟨ho,hv⟩:=LI (β:=β) h;exact⟨_,hv,fun ty=>aR.abp hu hx ey ho⟩
  ·cases h
 ·cases h
theorem VV{a:Option Addr}{l c:Nat}(hd:vP P t d)(hx:ev T x=.slice a l c)(hy:den β b=some (ev T y))(h:sBS op d a b=some sv):j6 P β (.binOp op t x y t2) T R sv:=by
 unfold sBS at h
 split at h
 ·have ey:=(Option.some.inj hy).symm
  split at h
  ·obtain⟨ho,hv⟩:=J0 (β:=β) h;exact⟨_,hv,fun ty=>aR.abt hd hx ey ho⟩
  ·cases h
 ·cases h
theorem VU{a:Option Addr}(hd:vP P t d)(hx:ev T x=.pointer a)(hy:den β b=some (ev T y))(h:sBP op d a b=some sv):j6 P β (.binOp op t x y t2) T R sv:=by
 unfold sBP at h
 split at h
 ·have ey:=(Option.some.inj hy).symm
  split at h
  ·obtain⟨ho,hv⟩:=J0 (β:=β) h;exact⟨_,hv,fun ty=>aR.abr hd hx ey ho⟩
  ·cases h
 ·cases h
theorem Lu{a:Bool}(hd:vP P t d)(hx:ev T x=.bool a)(hy:den β b=some (ev T y))(h:VQ op d a b=some sv):j6 P β (.binOp op t x y t2) T R sv:=by
 unfold VQ at h
 split at h
 ·rename_i b' hb;have ey:=Option.some.inj (hy.symm.trans (xx hb));obtain⟨ho,hv⟩:=J0 (β:=β) h;exact⟨_,hv,fun ty=>aR.abo hd hx ey ho⟩
 ·cases h
end
theorem VW{op:BinOp}{t t2:TypeId}{x y:Operand}{a:ByteArray}{b:SV}(hx:ev T x=.string a)(hy:den β b=some (ev T y))(h:sBT op a b=some sv):j6 P β (.binOp op t x y t2) T R sv:=by
 unfold sBT at h
 split at h
 ·rename_i b';have ey:ev T y=.string b':=(Option.some.inj hy).symm
  split at h <;> cases h
  all_goals
   refine⟨_,rfl,fun ty dst pos af gd Q H hq=>?_⟩;simp only[execOp,hx,ey];rw[ae,ae];rw[pB,←ByteArray.toList_eq,←ByteArray.toList_eq] at hq;exact hq
 ·cases h
theorem Jz(dw:τ.Ok P)(hE:aH β E T){op:BinOp}{t t2:TypeId}{x y:Operand}(h:EL τ E op t x y=some sv):j6 P β (.binOp op t x y t2) T R sv:=by
 unfold EL at h
 split at h
 ·rename_i a b ti hx hy ht;have hd:=(TT.aD dw ht).d;have hvx:=hE.val hx;have Gx:=hE.val hy;unfold He at h
  split at h
  ·have ex:=(Option.some.inj hvx).symm
   split at h
   ·exact VS ex Gx h
   ·exact VT hd ex Gx h
   ·exact VR hd ex Gx h
   ·exact VV hd ex Gx h
   ·exact VU hd ex Gx h
   ·exact Lu hd ex Gx h
   ·exact VW ex Gx h
   ·cases h
  ·exact Lu hd (Option.some.inj hvx).symm Gx h
  ·cases h
 ·cases h
end
section
variable {P:Program}{τ:TT}{β:Nm}{E:a8}{B:List (Option Bx)}{T:Array Value}{R:LH}{sv:SV}
def JJ(E:a8)(op:UnOp)(x:Operand):Option SV:=match op,aL E x with
 | .not,some (.lit b)=>some (.lit (match b with | true=>false | false=>true))
 | .not,some (.v (.bool p))=>some (.v (.bool (!p)))
 | .neg,some (.v (.int k a))=>some (.v (.int k (k.wrap (0 - a))))
 | _,_=>none
theorem NV(hE:aH β E T){op:UnOp}{t:TypeId}{x:Operand}(h:JJ E op x=some sv):j6 P β (.unOp op t x) T R sv:=by
 unfold JJ at h
 split at h
 ·rename_i b hx;cases h;have ex:=(Option.some.inj (hE.val hx)).symm;exact⟨.bool (!b),by cases b <;> rfl,fun ty=>aR.not ex⟩
 ·rename_i p hx;cases h;exact⟨_,rfl,fun ty=>aR.not (Option.some.inj (hE.val hx)).symm⟩
 ·rename_i k a hx;cases h;exact⟨_,rfl,fun ty=>aR.neg (Option.some.inj (hE.val hx)).symm⟩
 ·cases h
def Az(τ:TT)(E:a8)(src dst:TypeId)(x:Operand):Option SV:=match τ.find src,τ.find dst,aL E x with
 | some _,some ti,some (.v (.int _ a))=>match ti.d with
  | .int k'=>some (.v (.int k' (k'.wrap a)))
  | _=>none
 | _,_,_=>none
theorem Hg(dw:τ.Ok P)(hE:aH β E T){src dst:TypeId}{x:Operand}(h:Az τ E src dst x=some sv):j6 P β (.convert src dst x) T R sv:=by
 unfold Az at h
 split at h
 ·rename_i ts td k a h1 h2 hx
  split at h
  ·rename_i k' hd;cases h;have e2:=(TT.aD dw h2).d;rw[hd] at e2;obtain⟨d1,e1⟩:=(TT.aD dw h1).und;exact⟨_,rfl,fun ty=>aR.conv e1 e2 (Option.some.inj (hE.val hx)).symm⟩
  ·cases h
 ·cases h
def zD(τ:TT)(t:TypeId)(fi:Nat):Option Nat:=match τ.find t with
 | some ti=>match ti.d with
  | .str fs=>match nth fs fi with
   | some (off,ft)=>match τ.find ft with
    | some tf=>match Nat.beq tf.size 0 with | false=>some off | true=>none
    | none=>none
   | none=>none
  | _=>none
 | none=>none
theorem FX(dw:τ.Ok P){t:TypeId}{fi off:Nat}(h:zD τ t fi=some off):
  ∃(fs:Array Field) (fl:Field) (n:Nat),P.underlying t=some (.struct fs)∧fs[fi]?=some fl∧(P.info? fl.type).map (·.size)=some n∧n≠0∧fl.offset=off:=by
 unfold zD at h
 split at h
 ·rename_i ti ht
  split at h
  ·rename_i fs hd
   split at h
   ·rename_i o ft hn
    split at h
    ·rename_i tf hf
     split at h
     ·rename_i hz;cases h;have e:=(TT.aD dw ht).d;rw[hd] at e;obtain⟨gs,e1,e2⟩:=e;rw[bU,←e2,List.getElem?_map,Option.map_eq_some_iff] at hn;obtain⟨g,e3,e4⟩:=hn;cases e4;refine⟨gs,g,tf.size,e1,by rw[←Array.getElem?_toList];exact e3,(TT.aD dw hf).size,(fun e=>by rw[e] at hz;cases hz),rfl⟩
     ·cases h
    ·cases h
   ·cases h
  ·cases h
 ·cases h
def EP(τ:TT)(E:a8)(t:TypeId)(x:Operand)(fi:Nat):Option SV:=match zD τ t fi with
 | some o=>match aL E x with
  | some (.p k off)=>some (.p k (off+o))
  | some (.v (.pointer (some ad)))=>some (.v (.pointer (some (ad.add o))))
  | _=>none
 | none=>none
theorem JC(dw:τ.Ok P)(hE:aH β E T){t:TypeId}{x:Operand}{fi:Nat}(h:EP τ E t x fi=some sv):j6 P β (.fieldAddr t x fi) T R sv:=by
 unfold EP at h
 split at h
 ·rename_i o ho;obtain⟨fs,fl,n,h1,h2,h3,h4,h5⟩:=FX dw ho
  split at h
  ·rename_i k off hx;cases h;obtain⟨b,hb,hv⟩:=lV (hE.val hx);refine⟨.pointer (some ⟨b,off+o,none⟩),by unfold den;rw[hb],fun ty=>aR.field h1 h2 h3 h4 hv (by rw[h5,cK])⟩
  ·rename_i ad hx;cases h;exact⟨_,rfl,fun ty=>aR.field h1 h2 h3 h4 (Option.some.inj (hE.val hx)).symm (by rw[h5])⟩
  ·cases h
 ·cases h
def EO(E:a8)(x:Operand)(n:Nat):Option SV:=match aL E x with
 | some (.v (.tuple vs))=>match nth vs.toList n with | some v=>some (.v v) | none=>none
 | _=>none
theorem JB(hE:aH β E T){x:Operand}{n:Nat}(h:EO E x n=some sv):j6 P β (.extract x n) T R sv:=by
 unfold EO at h
 split at h
 ·rename_i vs hx
  split at h
  ·rename_i v hv;cases h;exact⟨v,rfl,fun ty=>aR.extract (Option.some.inj (hE.val hx)).symm (by rw[bU,Array.getElem?_toList] at hv;exact hv)⟩
  ·cases h
 ·cases h
def JE(E:a8)(fn:Go.Fn)(f1 f2:Array Operand):Option SV:=match uL E f1.toList,uL E f2.toList with
 | some a,some b=>some (.f fn a b)
 | _,_=>none
theorem NS(hE:aH β E T){fn:Go.Fn}{f1 f2:Array Operand}(h:JE E fn f1 f2=some sv):j6 P β (.makeFunc fn f1 f2) T R sv:=by
 unfold JE at h
 split at h
 ·rename_i a b h1 h2;cases h;refine⟨.func fn (f1.map (ev T)) (f2.map (ev T)),?_,fun ty=>aR.makeFunc rfl rfl⟩;unfold den;rw[hE.LO h1,hE.LO h2];simp[←Array.toList_map]
 ·cases h
def JF(τ:TT)(E:a8)(t:TypeId)(x:Operand):Option SV:=match τ.find t with
 | some ti=>match ti.d.B0 with
  | true=>match aL E x with
   | some s=>match den dr s with
    | some v=>some (.v (.iface t v))
    | none=>some (.i t s)
   | none=>none
  | false=>none
 | none=>none
theorem NT(dw:τ.Ok P)(hE:aH β E T){t:TypeId}{x:Operand}(h:JF τ E t x=some sv):j6 P β (.makeInterface t x) T R sv:=by
 unfold JF at h
 split at h
 ·rename_i ti ht
  split at h
  ·rename_i hc;obtain⟨d,hd,gr⟩:=(TT.aD dw ht).B0 hc
   split at h
   ·rename_i s hx;have hv:=hE.val hx;refine⟨.iface t (ev T x),?_,fun ty=>aR.Jd hd gr rfl⟩
    split at h
    ·rename_i v hn;cases h;have:=(cP hn β).symm.trans hv;cases this
     rfl
    ·cases h;unfold den;rw[hv]
   ·cases h
  ·cases h
 ·cases h
def sTA(z:Value)(asserted:TypeId)(ok:Bool):SV→Option SV
 | .v (.iface t v)=>match Nat.beq t asserted with
  | true=>match ok with | true=>some (.v (.tuple #[v,.bool true])) | false=>some (svC v)
  | false=>match ok with | true=>some (.v (.tuple #[z,.bool false])) | false=>none
 | .v .nilIface=>match ok with | true=>some (.v (.tuple #[z,.bool false])) | false=>none
 | _=>none
def JH(τ:TT)(E:a8)(x:Operand)(asserted:TypeId)(ok:Bool):Option SV:=match τ.find asserted with
 | some ti=>match ti.d.B0 with
  | true=>match aL E x with
   | some s=>sTA ti.z asserted ok s
   | none=>none
  | false=>none
 | none=>none
theorem mf{d:TypeDesc}{asserted xt t:TypeId}{v:Value}{ok:Bool}{H:Value→LH→Prop}{Q:Value→LH→Prop}(hu:P.underlying asserted=some d)(hn:∀ms,d≠.interface ms):
  az P Q H (Instr.typeAssert (.iface t v) xt asserted ok) R=az P Q H (if t=asserted then(pure (if ok then .tuple #[v,.bool true] else v):Sem Value) else(do if ok then pure (.tuple #[←zeroValue asserted,.bool false]) else runtimePanic (.typeAssertion (some xt) (some t) asserted ""))) R:=by
 unfold Instr.typeAssert;rw[ae,ao hu];cases d <;> first | exact absurd rfl (hn _) | rfl
theorem xn{d:TypeDesc}{asserted xt:TypeId}{ok:Bool}{H:Value→LH→Prop}{Q:Value→LH→Prop}(hu:P.underlying asserted=some d)(hn:∀ms,d≠.interface ms):
  az P Q H (Instr.typeAssert .nilIface xt asserted ok) R=az P Q H (do if ok then pure (.tuple #[←zeroValue asserted,.bool false]) else runtimePanic (.typeAssertion (some xt) none asserted "")) R:=by
 unfold Instr.typeAssert;rw[ae,ao hu];cases d <;> first | exact absurd rfl (hn _) | rfl
theorem NU(dw:τ.Ok P)(hE:aH β E T){x:Operand}{xt asserted:TypeId}{ok:Bool}(h:JH τ E x asserted ok=some sv):j6 P β (.typeAssert x xt asserted ok) T R sv:=by
 unfold JH at h
 split at h
 ·rename_i ti ht
  split at h
  ·rename_i hc;have hi:=TT.aD dw ht;obtain⟨d,hd,gr⟩:=hi.B0 hc
   split at h
   ·rename_i s hx;have hv:=hE.val hx;unfold sTA at h
    split at h
    ·rename_i t v;have ex:=(Option.some.inj hv).symm
     split at h
     ·rename_i hb;obtain rfl:=Nat.eq_of_beq_eq_true hb
      split at h
      ·cases h;refine⟨_,rfl,fun ty dst pos af gd Q H hq=>?_⟩;simp only[execOp,ex];rw[ae,mf hd gr];simp only[if_true,ar];exact hq
      ·cases h;refine⟨_,FF β v,fun ty dst pos af gd Q H hq=>?_⟩;simp only[execOp,ex];rw[ae,mf hd gr];simp only[if_true,Bool.false_eq_true,if_false,ar];exact hq
     ·rename_i hb;have aY:t≠asserted:=fun e=>by subst e;simp at hb
      split at h
      ·cases h;refine⟨_,rfl,fun ty dst pos af gd Q H hq=>?_⟩;simp only[execOp,ex];rw[ae,mf hd gr,if_neg aY];simp only[if_true];rw[ae,dA hi.zero];exact hq
      ·cases h
    ·have ex:=(Option.some.inj hv).symm
     split at h
     ·cases h;refine⟨_,rfl,fun ty dst pos af gd Q H hq=>?_⟩;simp only[execOp,ex];rw[ae,xn hd gr];simp only[if_true];rw[ae,dA hi.zero];exact hq
     ·cases h
    ·cases h
   ·cases h
  ·cases h
 ·cases h
def rm(τ:TT):List (Nat×TypeId)→Option (List (Nat×Nat))
 | []=>some []
 | (o,t)::r=>match τ.find t,rm τ r with
  | some ti,some l=>some ((o,ti.size)::l)
  | _,_=>none
theorem xO(dw:τ.Ok P):∀{gs:List Field} {pl:List (Nat×Nat)},rm τ (gs.map fun g=>(g.offset,g.type))=some pl→gs.map (fun f=>((P.info? f.type).map (·.size)).map (fun n=>(f.offset,n)))=pl.map some
 | [],pl,h=>by cases h;rfl
 | g::gs,pl,h=>by
  rw[List.map_cons] at h;unfold rm at h;cases h1:τ.find g.type with
  | none=>rw[h1] at h;cases h
  | some ti=>
   cases h2:rm τ (gs.map fun g=>(g.offset,g.type)) with
   | none=>rw[h1,h2] at h;cases h
   | some l=>
    rw[h1,h2] at h;cases h;exact plc (TT.aD dw h1).size (xO dw h2)
def gA(n size:Nat):List (Nat×Nat):=match n with
 | 0=>[]
 | n+1=>gA n size++[(n *size,size)]
theorem pA:∀(n size i:Nat),i<n→nth (gA n size) i=some (i *size,size)
 | 0,_,_,h=>by omega
 | n+1,size,i,h=>by
  unfold gA;rw[bU];have hlen:∀n,(gA n size).length=n:=by
   intro n
   induction n with
   | zero=>rfl
   | succ n ih=>simp[gA,ih]
  by_cases e:i<n
  ·rw[List.getElem?_append_left (by rw[hlen];exact e),←bU,pA n size i e]
  ·have:i=n:=by omega
   subst this;rw[List.getElem?_append_right (by rw[hlen];exact Nat.le_refl _),hlen];simp
theorem DW{n size i:Nat}(h:n≤i):nth (gA n size) i=none:=by
 rw[bU];refine List.getElem?_eq_none ?_;have hlen:∀n,(gA n size).length=n:=by
  intro n
  induction n with
  | zero=>rfl
  | succ n ih=>unfold gA;simp[ih]
 rw[hlen];exact h
theorem aR.TY{n m:Nat}{t e ty:TypeId}{parts:Array (Nat×Operand)}{z:Value}{pv:List (Nat×Value)}{cells:Array Value}{T:Array Value}{L:LH}(hz:(P.info? t).bind (·.zero)=some z)(hu:P.underlying t=some (.array n e))(hs:(P.info? e).map (·.size)=some m)
  (hp:(parts.map fun(i,x)=>(i,ev T x)).toList=pv)(hc:Instr.fill (fun i=>some (i *m,m)) z.cells pv=some cells):
  aR P (.build t parts) ty T L (.agg cells):=by
 intro dst pos af gd Q H hq;simp only[execOp];rw[ae];unfold Instr.build;rw[ae,dA hz,ae,ao hu];simp only;rw[ae,bL hs,hp];simp only[hc];exact hq
def w9(τ:TT)(E:a8)(t:TypeId)(parts:Array (Nat×Operand)):Option SV:=match τ.find t with
 | some ti=>match ti.d with
  | .str fs=>match rm τ fs,pR E parts.toList with
   | some pl,some ps=>match tu pl (ti.z.cells.toList.map .v) ps with
    | some l=>some (.a l)
    | none=>none
   | _,_=>none
  | .arr n e=>match τ.find e,pR E parts.toList with
   | some te,some ps=>match tu (gA n te.size) (ti.z.cells.toList.map .v) ps with
    | some l=>some (.a l)
    | none=>none
   | _,_=>none
  | _=>none
 | none=>none
theorem EM(dw:τ.Ok P)(hE:aH β E T){t:TypeId}{parts:Array (Nat×Operand)}(h:w9 τ E t parts=some sv):j6 P β (.build t parts) T R sv:=by
 unfold w9 at h
 split at h
 ·rename_i ti ht;have hi:=TT.aD dw ht
  split at h
  ·rename_i fs hd
   split at h
   ·rename_i pl ps qT wI
    split at h
    ·rename_i l hl;cases h;have e:=hi.d;rw[hd] at e;obtain⟨gs,e1,e2⟩:=e;obtain⟨rs,g1,g2⟩:=D3 (place:=(pl.toArray[·]?)) (fun i=>by rw[bU];simp) (nM hE wI) (gK β _) hl;refine⟨.agg rs.toArray,by unfold den;rw[g1],fun ty=>?_⟩;refine aR.build (pv:=parts.toList.map fun(i,x)=>(i,ev T x)) hi.zero e1 (by simp) (places (xO dw (by rw[e2];exact qT))) ?_
     simpa using g2
    ·cases h
   ·cases h
  ·rename_i n e hd
   split at h
   ·rename_i te ps ZY wI
    split at h
    ·rename_i l hl;cases h;have hu:=hi.d;rw[hd] at hu;have iZ:=TT.aD dw ZY;obtain⟨rs,g1,g2⟩:=lz (place:=fun i=>some (i *te.size,te.size)) (fun i y hy=>by
      by_cases hi:i<n
      ·rw[pA _ _ _ hi] at hy;exact hy
      ·rw[DW (by omega)] at hy;cases hy) (nM hE wI) (gK β _) hl
     refine⟨.agg rs.toArray,by unfold den;rw[g1],fun ty=>?_⟩;refine aR.TY (pv:=parts.toList.map fun(i,x)=>(i,ev T x)) hi.zero hu iZ.size (by simp) ?_
     simpa using g2
    ·cases h
   ·cases h
  ·cases h
 ·cases h
def ER(τ:TT)(E:a8)(t:TypeId)(x:Operand):Option SV:=match τ.find t with
 | some ti=>match ti.d with
  | .slice _=>match aL E x with
   | some (.v (.slice _ len _))=>some (.v (.int .i64 len))
   | some (.sl _ _ len _)=>some (.v (.int .i64 len))
   | _=>none
  | .arr n _=>some (.v (.int .i64 n))
  | .text=>match aL E x with
   | some (.v (.string s))=>some (.v (.int .i64 s.data.toList.length))
   | _=>none
  | _=>none
 | none=>none
theorem aR.RE{s:ByteArray}{t0 ty:TypeId}{x:Operand}(hu:P.underlying t0=some .string)(hx:ev T x=.string s):aR P (.call {callee:=.builtin .len,args:=#[x],argTypes:=#[t0]}) ty T R (.int .i64 s.data.toList.length):=by
 intro dst pos af gd Q H hq;simp only[execOp,resolve,List.map_toArray,List.map_cons,List.map_nil,hx,pure,Sem.bind,bind,invoke,builtin,Builtin.len_];simp only[List.getElem?_toArray,List.getElem?_cons_zero];show az P Q H ((_>>= _)>>= _) R;rw[ae,ae,ao hu];exact hq
theorem aR.BV{ad:Option Addr}{len cap:Nat}{e t0 ty:TypeId}{x:Operand}(hu:P.underlying t0=some (.slice e))(hx:ev T x=.slice ad len cap):aR P (.call {callee:=.builtin .cap,args:=#[x],argTypes:=#[t0]}) ty T R (.int .i64 cap):=by
 intro dst pos af gd Q H hq;simp only[execOp,resolve,List.map_toArray,List.map_cons,List.map_nil,hx,pure,Sem.bind,bind,invoke,builtin,Builtin.cap_];simp only[List.getElem?_toArray,List.getElem?_cons_zero];show az P Q H ((_>>= _)>>= _) R;rw[ae,ae,ao hu];exact hq
def EN(τ:TT)(E:a8)(t:TypeId)(x:Operand):Option SV:=match τ.find t with
 | some ti=>match ti.d with
  | .slice _=>match aL E x with
   | some (.v (.slice _ _ cap))=>some (.v (.int .i64 cap))
   | some (.sl _ _ _ cap)=>some (.v (.int .i64 cap))
   | _=>none
  | _=>none
 | none=>none
theorem JA(dw:τ.Ok P)(hE:aH β E T){t:TypeId}{x:Operand}(h:EN τ E t x=some sv):j6 P β (.call {callee:=.builtin .cap,args:=#[x],argTypes:=#[t]}) T R sv:=by
 unfold EN at h
 split at h
 ·rename_i ti ht;have hd:=(TT.aD dw ht).d
  split at h
  ·rename_i e he;rw[he] at hd
   split at h
   ·rename_i a len cap hx;cases h;exact⟨_,rfl,fun ty=>aR.BV hd (Option.some.inj (hE.val hx)).symm⟩
   ·rename_i k off len cap hx;cases h;have hv:=hE.val hx;unfold den at hv;cases hk:β k with
    | none=>rw[hk] at hv;cases hv
    | some b=>rw[hk] at hv;exact⟨_,rfl,fun ty=>aR.BV hd (Option.some.inj hv).symm⟩
   ·cases h
  ·cases h
 ·cases h
theorem JD(dw:τ.Ok P)(hE:aH β E T){t:TypeId}{x:Operand}(h:ER τ E t x=some sv):j6 P β (.call {callee:=.builtin .len,args:=#[x],argTypes:=#[t]}) T R sv:=by
 unfold ER at h
 split at h
 ·rename_i ti ht;have hd:=(TT.aD dw ht).d
  split at h
  ·rename_i e he;rw[he] at hd
   split at h
   ·rename_i a len cap hx;cases h;exact⟨_,rfl,fun ty=>aR.CJ hd (Option.some.inj (hE.val hx)).symm⟩
   ·rename_i k off len cap hx;cases h;have hv:=hE.val hx;unfold den at hv;cases hk:β k with
    | none=>rw[hk] at hv;cases hv
    | some b=>rw[hk] at hv;exact⟨_,rfl,fun ty=>aR.CJ hd (Option.some.inj hv).symm⟩
   ·cases h
  ·rename_i n e he;rw[he] at hd;cases h;exact⟨_,rfl,fun ty=>aR.Vp hd⟩
  ·rename_i he;rw[he] at hd
   split at h
   ·rename_i s hx;cases h;exact⟨_,rfl,fun ty=>aR.RE hd (Option.some.inj (hE.val hx)).symm⟩
   ·cases h
  ·cases h
 ·cases h
def ES(mx:Bool)(E:a8)(x y:Operand):Option SV:=match aL E x,aL E y with
 | some (.v (.int k a)),some (.v (.int k' b))=>match Z3 k k' with
  | true=>match mx with
   | true=>some (.v (.int k (if b>a then b else a)))
   | false=>some (.v (.int k (if b<a then b else a)))
  | false=>none
 | _,_=>none
theorem C2(hE:aH β E T){mx:Bool}{x y:Operand}{t0:Array TypeId}(h:ES mx E x y=some sv):j6 P β (.call {callee:=.builtin (match mx with | true=>.max | false=>.min),args:=#[x,y],argTypes:=t0}) T R sv:=by
 unfold ES at h
 split at h
 ·rename_i k a k' b hx hy
  split at h
  ·rename_i hk;obtain rfl:=K4 hk
   split at h
   ·cases h;exact⟨_,rfl,fun ty=>aR.max (Option.some.inj (hE.val hx)).symm (Option.some.inj (hE.val hy)).symm⟩
   ·cases h;exact⟨_,rfl,fun ty=>aR.min (Option.some.inj (hE.val hx)).symm (Option.some.inj (hE.val hy)).symm⟩
  ·cases h
 ·cases h
def Ay(τ:TT)(E:a8)(c:Call):Option SV:=match c.callee,c.args.toList,c.argTypes.toList with
 | .builtin .len,[x],[t]=>ER τ E t x
 | .builtin .cap,[x],[t]=>EN τ E t x
 | .builtin .max,[x,y],_=>ES true E x y
 | .builtin .min,[x,y],_=>ES false E x y
 | _,_,_=>none
theorem Hf(dw:τ.Ok P)(hE:aH β E T){c:Call}(h:Ay τ E c=some sv):j6 P β (.call c) T R sv:=by
 obtain⟨ce,args,Wh⟩:=c;unfold Ay at h;simp only at h
 split at h
 ·rename_i x t h1 h2;have e1:args=#[x]:=by rw[←Array.toArray_toList (xs:=args),h1]
  have e2:Wh=#[t]:=by rw[←Array.toArray_toList (xs:=Wh),h2]
  subst e1 e2;exact JD dw hE h
 ·rename_i x t h1 h2;have e1:args=#[x]:=by rw[←Array.toArray_toList (xs:=args),h1]
  have e2:Wh=#[t]:=by rw[←Array.toArray_toList (xs:=Wh),h2]
  subst e1 e2;exact JA dw hE h
 ·rename_i _ x y h1;have e1:args=#[x,y]:=by rw[←Array.toArray_toList (xs:=args),h1]
  subst e1;exact C2 (mx:=true) hE h
 ·rename_i _ x y h1;have e1:args=#[x,y]:=by rw[←Array.toArray_toList (xs:=args),h1]
  subst e1;exact C2 (mx:=false) hE h
 ·cases h
def C3(τ:TT)(E:a8)(B:List (Option Bx)):Op→Option SV
 | .move x=>vF E x
 | .assign x=>vF E x
 | .pick c a b=>AA E c a b
 | .load t x=>m8 τ E B t x
 | .nilCheck x=>ET E x
 | .binOp op t x y _=>EL τ E op t x y
 | .unOp op _ x=>JJ E op x
 | .convert s d x=>Az τ E s d x
 | .fieldAddr t x fi=>EP τ E t x fi
 | .extract x n=>EO E x n
 | .makeFunc fn f1 f2=>JE E fn f1 f2
 | .makeInterface t x=>JF τ E t x
 | .typeAssert x _ a ok=>JH τ E x a ok
 | .build t ps=>w9 τ E t ps
 | .call c=>Ay τ E c
 | _=>none
theorem AD(dw:τ.Ok P)(hE:aH β E T)(hB:nU β B R){op:Op}(h:C3 τ E B op=some sv):j6 P β op T R sv:=by
 unfold C3 at h
 split at h
 ·exact Hi hE h
 ·exact BL hE h
 ·exact Hj hE h
 ·exact rz dw hE hB h
 ·exact JG hE h
 ·exact Jz dw hE h
 ·exact NV hE h
 ·exact Hg dw hE h
 ·exact JC dw hE h
 ·exact JB hE h
 ·exact NS hE h
 ·exact NT dw hE h
 ·exact NU dw hE h
 ·exact EM dw hE h
 ·exact Hf dw hE h
 ·cases h
def HN(len:Nat)(te:TI):List Value:=(List.range (len *te.size)).map (fun i=>(if len *te.size=0 then#[] else te.z.cells)[i % (if len *te.size=0 then(#[]:Array Value) else te.z.cells).size]!)
def C1(τ:TT)(E:a8):Op→Option (Bx×(Nat→SV))
 | .alloc t=>match τ.find t with
  | some ti=>some (⟨ti.z.cells.toList.map .v,t⟩,fun k=>.p k 0)
  | none=>none
 | .box t x=>match aL E x with
  | some s=>some (⟨eK s,t⟩,fun k=>.p k 0)
  | none=>none
 | .buildSlice t len parts=>match τ.find t with
  | some ti=>match ti.d with
   | .slice e=>match τ.find e,pR E parts.toList with
    | some te,some ps=>match Nat.ble (len *te.size) 16777216,tu (gA len te.size) ((HN len te).map .v) ps with
     | true,some l=>some (⟨l,e⟩,fun k=>.sl k 0 len len)
     | _,_=>none
    | _,_=>none
   | _=>none
  | none=>none
 | _=>none
theorem EE{n size i:Nat}{y:Nat×Nat}(h:nth (gA n size) i=some y):y=(i *size,size):=by
 have hlen:∀n,(gA n size).length=n:=by
  intro n
  induction n with
  | zero=>rfl
  | succ n ih=>simp[gA,ih]
 have hi:i<n:=by
  rw[bU] at h;have:=(List.getElem?_eq_some_iff.1 h).1;rw[hlen] at this;exact this
 rw[pA n size i hi] at h;cases h;rfl
theorem Hd(dw:τ.Ok P)(hE:aH β E T){op:Op}{x:Bx}{sh:Nat→SV}(h:C1 τ E op=some (x,sh)):∃cs mk,bC β x.cells=some cs∧(∀(γ:Nm) (k b:Nat),γ k=some b→den γ (sh k)=some (mk b))∧∀ty R,uu P op ty T R mk (.cells cs.toArray x.ty):=by
 unfold C1 at h
 split at h
 ·split at h
  ·rename_i ti ht;cases h;exact⟨_,fun b=>.pointer (some ⟨b,0,none⟩),gK β _,fun γ k b hk=>by unfold den;rw[hk],fun ty R=>uu.alloc (TT.aD dw ht).zero (by simp)⟩
  ·cases h
 ·split at h
  ·rename_i s hs;cases h;exact⟨_,fun b=>.pointer (some ⟨b,0,none⟩),qK (hE.val hs),fun γ k b hk=>by unfold den;rw[hk],fun ty R=>uu.box rfl (by simp)⟩
  ·cases h
 ·rename_i t len parts
  split at h
  ·rename_i ti ht
   split at h
   ·rename_i e he
    split at h
    ·rename_i te ps ZY wI
     split at h
     ·rename_i l h1 h2;cases h;have hi:=TT.aD dw ht;have iZ:=TT.aD dw ZY;have hd:=hi.d;rw[he] at hd;obtain⟨rs,g1,g2⟩:=lz (place:=fun i=>some (i *te.size,te.size)) (fun i y hy=>by rw[EE hy]) (nM hE wI) (gK β _) h2;refine⟨rs,fun b=>.slice (some ⟨b,0,none⟩) len len,g1,fun γ k b hk=>by unfold den;rw[hk],fun ty R=>?_⟩;refine uu.buildSlice (pv:=parts.toList.map fun(i,x)=>(i,ev T x)) hd iZ.size (Nat.le_of_ble_eq_true h1) iZ.zero (by simp) ?_;rw[←g2]
      congr 1
      unfold HN;rw[←List.map_toArray]
      congr 1
      apply Array.ext';simp
     ·cases h
    ·cases h
   ·cases h
  ·cases h
 ·cases h
def AB(τ:TT)(E:a8)(B:List (Option Bx)):Op→Option (Nat×Bx)
 | .store t x y=>match aL E x,aL E y,τ.find t with
  | some (.p k off),some s,some ti=>match nth B k with
   | some (some bx)=>match Nat.beq (eK s).length ti.size,Nat.ble (off+ti.size) bx.cells.length,AH (eK s) with
    | true,true,true=>some (k,⟨sQ bx.cells off (eK s),bx.ty⟩)
    | _,_,_=>none
   | _=>none
  | _,_,_=>none
 | _=>none
theorem Hk(dw:τ.Ok P)(hE:aH β E T){L0 R0 L:LH}(hB:aF L0 R0 β B L R){op:Op}{k:Nat}{x:Bx}(h:AB τ E B op=some (k,x))(dst:Option Tmp)(ty:TypeId)(pos:String)(af:Array Edge)(gd:Option (Nat×Bool))(Q:Next→LH→Prop)(H:Value→LH→Prop)
  (hq:∀R',aF L0 R0 β (B.set k (some x)) L R'→Q .skip R'):az P Q H (execOp (ev T) ⟨dst,op,ty,pos,af,gd⟩) R:=by
 unfold AB at h
 split at h
 ·rename_i t a y
  split at h
  ·rename_i k' off s ti hx hy ht
   split at h
   ·rename_i bx hn
    split at h
    ·rename_i h1 h2 h3;cases h;obtain⟨b,hb,hv⟩:=lV (hE.val hx);have yx:B[k]?=some (some bx):=by rw[←bU];exact hn
     obtain⟨_,_,cs,hc,hR⟩:=hB.box k b bx hb yx;have bW:=qK (hE.val hy);have hlen:=gO bW;have e1:=Nat.eq_of_beq_eq_true h1;have e2:=Nat.le_of_ble_eq_true h2;simp only[execOp,hv];rw[ae];unfold Instr.storeAt;rw[ae];simp only[Instr.sureAddr,ar];unfold storeVar;rw[ae,bL (TT.aD dw ht).size];have ed:(ev T y).cells.size=ti.size:=by rw[←e1,←hlen,Array.length_toList]
     simp only[ed,ne_eq,not_true_eq_false,if_false];refine fL (e:=bx.ty) _ 0 _ R hR (by rw[Array.length_toList,ed,List.size_toArray,gO hc];omega) (fun v tV=>C5 bW h3 v tV) (fun R' g1 g2=>?_);refine hq R' (hB.vG hb yx (rK hc bW) ?_ g2);rw[g1,Nat.add_zero];have:=kp (ev T y).cells.toList cs.toArray off;rw[List.toList_toArray] at this;rw[←this]
    ·cases h
   ·cases h
  ·cases h
 ·cases h
end
structure Cx(P:Program) where
 X:ax P
 f:FuncId
 kd:CallKind
 ro:Option Nat
 cs:List Frame
 L0:LH
 R0:LH
def W{P:Program}(C:Cx P)(n:Nat)(ds:List Deferred)(k:List Item)(E:Env)(B:List (Option Bx))(L:LH):Prop:=
 ∀(T:Array Value) (R:LH) (β:Nm),T.size=n→aH β (get E) T→aF C.L0 C.R0 β B L R→C.X.Go (G (Fr C.f T k ds .run C.kd C.ro) C.cs) R
def aK(E:a8)(ops:List Oper):Option (Nat×Bool)→Option Bool
 | none=>some true
 | some (j,w)=>match nth ops j with
  | some o=>match o.dst with
   | some s=>match E s with
    | some (.lit b)=>some (match b,w with | true,true=>true | false,false=>true | _,_=>false)
    | some (.v (.tuple _))=>some false
    | _=>none
   | none=>none
  | none=>none
theorem Ix{T:Array Value}{s:Nat}{b:Bool}(h:T.getD s undef=.bool b):T[s]?=some (.bool b):=by
 by_cases aU:s<T.size
 ·simp only[Array.getD,aU,dif_pos] at h;rw[Array.getElem?_eq_getElem aU];exact congrArg some h
 ·simp only[Array.getD,aU,dif_neg,not_false_eq_true] at h;cases h
theorem aO{β:Nm}{E:a8}{T:Array Value}{ops:Array Oper}{o:Oper}{b:Bool}(hE:aH β E T)(h:aK E ops.toList o.guard=some b):Region.wanted o (yielded ops T)=b:=by
 unfold aK at h;unfold Region.wanted
 split at h
 ·rename_i hg;cases h;simp[hg]
 ·rename_i j w hg;rw[hg]
  split at h
  ·rename_i oj hj
   split at h
   ·rename_i s hs
    split at h
    ·rename_i c hc;cases h;have hT:=Ix (Option.some.inj (hE s _ hc)).symm;rw[bU,Array.getElem?_toList] at hj;simp only[yielded,hj,Option.bind_some,hs,hT];cases c <;> cases w <;> rfl
    ·rename_i u hc;cases h;have hT:=(Option.some.inj (hE s _ hc)).symm;rw[bU,Array.getElem?_toList] at hj;simp only[yielded,hj,Option.bind_some,hs];have hT2:∀c,T[s]?≠some (.bool c):=fun c h'=>by
      simp only[Array.getD_eq_getD_getElem?] at hT;rw[h'] at hT;cases hT
     split
     ·rename_i c h';exact absurd h' (hT2 c)
     ·rfl
    ·cases h
   ·cases h
  ·cases h
def fg(l:List Nat)(d:Nat):Bool:=match l with
 | []=>false
 | x::r=>match Nat.beq x d with | true=>true | false=>fg r d
def Av(τ:TT)(n:Nat)(cw:List Nat)(ops:Array Oper)(i:Nat)(rest:List Nat)(k:List Item)(E:Env)(B:List (Option Bx)):Option (List Item×Env×List (Option Bx)):=
 match nth ops.toList i with
 | some o=>match aK (get E) ops.toList o.guard with
  | some true=>match o.dst with
   | some d=>match Nat.blt d n with
    | true=>match fg cw d with
     | true=>none
     | false=>match C3 τ (get E) B o.op with
      | some sv=>some (.inRegion ops rest::k,(d,sv)::E,B)
      | none=>match C1 τ (get E) o.op with
       | some (x,sh)=>some (.inRegion ops rest::k,(d,sh B.length)::E,B++[some x])
       | none=>none
    | false=>none
   | none=>match AB τ (get E) B o.op with
    | some (kk,x)=>some (.inRegion ops rest::k,E,B.set kk (some x))
    | none=>match C3 τ (get E) B o.op with
     | some _=>some (.inRegion ops rest::k,E,B)
     | none=>none
  | some false=>match o.dst with
   | some d=>match Nat.blt d n with
    | true=>some (.inRegion ops rest::k,(d,.v undef)::E,B)
    | false=>none
   | none=>some (.inRegion ops rest::k,E,B)
  | none=>none
 | none=>none
def JU(k:List Item)(E:Env)(B:List (Option Bx)):Code→Option (List Item×Env×List (Option Bx))
 | .skip=>some (k,E,B)
 | .label _=>some (k,E,B)
 | .seq a b=>some (.code a::.code b::k,E,B)
 | .cond c a b=>match aL (get E) c with
  | some (.lit true)=>some (.code a::k,E,B)
  | some (.lit false)=>some (.code b::k,E,B)
  | _=>none
 | .block l c=>some (.code c::.inBlock l::k,E,B)
 | .scope c=>some (.code c::.inScope c::k,E,B)
 | .exit l=>match exitTo l k with | some k'=>some (k',E,B) | none=>none
 | .region _ ops d=>match d with | false=>some (.inRegion ops (List.range ops.size)::k,E,B) | true=>none
 | _=>none
def step1(τ:TT)(n:Nat)(cw:List Nat):List Item→Env→List (Option Bx)→Option (List Item×Env×List (Option Bx))
 | .code c::k,E,B=>JU k E B c
 | .inBlock _::k,E,B=>some (k,E,B)
 | .inScope _::k,E,B=>some (k,E,B)
 | .inRegion _ []::k,E,B=>some (k,E,B)
 | .inRegion ops (i::rest)::k,E,B=>Av τ n cw ops i rest k E B
 | _,_,_=>none
def runK(τ:TT)(n:Nat)(cw:List Nat):Nat→List Item→Env→List (Option Bx)→(List Item×Env×List (Option Bx))
 | 0,k,E,B=>(k,E,B)
 | m+1,k,E,B=>match step1 τ n cw k E B with
  | some (k',E',B')=>runK τ n cw m k' E' B'
  | none=>(k,E,B)
section
variable {P:Program}{C:Cx P}{τ:TT}{n:Nat}{ds:List Deferred}{k:List Item}{E:Env}{B:List (Option Bx)}{L:LH}
theorem rA{E:a8}{op:Op}{sv:SV}(h:C3 τ E B op=some sv):fS op=false:=by cases op <;> first | rfl | cases h
theorem xT{E:a8}{op:Op}{x:Bx×(Nat→SV)}(h:C1 τ E op=some x):fS op=false:=by cases op <;> first | rfl | cases h
theorem xU{E:a8}{op:Op}{x:Nat×Bx}(h:AB τ E B op=some x):fS op=false:=by cases op <;> first | rfl | cases h
theorem W.oper{ops:Array Oper}{i:Nat}{rest:List Nat}{o:Oper}(ho:nth ops.toList i=some o)(hg:aK (get E) ops.toList o.guard=some true)(fF:fS o.op=false)
  (h:∀(T:Array Value) (R:LH) (β:Nm),T.size=n→aH β (get E) T→aF C.L0 C.R0 β B L R→
   az P (fj P C.X.Go (Fr C.f T (.inRegion ops (i::rest)::k) ds .run C.kd C.ro) C.cs .normal) (kY C.X.Go (Fr C.f T (.inRegion ops (i::rest)::k) ds .run C.kd C.ro) C.cs) (execOp (ev T) o) R):
  W C n ds (.inRegion ops (i::rest)::k) E B L:=by
 intro T R β hT hE hH;rw[bU,Array.getElem?_toList] at ho;exact C.X.op ho (aO hE hg) (.inr fun c hc=>by rw[hc] at fF;cases fF) (h T R β hT hE hH)
theorem W.eQ{ops:Array Oper}{i:Nat}{rest:List Nat}{o:Oper}{d:Nat}{T:Array Value}{R:LH}{β:Nm}{sv:SV}{v:Value}(ho:nth ops.toList i=some o)(hd:o.dst=some d)(hz:d<n)(hT:T.size=n)(hE:aH β (get E) T)(hH:aF C.L0 C.R0 β B L R)(hv:den β sv=some v)
  (w:W C n ds (.inRegion ops rest::k) ((d,sv)::E) B L):C.X.Go (G ((Fr C.f T (.inRegion ops (i::rest)::k) ds .run C.kd C.ro).finish v) C.cs) R:=by
 rw[bU,Array.getElem?_toList] at ho;rw[mq ho hd];exact w _ R β (by simp[hT]) (hE.set hv (rE v (by rw[hT];exact hz))) hH
theorem W.kP{ops:Array Oper}{i:Nat}{rest:List Nat}{o:Oper}{T:Array Value}{R:LH}{β:Nm}{v:Value}(ho:nth ops.toList i=some o)(hd:o.dst=none)(hT:T.size=n)(hE:aH β (get E) T)(hH:aF C.L0 C.R0 β B L R)
  (w:W C n ds (.inRegion ops rest::k) E B L):C.X.Go (G ((Fr C.f T (.inRegion ops (i::rest)::k) ds .run C.kd C.ro).finish v) C.cs) R:=by
 rw[bU,Array.getElem?_toList] at ho;rw[pF ho hd];exact w _ R β hT hE hH
theorem cC{d n:Nat}(h:Nat.blt d n=true):d<n:=Nat.le_of_ble_eq_true h
theorem W.val{ops:Array Oper}{i:Nat}{rest:List Nat}{o:Oper}{d:Nat}{sv:SV}(ho:nth ops.toList i=some o)(hg:aK (get E) ops.toList o.guard=some true)(hd:o.dst=some d)(hz:Nat.blt d n=true)(fF:fS o.op=false)
  (hv:∀(T:Array Value) (R:LH) (β:Nm),aH β (get E) T→aF C.L0 C.R0 β B L R→j6 P β o.op T R sv)(w:W C n ds (.inRegion ops rest::k) ((d,sv)::E) B L):W C n ds (.inRegion ops (i::rest)::k) E B L:=by
 refine W.oper ho hg fF fun T R β hT hE hH=>?_;obtain⟨v,h1,h2⟩:=hv T R β hE hH;obtain⟨dst,op,ty,pos,af,gd⟩:=o;exact h2 ty dst pos af gd _ _ (W.eQ ho hd (cC hz) hT hE hH h1 w)
theorem G6(dw:τ.Ok P){cw:List Nat}{ops:Array Oper}{i:Nat}{rest:List Nat}{k':List Item}{E':Env}{B':List (Option Bx)}(h:Av τ n cw ops i rest k E B=some (k',E',B'))(w:W C n ds k' E' B' L):W C n ds (.inRegion ops (i::rest)::k) E B L:=by
 unfold Av at h
 split at h
 ·rename_i o ho
  split at h
  ·rename_i hg
   split at h
   ·rename_i d hd
    split at h
    ·rename_i hz
     split at h
     ·cases h
     ·split at h
      ·rename_i sv hs;cases h;exact W.val ho hg hd hz (rA hs) (fun T R β hE hH=>AD dw hE hH.boxes hs) w
      ·split at h
       ·rename_i x sh hx;cases h;refine W.oper ho hg (xT hx) fun T R β hT hE hH=>?_;obtain⟨cs,mk,h1,h3,h2⟩:=Hd dw hE hx;obtain⟨dst,op,ty,pos,af,gd⟩:=o;refine h2 ty R dst pos af gd _ _ fun b hb=>?_;exact W.eQ ho hd (cC hz) hT (hE.mono (Nm.EU (hH.more x).2 b)) (hH.new hb h1) (h3 _ _ b (Nm.jK _ _ _)) w
       ·cases h
    ·cases h
   ·rename_i hd
    split at h
    ·rename_i kk x hs;cases h;refine W.oper ho hg (xU hs) fun T R β hT hE hH=>?_;obtain⟨dst,op,ty,pos,af,gd⟩:=o;exact Hk dw hE hH hs dst ty pos af gd _ _ fun R' M8=>W.kP ho hd hT hE M8 w
    ·split at h
     ·rename_i sv hs;cases h;refine W.oper ho hg (rA hs) fun T R β hT hE hH=>?_;obtain⟨v,h1,h2⟩:=AD dw hE hH.boxes hs;obtain⟨dst,op,ty,pos,af,gd⟩:=o;exact h2 ty dst pos af gd _ _ (W.kP ho hd hT hE hH w)
     ·cases h
  ·rename_i hg;have un:∀{E1:Env},(∀(T:Array Value) (R:LH) (β:Nm),T.size=n→aH β (get E) T→aF C.L0 C.R0 β B L R→C.X.Go (G ((Fr C.f T (.inRegion ops (i::rest)::k) ds .run C.kd C.ro).finish undef) C.cs) R)→W C n ds (.inRegion ops (i::rest)::k) E B L:=by
    intro _ hh T R β hT hE hH;refine C.X.unwanted ?_ (hh T R β hT hE hH);have bO:=ho;rw[bU,Array.getElem?_toList] at bO;rw[bO]
    simpa using aO hE hg
   split at h
   ·rename_i d hd
    split at h
    ·rename_i hz;cases h;exact un (E1:=E) fun T R β hT hE hH=>W.eQ ho hd (cC hz) hT hE hH rfl w
    ·cases h
   ·rename_i hd;cases h;exact un (E1:=E) fun T R β hT hE hH=>W.kP ho hd hT hE hH w
  ·cases h
 ·cases h
theorem N2{c:Code}{k':List Item}{E':Env}{B':List (Option Bx)}(h:JU k E B c=some (k',E',B'))(w:W C n ds k' E' B' L):W C n ds (.code c::k) E B L:=by
 intro T R β hT hE hH;unfold JU at h
 split at h
 ·cases h;exact C.X.skip (w T R β hT hE hH)
 ·cases h;exact C.X.label (w T R β hT hE hH)
 ·cases h;exact C.X.seq (w T R β hT hE hH)
 ·split at h
  ·rename_i hc;cases h;exact C.X.Ym (Option.some.inj (hE.val hc)).symm (w T R β hT hE hH)
  ·rename_i hc;cases h;exact C.X.Yk (Option.some.inj (hE.val hc)).symm (w T R β hT hE hH)
  ·cases h
 ·cases h;exact C.X.block (w T R β hT hE hH)
 ·cases h;exact C.X.scope (w T R β hT hE hH)
 ·split at h
  ·rename_i hx;cases h;exact C.X.exit hx (w T R β hT hE hH)
  ·cases h
 ·split at h
  ·cases h;exact C.X.region rfl (w T R β hT hE hH)
  ·cases h
 ·cases h
theorem N1(dw:τ.Ok P){cw:List Nat}{k':List Item}{E':Env}{B':List (Option Bx)}(h:step1 τ n cw k E B=some (k',E',B'))(w:W C n ds k' E' B' L):W C n ds k E B L:=by
 unfold step1 at h
 split at h
 ·exact N2 h w
 ·cases h;exact fun T R β hT hE hH=>C.X.inBlock (w T R β hT hE hH)
 ·cases h;exact fun T R β hT hE hH=>C.X.inScope (w T R β hT hE hH)
 ·cases h;exact fun T R β hT hE hH=>C.X.Aw (w T R β hT hE hH)
 ·exact G6 dw h w
 ·cases h
theorem W.run(dw:τ.Ok P){cw:List Nat}(m:Nat){k':List Item}{E':Env}{B':List (Option Bx)}(h:runK τ n cw m k E B=(k',E',B'))(w:W C n ds k' E' B' L):W C n ds k E B L:=by
 induction m generalizing k E B with
 | zero=>cases h;exact w
 | succ m ih=>
  unfold runK at h
  split at h
  ·rename_i k1 E1 B1 hs;exact N1 dw hs (ih h)
  ·cases h;exact w
theorem W.bool(s:Nat){sv:SV}{p:Bool}(hs:get E s=some sv)(hb:rJ sv=some p)(h1:p=true→W C n ds k ((s,.lit true)::E) B L)(h2:p=false→W C n ds k ((s,.lit false)::E) B L):W C n ds k E B L:=by
 intro T R β hT hE hH;have yi:T.getD s undef=.bool p:=(Option.some.inj ((xx (β:=β) hb).symm.trans (hE s _ hs))).symm;have set:∀c,p=c→aH β (get ((s,.lit c)::E)) T:=fun c hc s' x hx=>by
  rw[bD] at hx
  by_cases e:s=s'
  ·subst e;rw[if_pos rfl] at hx;cases hx;rw[yi,hc];rfl
  ·rw[if_neg e] at hx;exact hE s' x hx
 cases p
 ·exact h2 rfl T R β hT (set _ rfl) hH
 ·exact h1 rfl T R β hT (set _ rfl) hH
def N4:List Item→Option Nat
 | .code (.cond (.tmp s) _ _)::_=>some s
 | .inRegion ops (i::_)::_=>match nth ops.toList i with
  | some o=>match o.op,o.guard with
   | _,some (j,_)=>match nth ops.toList j with | some o=>o.dst | none=>none
   | .pick (.tmp s) _ _,none=>some s
   | _,none=>none
  | none=>none
 | _=>none
theorem W.split{s:Nat}{sv:SV}{p:Bool}(_h:N4 k=some s)(hs:get E s=some sv)(hb:rJ sv=some p)(h1:p=true→W C n ds k ((s,.lit true)::E) B L)(h2:p=false→W C n ds k ((s,.lit false)::E) B L):W C n ds k E B L:=W.bool s hs hb h1 h2
def gk(E:Env):Env→Prop
 | []=>True
 | (s,x)::r=>get E s=some x∧gk E r
theorem gk.get{E:Env}:∀{E':Env},gk E E'→∀s x,Go.Mz.get E' s=some x→Go.Mz.get E s=some x
 | [],_,s,x,h=>by cases h
 | (s',x')::r,hs,s,x,h=>by
  rw[bD] at h
  by_cases e:s'=s
  ·subst e;rw[if_pos rfl] at h;cases h;exact hs.1
  ·rw[if_neg e] at h;exact hs.2.get s x h
def Nm.upto(β:Nm)(m:Nat):Nm:=fun k=>if k<m then β k else none
theorem Nm.HF(β:Nm){k m:Nat}(h:k<m):β.upto m k=β k:=by simp[Nm.upto,h]
theorem Nm.jB{β:Nm}{k m b:Nat}(h:β.upto m k=some b):k<m∧β k=some b:=by
 unfold Nm.upto at h
 split at h
 ·exact⟨‹_›,h⟩
 ·cases h
mutual
def sc(m:Nat):SV→Bool
 | .v _=>true
 | .p k _=>Nat.blt k m
 | .a l=>yC m l
 | .f _ a b=>match yC m a with | true=>yC m b | false=>false
 | .i _ x=>sc m x
 | .lit _=>true
 | .sl k _ _ _=>Nat.blt k m
def yC(m:Nat):List SV→Bool
 | []=>true
 | x::l=>match sc m x with | true=>yC m l | false=>false
end
mutual
theorem rZ{m:Nat}{β:Nm}:∀{x:SV} {v:Value},sc m x=true→den β x=some v→den (β.upto m) x=some v
 | .v x,v,_,h=>h
 | .p k off,v,hs,h=>by
  unfold den at h ⊢;rw[Nm.HF β (cC hs)];exact h
 | .a l,v,hs,h=>by
  unfold den at h ⊢;cases hl:bC β l with
  | none=>rw[hl] at h;cases h
  | some vs=>rw[hl] at h;rw[ry hs hl];exact h
 | .f fn f1 f2,v,hs,h=>by
  unfold sc at hs;unfold den at h ⊢;cases h1:bC β f1 with
  | none=>rw[h1] at h;cases h
  | some vs1=>
   cases h2:bC β f2 with
   | none=>rw[h1,h2] at h;cases h
   | some vs2=>
    cases yz:yC m f1 with
    | false=>rw[yz] at hs;cases hs
    | true=>rw[yz] at hs;rw[h1,h2] at h;rw[ry yz h1,ry hs h2];exact h
 | .i t x,v,hs,h=>by
  unfold sc at hs;unfold den at h ⊢;cases hx:den β x with
  | none=>rw[hx] at h;cases h
  | some u=>rw[hx] at h;rw[rZ hs hx];exact h
 | .lit _,v,_,h=>h
 | .sl k off len cap,v,hs,h=>by
  unfold den at h ⊢;rw[Nm.HF β (cC hs)];exact h
theorem ry{m:Nat}{β:Nm}:∀{l:List SV} {vs:List Value},yC m l=true→bC β l=some vs→bC (β.upto m) l=some vs
 | [],vs,_,h=>h
 | x::l,vs,hs,h=>by
  unfold yC at hs;obtain⟨v,ws,h1,h2,rfl⟩:=eX h;cases hx:sc m x with
  | false=>rw[hx] at hs;cases hs
  | true=>rw[hx] at hs;exact dX (rZ hx h1) (ry hs h2)
end
def vE(m:Nat):Env→Bool
 | []=>true
 | (_,x)::r=>match sc m x with | true=>vE m r | false=>false
theorem ru{m:Nat}:∀{E:Env},vE m E=true→∀s x,get E s=some x→sc m x=true
 | [],_,s,x,h=>by cases h
 | (s',y)::r,hs,s,x,h=>by
  unfold vE at hs;cases hy:sc m y with
  | false=>rw[hy] at hs;cases hs
  | true=>
   rw[hy] at hs;rw[bD] at h
   by_cases e:s'=s
   ·rw[if_pos e] at h;cases h;exact hy
   ·rw[if_neg e] at h;exact ru hs s x h
def w8(m:Nat):List (Option Bx)→Bool
 | []=>true
 | some x::r=>match yC m x.cells with | true=>w8 m r | false=>false
 | none::r=>w8 m r
theorem Ax{m:Nat}:∀{B:List (Option Bx)},w8 m B=true→∀(k:Nat) (x:Bx),B[k]?=some (some x)→yC m x.cells=true
 | [],_,k,x,h=>by simp at h
 | none::r,hs,k,x,h=>by
  unfold w8 at hs;cases k with
  | zero=>simp at h
  | succ k=>exact Ax hs k x (by simpa using h)
 | some y::r,hs,k,x,h=>by
  unfold w8 at hs;cases hy:yC m y.cells with
  | false=>rw[hy] at hs;cases hs
  | true=>
   rw[hy] at hs;cases k with
   | zero=>simp at h;subst h;exact hy
   | succ k=>exact Ax hs k x (by simpa using h)
def oD:List (Option Bx)→List (Option Bx)→Prop
 | _,[]=>True
 | x::B,y::B'=>x=y∧oD B B'
 | [],_::_=>False
theorem oD.eq:∀{B B':List (Option Bx)},oD B B'→∃G,B=B'++G
 | B,[],_=>⟨B,rfl⟩
 | x::B,y::B',h=>by
  obtain⟨rfl,h⟩:=h;obtain⟨G,rfl⟩:=oD.eq h;exact⟨G,rfl⟩
 | [],_::_,h=>h.elim
theorem aF.fewer{L0 R0:LH}{β:Nm}{B B':List (Option Bx)}{L R:LH}(h:aF L0 R0 β (B++B') L R)(hs:w8 B.length B=true):aF L0 R0 (β.upto B.length) B L R:=
 ⟨fun k k' b h1 h2=>h.inj k k' b (Nm.jB h1).2 (Nm.jB h2).2,fun k b h1=>(Nm.jB h1).1,fun k b h1=>h.al k b (Nm.jB h1).2,fun k b x hk hx=>by
  obtain⟨aU,hk⟩:=Nm.jB hk;obtain⟨h1,h2,cs,h3,h4⟩:=h.box k b x hk (by rw[List.getElem?_append_left aU];exact hx);exact⟨h1,h2,cs,ry (Ax hs k x hx) h3,h4⟩,h.le,h.keep,h.fresh,h.gP⟩
theorem W.cG{E':Env}{B':List (Option Bx)}(hE:gk E E')(hB:oD B B')(w:W C n ds k E' B' L)(h1:vE B'.length E'=true:=by rfl)(h2:w8 B'.length B'=true:=by rfl):W C n ds k E B L:=by
 obtain⟨G,rfl⟩:=hB.eq;intro T R β hT lH hH;exact w T R _ hT (fun s x hx=>rZ (ru h1 s x hx) (lH s x (hE.get s x hx))) (hH.fewer h2)
theorem W.again{E':Env}{B':List (Option Bx)}(w:W C n ds k E' B' L)(hE:gk E E')(hB:oD B B')(h1:vE B'.length E'=true:=by rfl)(h2:w8 B'.length B'=true:=by rfl):W C n ds k E B L:=W.cG hE hB w h1 h2
theorem W.loop{c:Code}(I:Nat→Env→List (Option Bx)→LH→Prop){m:Nat}{E':Env}{B':List (Option Bx)}(h0:I m E' B' L)(hE:gk E E')(hB:oD B B')
  (h:∀m E B L,I m E B L→(∀m' E' B' L',m'<m→I m' E' B' L'→W C n ds (.inLoop c::k) E' B' L')→W C n ds (.code c::.inLoop c::k) E B L)(h1:vE B'.length E'=true:=by rfl)(h2:w8 B'.length B'=true:=by rfl):W C n ds (.code (.loop c)::k) E B L:=by
 have key:∀m E B L,I m E B L→W C n ds (.code c::.inLoop c::k) E B L:=by
  intro m
  induction m using Nat.strongRecOn with
  | ind m ih=>exact fun E B L hI=>h m E B L hI fun m' E' B' L' hm wD T R β hT hE hH=>C.X.inLoop (ih m' hm E' B' L' wD T R β hT hE hH)
 refine W.cG hE hB ?_ h1 h2;exact fun T R β hT hE hH=>C.X.loop (key m E' B' L h0 T R β hT hE hH)
end
def mG(P:Program)(f:FuncId):Prop:=∃fn:Func,P.funcs[f]?=some fn∧(fn.name== "runtime.NumGoroutine")=false∧fn.body.isNone=false
structure Post(L R:LH)(L' R':LH):Prop where
 le:Le L' R'
 keep:∀b x,L b=none→R b=some x→R' b=some x
 fresh:∀b,L' b≠none→L b≠none∨R b=none
 gP:∀b,L b≠none→L' b≠none
def Sp{P:Program}(X:ax P)(f:FuncId)(args:List Value)(L:LH)(Q:Value→LH→Prop)(H:List PanicEntry→LH→Prop:=fun _ _=>False):Prop:=
 mG P f∧∀R,Le L R→Fn X f args.toArray R (fun v R'=>∃L',Q v L'∧Post L R L' R') (fun ch R'=>∃L',H ch L'∧Post L R L' R')
theorem Sp.mono{P:Program}{X:ax P}{f:FuncId}{args:List Value}{L:LH}{Q Q':Value→LH→Prop}{H H':List PanicEntry→LH→Prop}(h:Sp X f args L Q H)(hq:∀v L',Q v L'→Q' v L')(hh:∀c L',H c L'→H' c L'):Sp X f args L Q' H':=
 ⟨h.1,fun R hR=>(h.2 R hR).mono (fun _ _ ⟨L',h1,h2⟩=>⟨L',hq _ _ h1,h2⟩) (fun _ _ ⟨L',h1,h2⟩=>⟨L',hh _ _ h1,h2⟩)⟩
structure Rt{P:Program}(C:Cx P)(fn:Func)(Q:Value→LH→Prop)(H:List PanicEntry→LH→Prop:=fun _ _=>False):Prop where
 fn:P.funcs[C.f]?=some fn
 ro:C.ro=none
 kd:C.kd=.normal∨C.kd=.wrapped
 cs:∃c cs,C.cs=c::cs∧(∀v R' L',Q v L'→Post C.L0 C.R0 L' R'→C.X.Go (G (c.finish v) cs) R')∧(∀ch R' L',H ch L'→Post C.L0 C.R0 L' R'→C.X.Go (G (c.raise ch) cs) R')
section
variable {P:Program}{τ:TT}{n:Nat}{ds:List Deferred}{k:List Item}{E:Env}{B:List (Option Bx)}{L:LH}
def mo:Nat→List Value→Env
 | _,[]=>[]
 | i,v::vs=>(i,.v v)::mo (i+1) vs
theorem jE:∀{vs:List Value} {i s:Nat} {x:SV},get (mo i vs) s=some x→i≤s∧∃v,vs[s - i]?=some v∧x=.v v
 | [],_,_,_,h=>by cases h
 | v::vs,i,s,x,h=>by
  unfold mo at h;rw[bD] at h
  by_cases e:i=s
  ·subst e;rw[if_pos rfl] at h;cases h;exact⟨Nat.le_refl _,v,by simp,rfl⟩
  ·rw[if_neg e] at h;obtain⟨h1,u,h2,h3⟩:=jE h;exact⟨by omega,u,by rw[show s - i=(s - (i+1))+1 by omega];simpa using h2,h3⟩
theorem Sp.enter{X:ax P}{f:FuncId}{fn:Func}{body:Code}{args:List Value}{Q:Value→LH→Prop}{H:List PanicEntry→LH→Prop}(hf:P.funcs[f]?=some fn)(hb:fn.body=some body)(hn:(fn.name== "runtime.NumGoroutine")=false)(hz:fn.ntmps=n)(hle:Nat.ble args.length n=true)
  (h:∀C:Cx P,C.X=X→C.f=f→C.L0=L→Rt C fn Q H→W C n [] [.code body] (mo 0 args) [] L):Sp X f args L Q H:=by
 refine⟨⟨fn,hf,hn,by rw[hb];rfl⟩,fun R hR=>Fn.enter hf hb fun T kd c cs hT hk h1 h2=>?_⟩;have ed:T.size=n:=Ia hT hz (by simpa using Nat.le_of_ble_eq_true hle);refine h ⟨X,f,kd,none,c::cs,L,R⟩ rfl rfl rfl ⟨hf,rfl,hk,c,cs,rfl,fun v R' L' hq hp=>h1 v R' ⟨L',hq,hp⟩,fun ch R' L' hq hp=>h2 ch R' ⟨L',hq,hp⟩⟩ T R dr ed ?_ ⟨(fun _ _ _ h=>by cases h),(fun _ _ h=>by cases h),(fun _ _ h=>by cases h),(fun k b x hk=>by cases hk),hR,fun b x _ h=>h,fun b hb=>.inl hb,fun b hb=>hb⟩;intro s x hx;obtain⟨_,v,h3,rfl⟩:=jE hx;rw[den,Ib (j:=s) hT (v:=v) (by simpa using h3)]
variable {C:Cx P}
theorem aF.post{β:Nm}{R:LH}(h:aF C.L0 C.R0 β B L R):Post C.L0 C.R0 L R:=⟨h.le,h.keep,h.fresh,h.gP⟩
theorem aF.call{L0 R0:LH}{β:Nm}{B:List (Option Bx)}{L R L' R':LH}(h:aF L0 R0 β B L R)(p:Post L R L' R'):aF L0 R0 β B L' R' where
 inj:=h.inj
 dm:=h.dm
 al:=fun k b hk=>by
  have h1:=h.al k b hk;cases hL:L b with
  | none=>
   cases hR:R b with
   | none=>exact absurd hR h1
   | some y=>rw[p.keep b y hL hR];simp
  | some y=>
   have:=p.gP b (by rw[hL];simp);cases ID:L' b with
   | none=>exact absurd ID this
   | some z=>rw[p.le _ _ ID];simp
 box:=fun k b x hk hx=>by
  obtain⟨h1,h2,cs,h3,h4⟩:=h.box k b x hk hx;have h5:=p.keep b _ h1 h4;refine⟨?_,h2,cs,h3,h5⟩;cases hL:L' b with
  | none=>rfl
  | some y=>
   rcases p.fresh b (by rw[hL];simp) with e | e
   ·exact absurd h1 e
   ·rw[h4] at e;cases e
 le:=p.le
 keep:=fun b x h1 h2=>by
  have h3:=h.keep b x h1 h2;have h4:L b=none:=by
   cases hL:L b with
   | none=>rfl
   | some y=>
    rcases h.fresh b (by rw[hL];simp) with e | e
    ·exact absurd h1 e
    ·rw[h2] at e;cases e
  exact p.keep b x h4 h3
 fresh:=fun b hb=>by
  rcases p.fresh b hb with e | e
  ·exact h.fresh b e
  ·exact .inr (h.free e).2
 gP:=fun b hb=>p.gP b (h.gP b hb)
def o8(τ:TT)(E:a8)(B:List (Option Bx)):List ResultVar→Option (List SV)
 | []=>some []
 | .tmp t::r=>match E t,o8 τ E B r with | some x,some l=>some (x::l) | _,_=>none
 | .cell a t::r=>match m8 τ E B t (.tmp a),o8 τ E B r with | some x,some l=>some (x::l) | _,_=>none
def o9:List Value→Value
 | [v]=>v
 | l=>.tuple l.toArray
theorem Fb{P:Program}{T:Array Value}{t:TypeId}{a:Tmp}{v:Value}{Q:Value→LH→Prop}{H:Value→LH→Prop}{R:LH}(hv:∀ty,aR P (.load t (.tmp a)) ty T R v)(ha:∃ad,T.getD a undef=.pointer (some ad))(hq:Q v R):az P Q H (do loadVar t (←asAddr (T.getD a undef))) R:=by
 obtain⟨ad,ha⟩:=ha;have h:=hv 0 none "" #[] none (fun nx L'=>match nx with | .value u=>Q u L' | _=>False) H hq;have he:ev T (.tmp a)=.pointer (some ad):=ha;simp only[execOp,he] at h;rw[ae] at h;unfold Instr.loadAt at h;rw[ae] at h;simp only[Instr.sureAddr,ar] at h;rw[ae,ha];exact h
theorem vD{β:Nm}{E:a8}{B:List (Option Bx)}{T:Array Value}{g:ResultVar→Sem Value}(dw:τ.Ok P)(hg:∀t,g (.tmp t)=pure (T.getD t undef))(oS:∀a t,g (.cell a t)=(do loadVar t (←asAddr (T.getD a undef)))){Q:List Value→LH→Prop}{H:Value→LH→Prop}{R:LH}(hE:aH β E T)(hB:nU β B R):
  ∀{rs:List ResultVar} {jl:List SV} {vs:List Value},o8 τ E B rs=some jl→bC β jl=some vs→Q vs R→az P Q H (rs.mapM g) R
 | [],jl,vs,h,hv,hq=>by cases h;cases hv;exact hq
 | .tmp t::r,jl,vs,h,hv,hq=>by
  unfold o8 at h;cases h1:E t with
  | none=>rw[h1] at h;cases h
  | some x=>
   cases h2:o8 τ E B r with
   | none=>rw[h1,h2] at h;cases h
   | some l=>
    rw[h1,h2] at h;cases h;obtain⟨v,ws,e1,e2,rfl⟩:=eX hv;have:=hE t x h1;rw[e1] at this;cases this;rw[List.mapM_cons,ae,hg,ar,ae];exact vD dw hg oS hE hB h2 e2 hq
 | .cell a t::r,jl,vs,h,hv,hq=>by
  unfold o8 at h;cases h1:m8 τ E B t (.tmp a) with
  | none=>rw[h1] at h;cases h
  | some x=>
   cases h2:o8 τ E B r with
   | none=>rw[h1,h2] at h;cases h
   | some l=>
    rw[h1,h2] at h;cases h;obtain⟨v,ws,e1,e2,rfl⟩:=eX hv;obtain⟨v',d1,d2⟩:=rz dw hE hB h1;rw[e1] at d1;cases d1;have hp:∃ad,T.getD a undef=.pointer (some ad):=by
     unfold m8 at h1
     split at h1
     ·rename_i k off hx;obtain⟨b,hb,hv⟩:=lV (hE.val hx);exact⟨_,hv⟩
     ·cases h1
    rw[List.mapM_cons,ae,oS];refine Fb d2 hp ?_;rw[ae];exact vD dw hg oS hE hB h2 e2 hq
theorem W.So(dw:τ.Ok P){fn:Func}{Q:Value→LH→Prop}{H:List PanicEntry→LH→Prop}{jl:List SV}{vs:List Value}(r:Rt C fn Q H)(hk:k=[]∨∃k',k=.code .ret::k')(hs:o8 τ (get E) B fn.results.toList=some jl)(hv:bC dr jl=some vs)(hq:Q (o9 vs) L):W C n [] k E B L:=by
 intro T R β hT hE hH;obtain⟨hf,bE,aM,c,cs,il,h1,_⟩:=r;rw[bE,il];have key:∀k,C.X.Go (G (Fr C.f T k [] .returning C.kd none) (c::cs)) R:=fun k=>by
  refine C.X.leave hf aM ?_;unfold results;rw[ae,Array.mapM_eq_mapM_toList,←bind_pure_comp,ae];refine vD dw (fun t=>rfl) (fun a t=>rfl) hE hH.boxes hs (oI hv β) ?_;simp only[ar];have e:(if h:vs.toArray.size=1 then vs.toArray[0] else Value.tuple vs.toArray)=o9 vs:=by
   match vs with
   | []=>rfl
   | [v]=>rfl
   | _::_::_=>rfl
  rw[e];exact h1 _ _ _ hq hH.post
 rcases hk with rfl | ⟨k',rfl⟩
 ·exact C.X.ending (key _)
 ·exact C.X.ret (key _)
end
def qL(m:Region.Mode):List Edge→Nat
 | []=>0
 | e::r=>match Region.binds m e with | true=>Nat.lor (Nat.shiftLeft 1 e.on) (qL m r) | false=>qL m r
def tY(m:Region.Mode):List Oper→List Nat
 | []=>[]
 | o::r=>qL m o.after.toList::tY m r
def wX:List Nat→Nat→Nat→Nat
 | [],_,seen=>seen
 | d::r,i,seen=>match Nat.testBit seen i,Nat.beq (Nat.land d seen) d with
  | false,true=>wX r (i+1) (Nat.lor seen (Nat.shiftLeft 1 i))
  | _,_=>wX r (i+1) seen
def rW(ds:List Nat):Nat→Nat→Nat
 | 0,seen=>seen
 | n+1,seen=>match Nat.beq (wX ds 0 seen) seen with
  | true=>seen
  | false=>rW ds n (wX ds 0 seen)
def PQ(n seen:Nat):Bool:=Nat.beq seen (Nat.shiftLeft 1 n - 1)
def Ag(m:Region.Mode)(ops:List Oper):Bool:=PQ ops.length (rW (tY m ops) 8 0)
theorem zs{m:Region.Mode}:∀{l:List Edge} {e:Edge},e∈l→Region.binds m e=true→(qL m l).testBit e.on=true
 | [],e,h,_=>by cases h
 | x::l,e,h,hb=>by
  unfold qL;rcases List.mem_cons.1 h with rfl | h
  ·rw[hb];show(Nat.shiftLeft 1 e.on||| qL m l).testBit e.on=true;rw[Nat.testBit_or];have:(Nat.shiftLeft 1 e.on).testBit e.on=true:=by
    show(1<<<e.on).testBit e.on=true;rw[Nat.one_shiftLeft,Nat.testBit_two_pow_self]
   rw[this];rfl
  ·have ih:=zs h hb;cases Region.binds m x with
   | false=>exact ih
   | true=>
    show(Nat.shiftLeft 1 x.on||| qL m l).testBit e.on=true;rw[Nat.testBit_or,ih,Bool.or_true]
theorem zY{m:Region.Mode}:∀{l:List Oper} {i:Nat} {o:Oper},l[i]?=some o→(tY m l)[i]?=some (qL m o.after.toList)
 | [],i,o,h=>by simp at h
 | x::l,0,o,h=>by simp at h;subst h;rfl
 | x::l,i+1,o,h=>by
  show(tY m l)[i]?=_;exact zY (by simpa using h)
def y8(ds:List Nat)(seen:Nat):Prop:=∃(rk:Nat→Nat) (t:Nat),∀i,seen.testBit i=true→rk i<t∧∃d,ds[i]?=some d∧∀j,d.testBit j=true→seen.testBit j=true∧rk j<rk i
theorem wY{ds:List Nat}:∀{l:List Nat} {i seen:Nat},(∀k d,l[k]?=some d→ds[i+k]?=some d)→y8 ds seen→y8 ds (wX l i seen)
 | [],_,_,_,h=>h
 | d::r,i,seen,hl,h=>by
  have hr:∀k d',r[k]?=some d'→ds[i+1+k]?=some d':=fun k d' hk=>by
   rw[show i+1+k=i+(k+1) by omega];exact hl (k+1) d' (by simpa using hk)
  unfold wX
  split
  ·rename_i h1 h2;refine wY hr ?_;have h2:=Nat.eq_of_beq_eq_true h2;obtain⟨rk,t,hk⟩:=h;have Qk:∀j,(seen||| (1<<<i)).testBit j=(seen.testBit j||decide (j=i)):=fun j=>by
    rw[Nat.testBit_or,Nat.one_shiftLeft]
    congr 1
    by_cases e:i=j
    ·subst e;simp
    ·rw[Nat.testBit_two_pow_of_ne e];simp[Ne.symm e]
   refine⟨fun j=>if j=i then t else rk j,t+1,fun j hj=>?_⟩
   change (seen||| (1<<<i)).testBit j=true at hj
   rw[Qk] at hj
   by_cases e:j=i
   ·subst e;simp only[if_true];refine⟨by omega,d,by simpa using hl 0 d rfl,fun j' dL=>?_⟩;have hs:seen.testBit j'=true:=by
     have:=congrArg (fun n=>n.testBit j') h2
     change (d&&& seen).testBit j'=d.testBit j' at this
     rw[Nat.testBit_and,dL] at this
     simpa using this
    have aY:j'≠j:=fun e=>by subst e;rw[h1] at hs;cases hs
    refine⟨by change (seen||| (1<<<j)).testBit j'=true;rw[Qk,hs];rfl,?_⟩;simp only[aY,if_false];exact(hk j' hs).1
   ·simp only[e,decide_false,Bool.or_false] at hj;obtain⟨g1,d',g2,g3⟩:=hk j hj;refine⟨by simp only[e,if_false];omega,d',g2,fun j' dL=>?_⟩;obtain⟨g4,g5⟩:=g3 j' dL;have aY:j'≠i:=fun e=>by subst e;rw[h1] at g4;cases g4
    refine⟨by change (seen||| (1<<<i)).testBit j'=true;rw[Qk,g4];rfl,?_⟩;simp only[e,aY,if_false];exact g5
  ·exact wY hr h
theorem Ak{ds:List Nat}:∀{n seen:Nat},y8 ds seen→y8 ds (rW ds n seen)
 | 0,_,h=>h
 | n+1,seen,h=>by
  unfold rW
  split
  ·exact h
  ·exact Ak (wY (fun k d hk=>by simpa using hk) h)
theorem wU{m:Region.Mode}{ops:Array Oper}(h:Ag m ops.toList=true):∃rk,lB m ops rk=true:=by
 unfold Ag PQ at h;have h:=Nat.eq_of_beq_eq_true h;obtain⟨rk,t,hk⟩:y8 (tY m ops.toList) (rW (tY m ops.toList) 8 0):=Ak ⟨fun _=>0,0,fun i hi=>by simp at hi⟩;have hf:∀i,(rW (tY m ops.toList) 8 0).testBit i=decide (i<ops.size):=fun i=>by
  rw[h];show((1<<<ops.toList.length) - 1).testBit i=_;rw[Nat.one_shiftLeft,Nat.testBit_two_pow_sub_one,Array.length_toList]
 refine⟨rk,?_⟩;unfold lB;rw[List.all_eq_true];intro i hi;have aU:=List.mem_range.1 hi;obtain⟨_,d,h1,h2⟩:=hk i (by rw[hf];simpa using aU);cases ho:ops[i]? with
 | none=>rfl
 | some o=>
  simp only;rw[List.all_eq_true];intro e he;cases hb:Region.binds m e with
  | false=>rfl
  | true=>
   rw[zY (o:=o) (by rw[Array.getElem?_toList];exact ho)] at h1;cases h1;obtain⟨g1,g2⟩:=h2 e.on (zs he hb);rw[hf] at g1;simp only[Bool.not_true,Bool.false_or,Bool.and_eq_true,decide_eq_true_eq];exact⟨g2,by simpa using g1⟩
def FI(n:Nat):List Oper→Nat→Bool
 | [],_=>true
 | o::r,seen=>match o.dst with
  | none=>FI n r seen
  | some d=>match Nat.testBit seen d,Nat.blt d n with
   | false,true=>FI n r (Nat.lor seen (Nat.shiftLeft 1 d))
   | _,_=>false
theorem zr{n:Nat}:∀{l:List Oper} {seen:Nat},FI n l seen=true→(∀(i d:Nat),(l[i]?).bind (·.dst)=some d→d<n∧seen.testBit d=false)∧∀(i j d:Nat),(l[i]?).bind (·.dst)=some d→(l[j]?).bind (·.dst)=some d→i=j
 | [],_,_=>⟨fun i d h=>by simp at h,fun i j d h=>by simp at h⟩
 | o::r,seen,h=>by
  unfold FI at h;have bit:∀d j,(seen||| (1<<<d)).testBit j=(seen.testBit j||decide (j=d)):=fun d j=>by
   rw[Nat.testBit_or,Nat.one_shiftLeft]
   congr 1
   by_cases e:d=j
   ·subst e;simp
   ·rw[Nat.testBit_two_pow_of_ne e];simp[Ne.symm e]
  split at h
  ·rename_i hd;obtain⟨h1,h2⟩:=zr h;refine⟨fun i d hi=>?_,fun i j d hi hj=>?_⟩
   ·cases i with
    | zero=>simp[hd] at hi
    | succ i=>exact h1 i d (by simpa using hi)
   ·cases i with
    | zero=>simp[hd] at hi
    | succ i=>
     cases j with
     | zero=>simp[hd] at hj
     | succ j=>rw[h2 i j d (by simpa using hi) (by simpa using hj)]
  ·rename_i d0 hd
   split at h
   ·rename_i g1 g2;obtain⟨h1,h2⟩:=zr h;have Uy:∀(i d:Nat),(r[i]?).bind (·.dst)=some d→d<n∧seen.testBit d=false∧d≠d0:=fun i d hi=>by
     obtain⟨a,b⟩:=h1 i d hi
     change (seen||| (1<<<d0)).testBit d=false at b
     rw[bit] at b;simp only[Bool.or_eq_false_iff,decide_eq_false_iff_not] at b;exact⟨a,b⟩
    refine⟨fun i d hi=>?_,fun i j d hi hj=>?_⟩
    ·cases i with
     | zero=>
      simp[hd] at hi;subst hi;exact⟨Nat.le_of_ble_eq_true g2,g1⟩
     | succ i=>exact⟨(Uy i d (by simpa using hi)).1,(Uy i d (by simpa using hi)).2.1⟩
    ·cases i with
     | zero=>
      cases j with
      | zero=>rfl
      | succ j=>
       simp[hd] at hi;subst hi;exact absurd rfl (Uy j _ (by simpa using hj)).2.2
     | succ i=>
      cases j with
      | zero=>
       simp[hd] at hj;subst hj;exact absurd rfl (Uy i _ (by simpa using hi)).2.2
      | succ j=>rw[h2 i j d (by simpa using hi) (by simpa using hj)]
   ·cases h
def VF(ops:Array Oper)(n:Nat):Bool:=match Ag .any ops.toList,Ag .text ops.toList,Ag .gc ops.toList with
 | true,true,true=>FI n ops.toList 0
 | _,_,_=>false
theorem VG{ops:Array Oper}{n:Nat}(h:VF ops n=true):(∃r1,lB .any ops r1=true)∧(∃r2,lB .text ops r2=true)∧(∃r3,lB .gc ops r3=true)∧fP ops=true∧rL ops n=true:=by
 unfold VF at h
 split at h
 ·rename_i h1 h2 h3;obtain⟨g1,g2⟩:=zr h;have conv:∀i,cq ops i=(ops.toList[i]?).bind (·.dst):=fun i=>by unfold cq;rw[Array.getElem?_toList]
  refine⟨wU h1,wU h2,wU h3,?_,?_⟩
  ·unfold fP;rw[List.all_eq_true];intro i _;rw[List.all_eq_true];intro j _;rw[conv,conv];cases hi:(ops.toList[i]?).bind (·.dst) with
   | none=>simp
   | some d=>
    cases hj:(ops.toList[j]?).bind (·.dst) with
    | none=>simp
    | some d'=>
     by_cases e:d=d'
     ·subst e;simp[g2 i j d hi hj]
     ·simp[e]
  ·unfold rL;rw[List.all_eq_true];intro i _;rw[conv];cases hi:(ops.toList[i]?).bind (·.dst) with
   | none=>rfl
   | some d=>simpa using (g1 i d hi).1
 ·cases h
end Go.Mz
