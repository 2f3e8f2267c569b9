/- Lemmas on which the claim leans. -/
import Derived.Test.YtjhpkghkgaekcaaGreatDoorMzAo
import Derived.Conc.LockTrace
namespace Go.Mz
open Go.Conc Go.ConcN
open Go.ConcR (KK wgBlock WgAt stA smA rd wr mk Payload Aside2 DC0 Bk bk_of_mute)
structure aQ where
 P:Program
 ty:Nat
 W:Nat
 X:Nat
 xo:Int→Int→Obj
 ma:Addr
 ms:Addr
 N:Nat
 B:Nat
 v0:Value
 n:Nat
 base:Nat
 len:Nat
 ob:List Nat→Obj
 keep:Nat→Bool
def aQ.mu(b:aQ)(l:Loc):Prop:=l=.cell b.ma∨l=.cell b.ms
def aQ.Pt(b:aQ)(size:Nat)(i:Nat):Prop:=i=0∨(b.base≤i∧i<size)
def aQ.At(b:aQ)(l:Loc):Prop:=cU l=some b.W∨cU l=some b.N∨b.mu l
def aQ.Tz(b:aQ)(x:Nat)(y:Touch):Prop:=
 (y.kind=.atomic∧b.At y.loc)∨(y.kind=.said∧y.loc=.cell (smA b.W)∧x=0)∨(y.kind=.plain∧y.write=false∧cU y.loc=some b.X∧¬b.mu y.loc)
structure aQ.Ok(b:aQ)(S0:Nat→Prop):Prop where
 wn:b.W≠b.N
 wx:b.W≠b.X
 wb:b.W≠b.B
 nx:b.N≠b.X
 nb:b.N≠b.B
 xb:b.X≠b.B
 ma:b.ma.block=b.X
 ms:b.ms.block=b.X
 s0:¬S0 b.B
 s0X:¬S0 b.X
 xm:∀st sm,∃c e fz,b.xo st sm=.cells c e fz∧b.ma.spot=none∧c[b.ma.off]?=some (.int .i32 st)∧b.ms.spot=none∧c[b.ms.off]?=some (.int .u32 sm)∧c[0]?=some b.v0∧2≤c.size
structure jd(b:aQ)(S0:Nat→Prop)(n0 size:Nat)(Ls:Nat→LH)(Sh:Nat→Prop)(o:Option Nat)(w:World)(t:Trace):Prop where
 res:ye Ls Sh (fun x=>x=b.W∨x=b.N) (b.Pt size) w t
 vH:Sh b.X
 AJ:Sh b.W
 BM:Sh b.N
 NX:∀x,S0 x→Sh x
 AI:Sh b.B
 sS:∀g,o=some g→b.Pt size g∧∀idx a,touchAt t idx=some a→cU a.loc=some b.B→Knows t g idx
 Ol:∀idx a,touchAt t idx=some a→b.mu a.loc→a.kind=.plain→∀i,b.Pt size i→Knows t i idx
 Om:∀idx a,touchAt t idx=some a→cU a.loc=some b.X→¬b.mu a.loc→(a.write=true∨a.kind≠.plain)→∀i,b.Pt size i→Knows t i idx
 tok:o=none→∀idx a,touchAt t idx=some a→cU a.loc=some b.B→(∀i,b.Pt size i→Knows t i idx)∨∃p,n0≤p∧t.act? p=some (.mark (.releaseMerge b.ma))∧t.heard p∧Before t idx p
 said:∀idx a,touchAt t idx=some a→a.loc=.cell (smA b.W)→a.kind=.said→Knows t 0 idx
 len:n0≤t.size
 known:∀i a x,i<n0→touchAt t i=some a→cU a.loc=some x→Knows t 0 i∨(S0 x∧a.kind=.atomic)
 over:∀i g,i<n0→t.g? i=some g→g≠0→t.counts i→∃j,t.g? j=some 0∧HappensBefore t i j
 Of:∀i op,n0≤i→t[i]?=some op→op.act.touch?≠none→b.Pt size op.g
 norel:∀i,n0≤i→t.act? i≠some (.mark (.release (stA b.W)))
 rV:∀i,n0≤i→t.act? i≠some (.mark (.release b.ma))
 OZ:∀i a x,n0≤i→touchAt t i=some a→a.kind≠.plain→cU a.loc=some x→b.At a.loc
def BS(W:Nat)(t:Trace)(k r:Nat):Prop:=RelBy (stA W) t k r∧∀i op y,r<i→t[i]?=some op→op.g=k→op.act.touch?=some y→cU y.loc=some W
theorem BS.app{W:Nat}{t u:Trace}{k r:Nat}(h:BS W t k r)(hr:RelBy (stA W) (t++u) k r)(hu:∀op∈u,op.g=k→∀y,op.act.touch?=some y→cU y.loc=some W):BS W (t++u) k r:=by
 refine⟨hr,fun i op y hi ho hg hy=>?_⟩;rcases getElem?_append_cases ho with⟨_,bO⟩ | ⟨_,pJ⟩
 ·exact h.2 i op y hi bO hg hy
 ·exact hu op pJ hg y hy
section
variable {b:aQ}{S0:Nat→Prop}{n0 size:Nat}{Ls:Nat→LH}{Sh:Nat→Prop}{o:Option Nat}{w w':World}{t u:Trace}
theorem aQ.At.blk(hb:b.Ok S0){l:Loc}(h:b.At l):∃x,cU l=some x∧(x=b.W∨x=b.N∨(x=b.X∧b.mu l)):=by
 rcases h with h | h | h
 ·exact⟨_,h,.inl rfl⟩
 ·exact⟨_,h,.inr (.inl rfl)⟩
 ·refine⟨b.X,?_,.inr (.inr ⟨rfl,h⟩)⟩;rcases h with rfl | rfl
  ·rw[←hb.ma];rfl
  ·rw[←hb.ms];rfl
theorem aQ.Tz.blk(hb:b.Ok S0){x:Nat}{y:Touch}(h:b.Tz x y):∃z,cU y.loc=some z∧(z=b.W∨z=b.N∨z=b.X):=by
 rcases h with⟨_,h⟩ | ⟨_,h,_⟩ | ⟨_,_,h,_⟩
 ·obtain⟨z,h1,h2⟩:=h.blk hb;exact⟨z,h1,h2.imp id (·.imp id (·.1))⟩
 ·exact⟨b.W,by rw[h];rfl,.inl rfl⟩
 ·exact⟨_,h,.inr (.inr rfl)⟩
theorem ye.app{Am Pt:Nat→Prop}(h:ye Ls Sh Am Pt w t)(hw:oz Sh w w')(ht:∀op∈u,∀y,op.act.touch?=some y→∃x,cU y.loc=some x∧Sh x∧(y.kind=.plain→¬Am x))(jR:∀said,¬Race said (t++u)):ye Ls Sh Am Pt w' (t++u):=by
 refine⟨fun j x z wr hx=>?_,h.apart,h.sh,fun x hx=>by rw[hw.1];exact h.nQ x hx,fun j idx a x z wr ha hx Zw BG=>?_,fun idx a x ha hx=>?_,jR,h.uF,fun idx a x ha hx hs hp j hj=>?_⟩
 ·rw[hw.2 x (fun hs=>by rw[h.sh j x hs] at hx;cases hx)];exact h.sub j x z wr hx
 ·obtain⟨y,hy,qW⟩:=touch_of ha;rcases getElem?_append_cases hy with⟨_,oW⟩ | ⟨_,wK⟩
  ·exact(h.q9 j idx a x z wr (by rw[touchAt_of oW];exact qW) hx Zw BG).app _
  ·obtain⟨x',h1,h2,_⟩:=ht y wK a qW;rw[hx] at h1;cases h1;rw[h.sh j x h2] at Zw;cases Zw
 ·rw[hw.1];obtain⟨y,hy,qW⟩:=touch_of ha;rcases getElem?_append_cases hy with⟨_,oW⟩ | ⟨_,wK⟩
  ·exact h.seen idx a x (by rw[touchAt_of oW];exact qW) hx
  ·obtain⟨x',h1,h2,_⟩:=ht y wK a qW;rw[hx] at h1;cases h1;exact h.nQ x h2
 ·obtain⟨y,hy,qW⟩:=touch_of ha;rcases getElem?_append_cases hy with⟨_,oW⟩ | ⟨_,wK⟩
  ·exact(h.atomic idx a x (by rw[touchAt_of oW];exact qW) hx hs hp j hj).app _
  ·obtain⟨x',h1,_,h3⟩:=ht y wK a qW;rw[hx] at h1;cases h1;exact absurd hs (h3 hp)
theorem jd.app0(hb:b.Ok S0)(h:jd b S0 n0 size Ls Sh o w t)(hw:oz Sh w w')(jR:∀said,¬Race said (t++u))(hc:∀op∈u,∀y,op.act.touch?=some y→b.Pt size op.g∧b.Tz op.g y)
  (hr:∀op∈u,op.act≠.mark (.release (stA b.W))∧op.act≠.mark (.release b.ma)):jd b S0 n0 size Ls Sh o w' (t++u):=by
 have split:∀{idx:Nat} {a:Touch},touchAt (t++u) idx=some a→touchAt t idx=some a∨∃op,(t++u)[idx]?=some op∧op∈u∧op.act.touch?=some a:=by
  intro idx a ha;obtain⟨y,hy,qW⟩:=touch_of ha;rcases getElem?_append_cases hy with⟨_,oW⟩ | ⟨_,wK⟩
  ·exact .inl (by rw[touchAt_of oW];exact qW)
  ·exact .inr ⟨y,hy,wK,qW⟩
 refine⟨h.res.app hw (fun op ho y hy=>?_) jR,h.vH,h.AJ,h.BM,h.NX,h.AI,fun g hg=>⟨(h.sS g hg).1,fun idx a ha hx=>?_⟩,fun idx a ha hm hp i hi=>?_,fun idx a ha hx hm hp i hi=>?_,fun ho idx a ha hx=>?_,fun idx a ha hl hk=>?_,?_,fun i a x hi ha hx=>?_,fun i g hi hg aY Ec=>?_,fun i op hi ho ht=>?_,fun i hi ha=>?_,fun i hi ha=>?_,fun i a x hi ha hk hx=>?_⟩
 ·obtain⟨_,h2⟩:=hc op ho y hy;obtain⟨z,h3,h4⟩:=h2.blk hb;refine⟨z,h3,?_,fun hp hz=>?_⟩
  ·rcases h4 with rfl | rfl | rfl
   ·exact h.AJ
   ·exact h.BM
   ·exact h.vH
  ·rcases h2 with⟨h5,_⟩ | ⟨h5,_⟩ | ⟨_,_,h5,_⟩
   ·rw[h5] at hp;cases hp
   ·rw[h5] at hp;cases hp
   ·rw[h5] at h3;cases h3;rcases hz with e | e
    ·exact hb.wx e.symm
    ·exact hb.nx e.symm
 ·rcases split ha with h1 | ⟨op,_,h2,h3⟩
  ·exact((h.sS g hg).2 idx a h1 hx).app _
  ·obtain⟨z,h4,h5⟩:=(hc op h2 a h3).2.blk hb;rw[hx] at h4;cases h4;rcases h5 with e | e | e
   ·exact absurd e.symm hb.wb
   ·exact absurd e.symm hb.nb
   ·exact absurd e.symm hb.xb
 ·rcases split ha with h1 | ⟨op,_,h2,h3⟩
  ·exact(h.Ol idx a h1 hm hp i hi).app _
  ·rcases(hc op h2 a h3).2 with⟨h5,_⟩ | ⟨h5,_⟩ | ⟨_,_,_,h5⟩
   ·rw[h5] at hp;cases hp
   ·rw[h5] at hp;cases hp
   ·exact absurd hm h5
 ·rcases split ha with h1 | ⟨op,_,h2,h3⟩
  ·exact(h.Om idx a h1 hx hm hp i hi).app _
  ·rcases(hc op h2 a h3).2 with⟨_,h5⟩ | ⟨_,h5,_⟩ | ⟨h5,h6,_,_⟩
   ·obtain⟨z,h6,h7⟩:=h5.blk hb;rw[hx] at h6;cases h6;rcases h7 with e | e | e
    ·exact absurd e.symm hb.wx
    ·exact absurd e.symm hb.nx
    ·exact absurd e.2 hm
   ·rw[h5] at hx;exact absurd (Option.some.inj hx) hb.wx
   ·rcases hp with e | e
    ·rw[h6] at e;cases e
    ·exact absurd h5 e
 ·rcases split ha with h1 | ⟨op,_,h2,h3⟩
  ·rcases h.tok ho idx a h1 hx with hk | ⟨p,Em,h4,h5,h6⟩
   ·exact .inl fun i hi=>(hk i hi).app _
   ·have hp:=lt_of_act? h4;exact .inr ⟨p,Em,by rw[act?_old hp];exact h4,(heard_old hp).2 h5,h6.app _⟩
  ·obtain⟨z,h4,h5⟩:=(hc op h2 a h3).2.blk hb;rw[hx] at h4;cases h4;rcases h5 with e | e | e
   ·exact absurd e.symm hb.wb
   ·exact absurd e.symm hb.nb
   ·exact absurd e.symm hb.xb
 ·rcases split ha with h1 | ⟨op,h1,h2,h3⟩
  ·exact(h.said idx a h1 hl hk).app _
  ·rcases(hc op h2 a h3).2 with⟨h5,_⟩ | ⟨_,_,h5⟩ | ⟨h5,_⟩
   ·rw[h5] at hk;cases hk
   ·have:=knows_own h1;rw[h5] at this;exact this
   ·rw[h5] at hk;cases hk
 ·have:=h.len;rw[Array.size_append];omega
 ·have oe:i<t.size:=Nat.lt_of_lt_of_le hi h.len;rw[touchAt_old oe] at ha;exact(h.known i a x hi ha hx).imp (·.app u) id
 ·have oe:i<t.size:=Nat.lt_of_lt_of_le hi h.len;rw[g?_old oe] at hg;obtain⟨j,hj,Ea⟩:=h.over i g hi hg aY ((counts_old oe).1 Ec);have yw:j<t.size:=by
   unfold Trace.g? at hj;obtain⟨z,hz,_⟩:=Option.map_eq_some_iff.1 hj;exact lt_size_of_getElem? hz
  exact⟨j,by rw[g?_old yw];exact hj,hb_app u Ea⟩
 ·rcases getElem?_append_cases ho with⟨_,bO⟩ | ⟨_,pJ⟩
  ·exact h.Of i op hi bO ht
  ·cases hy:op.act.touch? with
   | none=>exact absurd hy ht
   | some y=>exact(hc op pJ y hy).1
 ·obtain⟨op,ho,oq⟩:=Option.map_eq_some_iff.1 ha;rcases getElem?_append_cases ho with⟨_,bO⟩ | ⟨_,pJ⟩
  ·exact h.norel i hi (by rw[act?_of bO,oq])
  ·exact(hr op pJ).1 oq
 ·obtain⟨op,ho,oq⟩:=Option.map_eq_some_iff.1 ha;rcases getElem?_append_cases ho with⟨_,bO⟩ | ⟨_,pJ⟩
  ·exact h.rV i hi (by rw[act?_of bO,oq])
  ·exact(hr op pJ).2 oq
 ·rcases split ha with h1 | ⟨op,h1,h2,h3⟩
  ·exact h.OZ i a x hi h1 hk hx
  ·rcases(hc op h2 a h3).2 with⟨_,h5⟩ | ⟨_,h5,_⟩ | ⟨h5,_⟩
   ·exact h5
   ·exact .inl (by rw[h5];rfl)
   ·exact absurd h5 hk
theorem jd.mute(hb:b.Ok S0)(h:jd b S0 n0 size Ls Sh o w t)(hw:oz Sh w w')(hn:∀op∈u,op.act.touch?=none)(hr:∀op∈u,op.act≠.mark (.release (stA b.W))∧op.act≠.mark (.release b.ma)):jd b S0 n0 size Ls Sh o w' (t++u):=
 h.app0 hb hw (fun said=>ED (h.res.clean said) hn) (fun op ho y hy=>by rw[hn op ho] at hy;cases hy) hr
theorem jd.app(hb:b.Ok S0)(h:jd b S0 n0 size Ls Sh o w t)(hw:oz Sh w w'){x:Nat}(hx:b.Pt size x)(hg:∀op∈u,op.g=x)(hc:∀op∈u,∀y,op.act.touch?=some y→b.Tz x y)
  (hr:∀op∈u,op.act≠.mark (.release (stA b.W))∧op.act≠.mark (.release b.ma)):jd b S0 n0 size Ls Sh o w' (t++u):=by
 refine h.app0 hb hw (fun sd=>noRace_append (h.res.clean sd) hg fun idx a ha op ho y hy hcf=>?_) (fun op ho y hy=>by rw[hg op ho];exact⟨hx,hc op ho y hy⟩) hr;obtain⟨c1,c2,c3,c4⟩:=hcf;rcases hc op ho y hy with⟨h1,h2⟩ | ⟨h1,h2,h3⟩ | ⟨h1,h2,h3,h4⟩
 ·have hp:a.kind=.plain:=by
   rcases c4 with e | e | ⟨_,_,e⟩
   ·exact e
   ·rw[h1] at e;cases e
   ·rw[h1] at e;cases e
  rw[←c1] at h2;rcases h2 with e | e | e
  ·exact h.res.atomic idx a b.W ha e (.inl rfl) hp x hx
  ·exact h.res.atomic idx a b.N ha e (.inr rfl) hp x hx
  ·exact h.Ol idx a ha e hp x hx
 ·rcases c4 with e | e | ⟨_,e,_⟩
  ·exact h.res.atomic idx a b.W ha (by rw[c1,h2];rfl) (.inl rfl) e x hx
  ·rw[h1] at e;cases e
  ·subst h3;exact h.said idx a ha (c1.trans h2) e
 ·rw[h2] at c3;rcases c3 with c3 | c3
  ·exact h.Om idx a ha (by rw[c1];exact h3) (by rw[c1];exact h4) (.inl c3) x hx
  ·cases c3
theorem jd.own(hb:b.Ok S0)(h:jd b S0 n0 size Ls Sh o w t){x:Nat}(hx:b.Pt size x){L':LH}{es:Array Event}(ht:Tr (Ls x) L' w w' es)(fn:FuncId)(pos:String):jd b S0 n0 size (upd Ls x L') Sh o w' (t++MemOp.ofEvents x fn pos es):=by
 have aZ:∀op∈MemOp.ofEvents x fn pos es,op.g=x∧∃e∈es,op.act=.ofEvent e:=fun op aZ=>by
  obtain⟨e,he,hx⟩:=Go.Conc.mem_ofEvents aZ;rw[hx];exact⟨rfl,e,he,rfl⟩
 have qT:∀op∈MemOp.ofEvents x fn pos es,∀y,op.act.touch?=some y→y.kind=.plain∧∀z,cU y.loc=some z→¬Sh z:=fun op ho y hy=>by
  obtain⟨_,e,he,cQ⟩:=aZ op ho;rw[cQ] at hy;refine⟨zB (ht.ev e he) hy,fun z hz hs=>?_⟩;obtain⟨z',v,wr,h1,h2,_⟩:=eh (ht.ev e he) hy;rw[hz] at h1;cases h1;rcases ht.gP z (by rw[h2];simp) with e1 | e1
  ·exact e1 (h.res.sh x z hs)
  ·have:=h.res.nQ z hs;omega
 have split:∀{idx:Nat} {a:Touch},touchAt (t++MemOp.ofEvents x fn pos es) idx=some a→touchAt t idx=some a∨∃op,(t++MemOp.ofEvents x fn pos es)[idx]?=some op∧op∈MemOp.ofEvents x fn pos es∧op.act.touch?=some a:=by
  intro idx a ha;obtain⟨y,hy,qW⟩:=touch_of ha;rcases getElem?_append_cases hy with⟨_,oW⟩ | ⟨_,wK⟩
  ·exact .inl (by rw[touchAt_of oW];exact qW)
  ·exact .inr ⟨y,hy,wK,qW⟩
 have mub:∀{l:Loc},b.mu l→cU l=some b.X:=fun hm=>by
  rcases hm with rfl | rfl
  ·rw[←hb.ma];rfl
  ·rw[←hb.ms];rfl
 refine⟨h.res.own ht fn pos,h.vH,h.AJ,h.BM,h.NX,h.AI,fun g hg=>⟨(h.sS g hg).1,fun idx a ha hxb=>?_⟩,fun idx a ha hm hp i hi=>?_,fun idx a ha hxb hm hp i hi=>?_,fun ho idx a ha hxb=>?_,fun idx a ha hl hk=>?_,?_,fun i a z hi ha hz=>?_,fun i g hi hg aY Ec=>?_,fun i op hi ho _=>?_,fun i hi ha=>?_,fun i hi ha=>?_,fun i a z hi ha hk hz=>?_⟩
 ·rcases split ha with h1 | ⟨op,_,h2,h3⟩
  ·exact((h.sS g hg).2 idx a h1 hxb).app _
  ·exact absurd h.AI ((qT op h2 a h3).2 _ hxb)
 ·rcases split ha with h1 | ⟨op,_,h2,h3⟩
  ·exact(h.Ol idx a h1 hm hp i hi).app _
  ·exact absurd h.vH ((qT op h2 a h3).2 _ (mub hm))
 ·rcases split ha with h1 | ⟨op,_,h2,h3⟩
  ·exact(h.Om idx a h1 hxb hm hp i hi).app _
  ·exact absurd h.vH ((qT op h2 a h3).2 _ hxb)
 ·rcases split ha with h1 | ⟨op,_,h2,h3⟩
  ·rcases h.tok ho idx a h1 hxb with hk | ⟨p,Em,h4,h5,h6⟩
   ·exact .inl fun i hi=>(hk i hi).app _
   ·have hp:=lt_of_act? h4;exact .inr ⟨p,Em,by rw[act?_old hp];exact h4,(heard_old hp).2 h5,h6.app _⟩
  ·exact absurd h.AI ((qT op h2 a h3).2 _ hxb)
 ·rcases split ha with h1 | ⟨op,h1,h2,h3⟩
  ·exact(h.said idx a h1 hl hk).app _
  ·rw[(qT op h2 a h3).1] at hk;cases hk
 ·have:=h.len;rw[Array.size_append];omega
 ·have oe:i<t.size:=Nat.lt_of_lt_of_le hi h.len;rw[touchAt_old oe] at ha;exact(h.known i a z hi ha hz).imp (·.app _) id
 ·have oe:i<t.size:=Nat.lt_of_lt_of_le hi h.len;rw[g?_old oe] at hg;obtain⟨j,hj,Ea⟩:=h.over i g hi hg aY ((counts_old oe).1 Ec);have yw:j<t.size:=by
   unfold Trace.g? at hj;obtain⟨z,hz,_⟩:=Option.map_eq_some_iff.1 hj;exact lt_size_of_getElem? hz
  exact⟨j,by rw[g?_old yw];exact hj,hb_app _ Ea⟩
 ·rcases getElem?_append_cases ho with⟨_,bO⟩ | ⟨_,pJ⟩
  ·exact h.Of i op hi bO (by assumption)
  ·rw[(aZ op pJ).1];exact hx
 ·obtain⟨op,ho,oq⟩:=Option.map_eq_some_iff.1 ha;rcases getElem?_append_cases ho with⟨_,bO⟩ | ⟨_,pJ⟩
  ·exact h.norel i hi (by rw[act?_of bO,oq])
  ·obtain⟨_,e,he,cQ⟩:=aZ op pJ;exact nG (ht.ev e he) _ (cQ.symm.trans oq)
 ·obtain⟨op,ho,oq⟩:=Option.map_eq_some_iff.1 ha;rcases getElem?_append_cases ho with⟨_,bO⟩ | ⟨_,pJ⟩
  ·exact h.rV i hi (by rw[act?_of bO,oq])
  ·obtain⟨_,e,he,cQ⟩:=aZ op pJ;exact nG (ht.ev e he) _ (cQ.symm.trans oq)
 ·rcases split ha with h1 | ⟨op,h1,h2,h3⟩
  ·exact h.OZ i a z hi h1 hk hz
  ·exact absurd (qT op h2 a h3).1 hk
theorem yP{L:LH}{x y:Nat}{z:Obj}{v:Obj×Bool}(h:L.put x z y=some v):(y=x∧v=(z,true))∨(y≠x∧L y=some v):=by
 by_cases e:y=x
 ·subst e;rw[aj] at h;exact .inl ⟨rfl,(Option.some.inj h).symm⟩
 ·rw[au _ _ e] at h;exact .inr ⟨e,h⟩
theorem jd.acquire(hb:b.Ok S0)(h:jd b S0 n0 size Ls Sh none w t){z:MemOp}{x:Nat}(hx:b.Pt size x)(hg:z.g=x)(hz:z.act=.mark (.acquire b.ma))(hd:Deaf t x=0):
  jd b S0 n0 size Ls Sh (some x) w (t++#[z]):=by
 have hn:∀op∈(#[z]:Array MemOp),op.act.touch?=none:=by intro op aZ;simp at aZ;subst aZ;rw[hz];rfl
 have h1:=h.mute (u:=#[z]) hb (.refl _ _) hn (by intro op aZ;simp at aZ;subst aZ;rw[hz];simp);have hq:(t++#[z])[t.size]?=some z:=by simp
 refine{h1 with sS:=fun g oR=>?_,tok:=fun e=>(by cases e)};cases oR;refine⟨hx,fun idx a ha tw=>?_⟩;rcases h.tok rfl idx a (nh hn ha) tw with hk | ⟨p,Em,h4,h5,h6⟩
 ·exact(hk x hx).app _
 ·have hp:=lt_of_act? h4;have abn:HappensBefore (t++#[z]) p t.size:=.single (.inr ⟨.marked hp (.inr (by rw[act?_old hp];exact h4)) (by rw[act?_of hq,hz]) (fun k hk _=>h1.rV k (by omega)),(heard_old hp).2 h5,
   ⟨x,by simp[Trace.g?,hg],by rw[deaf_old (Nat.le_refl _)];exact hd⟩⟩)
  exact⟨t.size,z,hq,hg,.inr ((h6.app #[z]).hb abn)⟩
theorem jd.release(hb:b.Ok S0){x:Nat}(h:jd b S0 n0 size Ls Sh (some x) w t){z:MemOp}(hg:z.g=x)(hz:z.act=.mark (.releaseMerge b.ma))(hd:Deaf t x=0):
  jd b S0 n0 size Ls Sh none w (t++#[z]):=by
 have hn:∀op∈(#[z]:Array MemOp),op.act.touch?=none:=by intro op aZ;simp at aZ;subst aZ;rw[hz];rfl
 have h1:=h.mute (u:=#[z]) hb (.refl _ _) hn (by intro op aZ;simp at aZ;subst aZ;rw[hz];simp);have hq:(t++#[z])[t.size]?=some z:=by simp
 refine{h1 with sS:=fun g oR=>(by cases oR),tok:=fun _ idx a ha tw=>.inr ⟨t.size,h.len,by rw[act?_of hq,hz],⟨x,by simp[Trace.g?,hg],by rw[deaf_old (Nat.le_refl _)];exact hd⟩,.inr ?_⟩};exact((h.sS x rfl).2 idx a (nh hn ha) tw).hb_new (Nat.le_refl _) hq hg
theorem jd.qk(hb:b.Ok S0){x:Nat}(h:jd b S0 n0 size Ls Sh (some x) w t){z0 z1:Obj}(hz0:w.heap[b.B]?=some z0){es:Array Event}(ht:Tr ((Ls x).put b.B z0) ((Ls x).put b.B z1) w w' es)(fn:FuncId)(pos:String):
  jd b S0 n0 size Ls Sh (some x) w' (t++MemOp.ofEvents x fn pos es):=by
 obtain⟨hx,eD⟩:=h.sS x rfl;have hB:∀i,Ls i b.B=none:=fun i=>h.res.sh i _ h.AI;have hold:∀z i y v,upd Ls x ((Ls x).put b.B z) i y=some v→(i=x∧y=b.B∧v=(z,true))∨(y≠b.B∧Ls i y=some v):=by
  intro z i y v hv
  by_cases e:i=x
  ·subst e;rw[upd_same] at hv;rcases yP hv with⟨e1,e2⟩ | ⟨e1,e2⟩
   ·exact .inl ⟨rfl,e1,e2⟩
   ·exact .inr ⟨e1,e2⟩
  ·rw[upd_ne _ _ e] at hv;refine .inr ⟨fun e1=>?_,hv⟩;rw[e1,hB] at hv;cases hv
 have lL:∀z i y v,Ls i y=some v→upd Ls x ((Ls x).put b.B z) i y=some v:=by
  intro z i y v hv;have hy:y≠b.B:=fun e=>by rw[e,hB] at hv;cases hv
  by_cases e:i=x
  ·subst e;rw[upd_same,au _ _ hy];exact hv
  ·rw[upd_ne _ _ e];exact hv
 have r1:ye (upd Ls x ((Ls x).put b.B z0)) (fun y=>Sh y∧y≠b.B) (fun y=>y=b.W∨y=b.N) (b.Pt size) w t:=by
  refine⟨fun i y v wr hv=>?_,fun i j y v lJ hv=>?_,fun i y hy=>?_,fun y hy=>h.res.nQ y hy.1,fun i idx a y v wr ha hy hv hw=>?_,h.res.seen,h.res.clean,fun y hy=>⟨h.res.uF y hy,?_⟩,h.res.atomic⟩
  ·rcases hold z0 i y _ hv with⟨_,rfl,e⟩ | ⟨_,e⟩
   ·cases e;exact hz0
   ·exact h.res.sub i y v wr e
  ·cases qx:upd Ls x ((Ls x).put b.B z0) j y with
   | none=>rfl
   | some v2=>
    exfalso
    rcases hold z0 i y _ hv with⟨e1,e2,_⟩ | ⟨e1,e2⟩
    ·rcases hold z0 j y _ qx with⟨e3,_,_⟩ | ⟨e3,_⟩
     ·exact lJ (e1.trans e3.symm)
     ·exact e3 e2
    ·rcases hold z0 j y _ qx with⟨_,e4,_⟩ | ⟨_,e4⟩
     ·exact e1 e4
     ·rw[h.res.apart i j y v lJ e2] at e4;cases e4
  ·cases qx:upd Ls x ((Ls x).put b.B z0) i y with
   | none=>rfl
   | some v2=>
    rcases hold z0 i y _ qx with⟨_,e,_⟩ | ⟨_,e⟩
    ·exact absurd e hy.2
    ·rw[h.res.sh i y hy.1] at e;cases e
  ·rcases hold z0 i y _ hv with⟨rfl,rfl,_⟩ | ⟨_,e⟩
   ·exact eD idx a ha hy
   ·exact h.res.q9 i idx a y v wr ha hy e hw
  ·rcases hy with rfl | rfl
   ·exact hb.wb
   ·exact hb.nb
 have e0:upd Ls x ((Ls x).put b.B z0) x=(Ls x).put b.B z0:=upd_same _ _ _;have r2:=r1.own (i:=x) (by rw[e0];exact ht) fn pos;have e2:upd (upd Ls x ((Ls x).put b.B z0)) x ((Ls x).put b.B z1)=upd Ls x ((Ls x).put b.B z1):=by
  funext i
  by_cases e:i=x
  ·subst e;rw[upd_same,upd_same]
  ·rw[upd_ne _ _ e,upd_ne _ _ e,upd_ne _ _ e]
 rw[e2] at r2;have aZ:∀op∈MemOp.ofEvents x fn pos es,op.g=x∧∃e∈es,op.act=.ofEvent e:=fun op aZ=>by
  obtain⟨e,he,hx⟩:=Go.Conc.mem_ofEvents aZ;rw[hx];exact⟨rfl,e,he,rfl⟩
 have qT:∀op∈MemOp.ofEvents x fn pos es,∀y,op.act.touch?=some y→y.kind=.plain∧∀z,cU y.loc=some z→z≠b.B→¬Sh z:=fun op ho y hy=>by
  obtain⟨_,e,he,cQ⟩:=aZ op ho;rw[cQ] at hy;refine⟨zB (ht.ev e he) hy,fun z hz hzB hs=>?_⟩;obtain⟨z',v,wr,h1,h2,_⟩:=eh (ht.ev e he) hy;rw[hz] at h1;cases h1;rw[au _ _ hzB,h.res.sh x z hs] at h2;cases h2
 have split:∀{idx:Nat} {a:Touch},touchAt (t++MemOp.ofEvents x fn pos es) idx=some a→touchAt t idx=some a∨∃op,(t++MemOp.ofEvents x fn pos es)[idx]?=some op∧op∈MemOp.ofEvents x fn pos es∧op.act.touch?=some a:=by
  intro idx a ha;obtain⟨y,hy,qW⟩:=touch_of ha;rcases getElem?_append_cases hy with⟨_,oW⟩ | ⟨_,wK⟩
  ·exact .inl (by rw[touchAt_of oW];exact qW)
  ·exact .inr ⟨y,hy,wK,qW⟩
 have mub:∀{l:Loc},b.mu l→cU l=some b.X:=fun hm=>by
  rcases hm with rfl | rfl
  ·rw[←hb.ma];rfl
  ·rw[←hb.ms];rfl
 refine⟨⟨fun i y v wr hv=>r2.sub i y v wr (lL z1 i y _ hv),h.res.apart,h.res.sh,fun y hy=>Nat.lt_of_lt_of_le (h.res.nQ y hy) ht.size,fun i idx a y v wr ha hy hv hw=>r2.q9 i idx a y v wr ha hy (lL z1 i y _ hv) hw,r2.seen,r2.clean,h.res.uF,r2.atomic⟩,h.vH,h.AJ,h.BM,h.NX,h.AI,fun g hg=>?_,fun idx a ha hm hp i hi=>?_,fun idx a ha hxb hm hp i hi=>?_,fun ho=>(by cases ho),fun idx a ha hl hk=>?_,?_,fun i a z hi ha hz=>?_,fun i g hi hg aY Ec=>?_,fun i op hi ho _=>?_,fun i hi ha=>?_,fun i hi ha=>?_,fun i a z hi ha hk hz=>?_⟩
 ·cases hg;refine⟨hx,fun idx a ha tw=>?_⟩;rcases split ha with h1 | ⟨op,h1,h2,_⟩
  ·exact(eD idx a h1 tw).app _
  ·have:=knows_own h1;rw[(aZ op h2).1] at this;exact this
 ·rcases split ha with h1 | ⟨op,_,h2,h3⟩
  ·exact(h.Ol idx a h1 hm hp i hi).app _
  ·exact absurd h.vH ((qT op h2 a h3).2 _ (mub hm) hb.xb)
 ·rcases split ha with h1 | ⟨op,_,h2,h3⟩
  ·exact(h.Om idx a h1 hxb hm hp i hi).app _
  ·exact absurd h.vH ((qT op h2 a h3).2 _ hxb hb.xb)
 ·rcases split ha with h1 | ⟨op,h1,h2,h3⟩
  ·exact(h.said idx a h1 hl hk).app _
  ·rw[(qT op h2 a h3).1] at hk;cases hk
 ·have:=h.len;rw[Array.size_append];omega
 ·have oe:i<t.size:=Nat.lt_of_lt_of_le hi h.len;rw[touchAt_old oe] at ha;exact(h.known i a z hi ha hz).imp (·.app _) id
 ·have oe:i<t.size:=Nat.lt_of_lt_of_le hi h.len;rw[g?_old oe] at hg;obtain⟨j,hj,Ea⟩:=h.over i g hi hg aY ((counts_old oe).1 Ec);have yw:j<t.size:=by
   unfold Trace.g? at hj;obtain⟨z,hz,_⟩:=Option.map_eq_some_iff.1 hj;exact lt_size_of_getElem? hz
  exact⟨j,by rw[g?_old yw];exact hj,hb_app _ Ea⟩
 ·rcases getElem?_append_cases ho with⟨_,bO⟩ | ⟨_,pJ⟩
  ·exact h.Of i op hi bO (by assumption)
  ·rw[(aZ op pJ).1];exact hx
 ·obtain⟨op,ho,oq⟩:=Option.map_eq_some_iff.1 ha;rcases getElem?_append_cases ho with⟨_,bO⟩ | ⟨_,pJ⟩
  ·exact h.norel i hi (by rw[act?_of bO,oq])
  ·obtain⟨_,e,he,cQ⟩:=aZ op pJ;exact nG (ht.ev e he) _ (cQ.symm.trans oq)
 ·obtain⟨op,ho,oq⟩:=Option.map_eq_some_iff.1 ha;rcases getElem?_append_cases ho with⟨_,bO⟩ | ⟨_,pJ⟩
  ·exact h.rV i hi (by rw[act?_of bO,oq])
  ·obtain⟨_,e,he,cQ⟩:=aZ op pJ;exact nG (ht.ev e he) _ (cQ.symm.trans oq)
 ·rcases split ha with h1 | ⟨op,h1,h2,h3⟩
  ·exact h.OZ i a z hi h1 hk hz
  ·exact absurd (qT op h2 a h3).1 hk
theorem jd.spawn(hb:b.Ok S0)(h:jd b S0 n0 size Ls Sh o w t)(Rc:b.base≤size)(h0s:0<size){X Y:MemOp}(hX:X.g=0∧X.act=.go size)(hY:Y.g=size∧Y.act=.start)(ym:Deaf t 0=0)(Zf:Deaf t size=0){Lm Lc:LH}
  (vj:∀y v wr,Lm y=some (v,wr)→∃ep,Ls 0 y=some (v,ep)∧(wr=true→ep=true))(iL:∀y v wr,Lc y=some (v,wr)→∃ep,Ls 0 y=some (v,ep)∧(wr=true→ep=true))
  (ZA:∀y v,Lm y=some (v,true)→Lc y=none)(Y8:∀y v,Lc y=some (v,true)→Lm y=none):
  jd b S0 n0 (size+1) (upd (upd Ls 0 Lm) size Lc) Sh o w (t++#[X,Y]):=by
 have Gp:∀op∈(#[X,Y]:Array MemOp),op.act.touch?=none:=by
  intro op ho;simp only[List.mem_toArray,List.mem_cons,List.not_mem_nil,or_false] at ho;rcases ho with rfl | rfl
  ·rw[hX.2];rfl
  ·rw[hY.2];rfl
 have h1:=h.mute (u:=#[X,Y]) hb (.refl _ _) Gp (by
  intro op ho;simp only[List.mem_toArray,List.mem_cons,List.not_mem_nil,or_false] at ho;rcases ho with rfl | rfl
  ·rw[hX.2];simp
  ·rw[hY.2];simp)
 have eD:∀i,Knows t 0 i→Knows (t++#[X,Y]) size i:=fun i hk=>fork_knows hX hY ym Zf hk;have old:∀{idx:Nat} {a:Touch},touchAt (t++#[X,Y]) idx=some a→touchAt t idx=some a:=nh Gp;have cz:∀idx,(∀i,b.Pt size i→Knows t i idx)→∀i,b.Pt (size+1) i→Knows (t++#[X,Y]) i idx:=by
  intro idx hk i hi
  by_cases e:i=size
  ·rw[e];exact eD idx (hk 0 (.inl rfl))
  ·exact(hk i (by unfold aQ.Pt at hi ⊢;omega)).app _
 have qU:=h1.res.hand (i:=0) (j:=size) (by omega) vj (fun y v wr hy=>.inr (iL y v wr hy)) ZA Y8 fun idx a y v wr ha hy hl hw=>eD idx (h.res.q9 0 idx a y v wr (old ha) hy hl hw);refine⟨⟨qU.sub,qU.apart,qU.sh,qU.nQ,qU.q9,qU.seen,qU.clean,qU.uF,fun idx a y ha hy hA hp i hi=>cz idx (fun i hi=>h.res.atomic idx a y (old ha) hy hA hp i hi) i hi⟩,h.vH,h.AJ,h.BM,h.NX,h.AI,fun g hg=>?_,
  fun idx a ha hm hp=>cz idx (h.Ol idx a (old ha) hm hp),fun idx a ha hx hm hp=>cz idx (h.Om idx a (old ha) hx hm hp),fun ho idx a ha hx=>?_,h1.said,h1.len,h1.known,h1.over,fun i op hi aZ ht=>?_,h1.norel,h1.rV,h1.OZ⟩
 ·obtain⟨e1,e2⟩:=h.sS g hg;exact⟨by unfold aQ.Pt at e1 ⊢;omega,fun idx a ha tw=>(e2 idx a (old ha) tw).app _⟩
 ·rcases h.tok ho idx a (old ha) hx with hk | ⟨p,Em,h4,h5,h6⟩
  ·exact .inl (cz idx hk)
  ·have hp:=lt_of_act? h4;exact .inr ⟨p,Em,by rw[act?_old hp];exact h4,(heard_old hp).2 h5,h6.app _⟩
 ·have:=h1.Of i op hi aZ ht;unfold aQ.Pt at this ⊢;omega
end
end Go.Mz
namespace Go.Mz
namespace Mu
structure Wd where
 l:Bool
 w:Bool
 s:Bool
 c:Nat
deriving DecidableEq
abbrev Wd.zero:Wd:=⟨false,false,false,0⟩
inductive Pc where
 | out | l0 | r0 | sq | c1 | r1 | c2 | r3 | t1 | s1 | t2 | r2 | a1 | own | u0 | uc | ux | us
deriving DecidableEq
structure Th where
 pc:Pc
 old:Wd:=Wd.zero
 aw:Bool:=false
 sv:Bool:=false
 ws:Bool:=false
 it:Nat:=0
 left:Nat:=0
 h:Bool:=false
structure Sh where
 w:Wd
 n:Nat
 h:Nat
def hd(T:Th):Th:=if T.old.l&&!T.old.s then{T with pc:=.sq} else{T with pc:=.c2}
def nw(T:Th):Wd:=⟨T.old.l||!T.old.s,T.old.w&&!T.aw,T.old.s||(T.sv&&T.old.l),T.old.c+if T.old.l||T.old.s then 1 else 0⟩
def j0(T:Th):Th:=if T.old.c=0∨T.old.l=true∨T.old.w=true∨T.old.s=true then{pc:=.out,left:=T.left} else{T with pc:=.uc}
inductive Step:Th→Sh→Th→Sh→Prop
 | out {T S} (h:T.pc=.out) (hl:0<T.left):Step T S {pc:=.l0,left:=T.left - 1} S
 | Z8 {T S} (h:T.pc=.l0) (hw:S.w=Wd.zero):Step T S {pc:=.own,left:=T.left} {S with w:=⟨true,false,false,0⟩}
 | Z7 {T S} (h:T.pc=.l0) (hw:S.w≠Wd.zero):Step T S {pc:=.r0,left:=T.left} S
 | r0 {T S} (h:T.pc=.r0∨T.pc=.r3):Step T S (hd {T with old:=S.w}) S
 | r1 {T S} (h:T.pc=.r1):Step T S (hd {T with old:=S.w,it:=T.it+1}) S
 | V7 {T S} (h:T.pc=.sq):Step T S {T with pc:=.c2} S
 | sqc {T S} (h:T.pc=.sq) (hi:T.it<4) (ha:T.aw=false) (hw:T.old.w=false) (hc:T.old.c≠0):Step T S {T with pc:=.c1} S
 | sqr {T S} (h:T.pc=.sq) (hi:T.it<4):Step T S {T with pc:=.r1} S
 | Yf {T S} (h:T.pc=.c1) (hw:S.w=T.old):Step T S {T with pc:=.r1,aw:=true} {S with w:={S.w with w:=true}}
 | Ye {T S} (h:T.pc=.c1) (hw:S.w≠T.old):Step T S {T with pc:=.r1} S
 | Yh {T S} (h:T.pc=.c2) (hw:S.w=T.old) (hl:T.old.l=false) (hs:T.old.s=false):Step T S {pc:=.own,left:=T.left} {S with w:=nw T}
 | Yi {T S} (h:T.pc=.c2) (hw:S.w=T.old) (hl:T.old.l=true∨T.old.s=true):Step T S {T with pc:=if T.ws then .s1 else .t1,aw:=false} {S with w:=nw T}
 | Yg {T S} (h:T.pc=.c2) (hw:S.w≠T.old):Step T S {T with pc:=.r3} S
 | t1 {T S} (b:Bool) (h:T.pc=.t1):Step T S {T with pc:=.s1,ws:=b} S
 | s1n {T S} (h:T.pc=.s1) (hn:0<S.n) (hh:S.h=0):Step T S {T with pc:=if T.sv then .r2 else .t2,h:=false} {S with n:=S.n - 1}
 | s1h {T S} (h:T.pc=.s1) (hh:0<S.h):Step T S {T with pc:=if T.sv then .r2 else .t2,h:=true} {S with h:=S.h - 1}
 | t2 {T S} (b:Bool) (h:T.pc=.t2):Step T S {T with pc:=.r2,sv:=T.sv||b} S
 | r2s {T S} (h:T.pc=.r2) (hs:S.w.s=true):Step T S {T with pc:=.a1,old:=S.w} S
 | VM {T S} (h:T.pc=.r2) (hs:S.w.s=false):Step T S (hd {T with old:=S.w,aw:=true,it:=0}) S
 | a1 {T S} (h:T.pc=.a1):Step T S {pc:=.own,left:=T.left} {S with w:=⟨true,S.w.w,S.w.s&&!(!T.sv||T.old.c==1),S.w.c - 1⟩}
 | own {T S} (h:T.pc=.own):Step T S {T with pc:=.u0} S
 | u0z {T S} (h:T.pc=.u0) (hw:{S.w with l:=false}=Wd.zero):Step T S {pc:=.out,left:=T.left} {S with w:={S.w with l:=false}}
 | u0s {T S} (h:T.pc=.u0) (hs:S.w.s=true):Step T S {pc:=.us,left:=T.left,h:=true} {S with w:={S.w with l:=false}}
 | u0n {T S} (h:T.pc=.u0) (hs:S.w.s=false):Step T S (j0 {pc:=.u0,left:=T.left,old:={S.w with l:=false}}) {S with w:={S.w with l:=false}}
 | ucy {T S} (h:T.pc=.uc) (hw:S.w=T.old):Step T S {pc:=.us,left:=T.left,h:=false} {S with w:={S.w with w:=true,c:=S.w.c - 1}}
 | ucn {T S} (h:T.pc=.uc) (hw:S.w≠T.old):Step T S {T with pc:=.ux} S
 | ux {T S} (h:T.pc=.ux):Step T S (j0 {T with old:=S.w}) S
 | us {T S} (h:T.pc=.us):Step T S {pc:=.out,left:=T.left} {S with n:=S.n+(if T.h then 0 else 1),h:=S.h+(if T.h then 1 else 0)}
def sum(f:Th→Nat):List Th→Nat
 | []=>0
 | T::l=>f T+sum f l
theorem dG(f:Th→Nat):∀{l:List Th} {k:Nat} {T:Th} (T':Th),l[k]?=some T→sum f (l.set k T')+f T=sum f l+f T'
 | [],_,_,_,h=>by simp at h
 | x::l,0,T,T',h=>by
  simp at h;subst h;simp only[List.set_cons_zero,sum];omega
 | x::l,k+1,T,T',h=>by
  have:=dG f T' (l:=l) (k:=k) (T:=T) (by simpa using h);simp only[List.set_cons_succ,sum];omega
theorem iz{f:Th→Nat}:∀{l:List Th} {T:Th},T∈l→f T≤sum f l
 | x::l,T,h=>by
  rcases List.mem_cons.1 h with rfl | h
  ·simp only[sum];omega
  ·have:=iz (f:=f) h;simp only[sum];omega
theorem A0{f:Th→Nat}:∀{l:List Th},0<sum f l→∃T∈l,0<f T
 | x::l,h=>by
  by_cases h0:0<f x
  ·exact⟨x,List.mem_cons_self,h0⟩
  ·obtain⟨T,h1,h2⟩:=A0 (f:=f) (l:=l) (by simp only[sum] at h;omega);exact⟨T,List.mem_cons_of_mem _ h1,h2⟩
def bB(b:Bool):Nat:=if b then 1 else 0
def inLoop:Pc→Bool
 | .r0 | .sq | .c1 | .r1 | .c2 | .r3=>true
 | _=>false
def fO(T:Th):Nat:=match T.pc with | .own | .u0=>1 | _=>0
def fQ(T:Th):Nat:=match T.pc with | .t1 | .s1=>1 | _=>0
def fN(T:Th):Nat:=match T.pc with
 | .us | .t2 | .r2=>bB (!T.h)
 | .r0 | .sq | .c1 | .r1 | .c2 | .r3=>bB T.aw
 | _=>0
def fH(T:Th):Nat:=match T.pc with
 | .us | .t2 | .r2=>bB T.h
 | .a1=>1
 | _=>0
def dZ(T:Th):Nat:=match T.pc with | .us=>bB (!T.h) | _=>0
def dC(T:Th):Nat:=match T.pc with
 | .t2 | .r2=>bB T.h
 | .a1=>1
 | _=>0
def fU(T:Th):Nat:=match T.pc with | .uc | .ux=>1 | _=>0
structure Good(T:Th):Prop where
 lp:inLoop T.pc=true→T.sv=true→T.aw=true
 sq:T.pc=.sq→T.old.l=true∧T.old.s=false
 c1:T.pc=.c1→T.aw=false∧T.old.w=false∧T.old.s=false∧T.it<4
 aw:T.pc=.sq∨T.pc=.c2→T.aw=true→T.old.w=true
 it:T.it≤4
 r1:T.pc=.r1→T.it<4
 uc:T.pc=.uc→T.old.c≠0∧T.old.l=false∧T.old.w=false∧T.old.s=false
 fr:T.pc=.l0∨T.pc=.r0→T.aw=false∧T.sv=false
 sl:T.pc=.t1∨T.pc=.s1→T.aw=false
structure Inv(l:List Th)(S:Sh):Prop where
 xF:∀T∈l,Good T
 own:sum fO l=bB S.w.l
 wok:sum fN l+S.n=bB S.w.w
 fZ:sum fH l+S.h=bB (!S.w.l&&S.w.s)
 cnt:sum fQ l+sum dC l=S.w.c+sum dZ l+S.n
 sw:S.w.s=true→S.w.w=false
 dd:S.w.l=false→S.w.w=false→S.w.s=false→0<S.w.c→0<sum fU l
end Mu
end Go.Mz
namespace Go.Mz
namespace Mu
theorem uW{T:Th}(h1:T.sv=true→T.aw=true)(h2:T.aw=true→T.old.w=true)(h3:T.it≤4):Good (hd T):=by
 unfold hd
 split
 ·rename_i h;simp only[Bool.and_eq_true,Bool.not_eq_true'] at h;exact⟨fun _=>h1,fun _=>h,fun e=>(by cases e),fun _=>h2,h3,fun e=>(by cases e),fun e=>(by cases e),fun e=>(by rcases e with e | e <;> cases e),fun e=>(by rcases e with e | e <;> cases e)⟩
 ·exact⟨fun _=>h1,fun e=>(by cases e),fun e=>(by cases e),fun _=>h2,h3,fun e=>(by cases e),fun e=>(by cases e),fun e=>(by rcases e with e | e <;> cases e),fun e=>(by rcases e with e | e <;> cases e)⟩
theorem c9{T:Th}(h:inLoop T.pc=false)(hl:T.pc≠.l0)(h3:T.it≤4)(hu:T.pc=.uc→T.old.c≠0∧T.old.l=false∧T.old.w=false∧T.old.s=false)(hq:T.pc=.t1∨T.pc=.s1→T.aw=false):Good T:=by
 refine⟨fun e=>(by rw[h] at e;cases e),fun e=>?_,fun e=>?_,fun e=>?_,h3,fun e=>?_,hu,fun e=>?_,hq⟩
 ·rw[e] at h;cases h
 ·rw[e] at h;cases h
 ·rcases e with e | e <;> (rw[e] at h;cases h)
 ·rw[e] at h;cases h
 ·rcases e with e | e
  ·exact absurd e hl
  ·rw[e] at h;cases h
theorem Cn{T:Th}(h3:T.it≤4):Good (j0 T):=by
 unfold j0
 split
 ·exact c9 rfl (by intro e;cases e) (Nat.zero_le _) (fun e=>by cases e) (fun e=>by rcases e with e | e <;> cases e)
 ·rename_i h;refine c9 rfl (by intro e;cases e) h3 (fun _=>?_) (fun e=>by rcases e with e | e <;> cases e);refine⟨fun e=>h (.inl e),?_,?_,?_⟩
  ·cases e:T.old.l with
   | false=>rfl
   | true=>exact absurd (.inr (.inl e)) h
  ·cases e:T.old.w with
   | false=>rfl
   | true=>exact absurd (.inr (.inr (.inl e))) h
  ·cases e:T.old.s with
   | false=>rfl
   | true=>exact absurd (.inr (.inr (.inr e))) h
theorem Zc(T:Th):(hd T).pc=.sq∨(hd T).pc=.c2:=by unfold hd;split <;> simp
theorem Zb(T:Th):(hd T).aw=T.aw:=by unfold hd;split <;> rfl
theorem vc(T:Th):fO (hd T)=0∧fN (hd T)=bB T.aw∧fH (hd T)=0∧fQ (hd T)=0∧dC (hd T)=0∧dZ (hd T)=0∧fU (hd T)=0:=by
 have h1:=Zb T;rcases Zc T with h | h <;> simp[fO,fN,fH,fQ,dC,dZ,fU,h,h1]
theorem Tb(T:Th):fO (j0 T)=0∧fN (j0 T)=0∧fH (j0 T)=0∧fQ (j0 T)=0∧dC (j0 T)=0∧dZ (j0 T)=0:=by
 unfold j0
 split <;> simp[fO,fN,fH,fQ,dC,dZ]
theorem Te{T:Th}(h1:T.old.c≠0)(h2:T.old.l=false)(h3:T.old.w=false)(h4:T.old.s=false):fU (j0 T)=1:=by
 unfold j0;rw[if_neg (by simp[h1,h2,h3,h4])]
 rfl
theorem pq{f g:Th→Nat}(h:∀T,f T≤g T):∀l:List Th,sum f l≤sum g l
 | []=>Nat.le_refl _
 | T::l=>by have:=h T;have:=pq h l;simp only[sum];omega
theorem Tf(T:Th):dZ T≤fN T:=by unfold dZ fN;split <;> simp_all
theorem Ri(T:Th):dC T≤fH T:=by unfold dC fH;split <;> simp_all
theorem r5{l:List Th}{k:Nat}{T T':Th}{S S':Sh}(hi:Inv l S)(hk:l[k]?=some T)(hs:Step T S T' S'):Inv (l.set k T') S':=by
 have hT:=hi.xF T (List.mem_of_getElem? hk);have e1:=dG fO T' hk;have e2:=dG fN T' hk;have e3:=dG fH T' hk;have e4:=dG fQ T' hk;have e5:=dG dC T' hk;have e6:=dG dZ T' hk;have e7:=dG fU T' hk;have m1:=iz (f:=fO) (List.mem_of_getElem? hk);have m2:=iz (f:=fN) (List.mem_of_getElem? hk);have m3:=iz (f:=fH) (List.mem_of_getElem? hk);have m4:=iz (f:=fQ) (List.mem_of_getElem? hk);have m5:=iz (f:=dC) (List.mem_of_getElem? hk);have m6:=iz (f:=dZ) (List.mem_of_getElem? hk);have n1:=pq Tf l;have n2:=pq Ri l;have PR:Good T'→∀x∈l.set k T',Good x:=fun g x hx=>(List.mem_or_eq_of_mem_set hx).elim (hi.xF x) (fun e=>e▸g);obtain⟨_,i1,i2,i3,i4,i5,i6⟩:=hi
 suffices H:Good T'∧(sum fO (l.set k T')=bB S'.w.l∧sum fN (l.set k T')+S'.n=bB S'.w.w∧sum fH (l.set k T')+S'.h=bB (!S'.w.l&&S'.w.s)∧sum fQ (l.set k T')+sum dC (l.set k T')=S'.w.c+sum dZ (l.set k T')+S'.n)∧(S'.w.s=true→S'.w.w=false)∧(S'.w.l=false→S'.w.w=false→S'.w.s=false→0<S'.w.c→0<sum fU (l.set k T')) from
  ⟨PR H.1,H.2.1.1,H.2.1.2.1,H.2.1.2.2.1,H.2.1.2.2.2,H.2.2.1,H.2.2.2⟩
 clear PR;generalize sum fO (l.set k T')=a1 at *;generalize sum fN (l.set k T')=a2 at *;generalize sum fH (l.set k T')=a3 at *;generalize sum fQ (l.set k T')=a4 at *;generalize sum dC (l.set k T')=a5 at *;generalize sum dZ (l.set k T')=a6 at *;generalize sum fU (l.set k T')=a7 at *;generalize sum fO l=c1 at *;generalize sum fN l=c2 at *;generalize sum fH l=c3 at *;generalize sum fQ l=c4 at *;generalize sum dC l=c5 at *;generalize sum dZ l=c6 at *;generalize sum fU l=c7 at *;clear hk;obtain⟨⟨wl,ww,p7,wc⟩,n,h⟩:=S;obtain⟨pc,old,aw,sv,ws,it,left,th⟩:=T;dsimp only at i1 i2 i3 i4 i5 i6;cases hs with
 | out hp hl=>
  dsimp only at *;subst hp;simp only[fO,fN,fH,fQ,dC,dZ,fU] at e1 e2 e3 e4 e5 e6 e7 m1 m2 m3 m4 m5 m6;refine⟨⟨fun e=>(by cases e),fun e=>(by cases e),fun e=>(by cases e),fun e=>(by rcases e with e | e <;> cases e),Nat.zero_le _,fun e=>(by cases e),fun e=>(by cases e),fun _=>⟨rfl,rfl⟩,fun e=>(by rcases e with e | e <;> cases e)⟩,?_,?_,?_⟩
  ·refine⟨?_,?_,?_,?_⟩ <;> ((try dsimp only at *);first | assumption | omega | (simp_all [bB] <;> omega) | simp_all [bB])
  ·((try dsimp only at *);first | assumption | omega | (simp_all [bB] <;> omega) | simp_all [bB])
  ·intro q1 q2 q3 q4;((try dsimp only at *);first | assumption | omega | (simp_all [bB] <;> omega) | simp_all [bB])
 | Z8 hp hw=>
  dsimp only at *;subst hp;obtain⟨rfl,rfl,rfl,rfl⟩:=Wd.mk.inj hw;simp only[fO,fN,fH,fQ,dC,dZ,fU] at e1 e2 e3 e4 e5 e6 e7 m1 m2 m3 m4 m5 m6;refine⟨by exact c9 rfl (by intro e;cases e) (by first | exact Nat.zero_le _ | assumption) (fun e=>by cases e) (fun e=>by rcases e with e | e <;> cases e),?_,?_,?_⟩
  ·refine⟨?_,?_,?_,?_⟩ <;> ((try dsimp only at *);first | assumption | omega | (simp_all [bB] <;> omega) | simp_all [bB])
  ·((try dsimp only at *);first | assumption | omega | (simp_all [bB] <;> omega) | simp_all [bB])
  ·intro q1 q2 q3 q4;((try dsimp only at *);first | assumption | omega | (simp_all [bB] <;> omega) | simp_all [bB])
 | Z7 hp hw=>
  dsimp only at *;subst hp;simp only[fO,fN,fH,fQ,dC,dZ,fU] at e1 e2 e3 e4 e5 e6 e7 m1 m2 m3 m4 m5 m6;refine⟨⟨fun _ e=>(by cases e),fun e=>(by cases e),fun e=>(by cases e),fun e=>(by rcases e with e | e <;> cases e),Nat.zero_le _,fun e=>(by cases e),fun e=>(by cases e),fun _=>⟨rfl,rfl⟩,fun e=>(by rcases e with e | e <;> cases e)⟩,?_,?_,?_⟩
  ·refine⟨?_,?_,?_,?_⟩ <;> ((try dsimp only at *);first | assumption | omega | (simp_all [bB] <;> omega) | simp_all [bB])
  ·((try dsimp only at *);first | assumption | omega | (simp_all [bB] <;> omega) | simp_all [bB])
  ·intro q1 q2 q3 q4;((try dsimp only at *);first | assumption | omega | (simp_all [bB] <;> omega) | simp_all [bB])
 | r0 hp=>
  dsimp only at *;rcases hp with rfl | rfl
  ·simp only[fO,fN,fH,fQ,dC,dZ,fU] at m1 m2 m3 m4 m5 m6;obtain⟨g1,g2,g3,g4,g5,g6,g7⟩:=vc {pc:=.r0,old:=⟨wl,ww,p7,wc⟩,aw:=aw,sv:=sv,ws:=ws,it:=it,left:=left,h:=th};rw[g1] at e1;rw[g2] at e2;rw[g3] at e3;rw[g4] at e4;rw[g5] at e5;rw[g6] at e6;rw[g7] at e7;simp only[fO,fN,fH,fQ,dC,dZ,fU] at e1 e2 e3 e4 e5 e6 e7;have BG:aw=true→ww=true:=fun e=>by
    cases ww with
    | true=>rfl
    | false=>simp[bB,e] at m2 i2;omega
   exact⟨uW (hT.lp rfl) BG hT.it,⟨by omega,by omega,by omega,by omega⟩,i5,fun q1 q2 q3 q4=>by have:=i6 q1 q2 q3 q4;omega⟩
  ·simp only[fO,fN,fH,fQ,dC,dZ,fU] at m1 m2 m3 m4 m5 m6;obtain⟨g1,g2,g3,g4,g5,g6,g7⟩:=vc {pc:=.r3,old:=⟨wl,ww,p7,wc⟩,aw:=aw,sv:=sv,ws:=ws,it:=it,left:=left,h:=th};rw[g1] at e1;rw[g2] at e2;rw[g3] at e3;rw[g4] at e4;rw[g5] at e5;rw[g6] at e6;rw[g7] at e7;simp only[fO,fN,fH,fQ,dC,dZ,fU] at e1 e2 e3 e4 e5 e6 e7;have BG:aw=true→ww=true:=fun e=>by
    cases ww with
    | true=>rfl
    | false=>simp[bB,e] at m2 i2;omega
   exact⟨uW (hT.lp rfl) BG hT.it,⟨by omega,by omega,by omega,by omega⟩,i5,fun q1 q2 q3 q4=>by have:=i6 q1 q2 q3 q4;omega⟩
 | r1 hp=>
  dsimp only at *;subst hp;simp only[fO,fN,fH,fQ,dC,dZ,fU] at m1 m2 m3 m4 m5 m6;obtain⟨g1,g2,g3,g4,g5,g6,g7⟩:=vc {pc:=.r1,old:=⟨wl,ww,p7,wc⟩,aw:=aw,sv:=sv,ws:=ws,it:=it+1,left:=left,h:=th};rw[g1] at e1;rw[g2] at e2;rw[g3] at e3;rw[g4] at e4;rw[g5] at e5;rw[g6] at e6;rw[g7] at e7;simp only[fO,fN,fH,fQ,dC,dZ,fU] at e1 e2 e3 e4 e5 e6 e7;have BG:aw=true→ww=true:=fun e=>by
   cases ww with
   | true=>rfl
   | false=>simp[bB,e] at m2 i2;omega
  exact⟨uW (hT.lp rfl) BG (by have:=hT.r1 rfl;dsimp only at this ⊢;omega),⟨by omega,by omega,by omega,by omega⟩,i5,fun q1 q2 q3 q4=>by have:=i6 q1 q2 q3 q4;omega⟩
 | V7 hp=>
  dsimp only at *;subst hp;simp only[fO,fN,fH,fQ,dC,dZ,fU] at e1 e2 e3 e4 e5 e6 e7 m1 m2 m3 m4 m5 m6;exact⟨⟨fun _=>hT.lp rfl,fun e=>(by cases e),fun e=>(by cases e),fun _=>hT.aw (.inl rfl),hT.it,fun e=>(by cases e),fun e=>(by cases e),fun e=>(by rcases e with e | e <;> cases e),fun e=>(by rcases e with e | e <;> cases e)⟩,⟨by omega,by omega,by omega,by omega⟩,i5,fun q1 q2 q3 q4=>by have:=i6 q1 q2 q3 q4;omega⟩
 | sqc hp tK ha hw hc=>
  dsimp only at *;subst hp;simp only[fO,fN,fH,fQ,dC,dZ,fU] at e1 e2 e3 e4 e5 e6 e7 m1 m2 m3 m4 m5 m6;exact⟨⟨fun _=>hT.lp rfl,fun e=>(by cases e),fun _=>⟨ha,hw,(hT.sq rfl).2,tK⟩,fun e=>(by rcases e with e | e <;> cases e),hT.it,fun e=>(by cases e),fun e=>(by cases e),fun e=>(by rcases e with e | e <;> cases e),fun e=>(by rcases e with e | e <;> cases e)⟩,⟨by omega,by omega,by omega,by omega⟩,i5,fun q1 q2 q3 q4=>by have:=i6 q1 q2 q3 q4;omega⟩
 | sqr hp tK=>
  dsimp only at *;subst hp;simp only[fO,fN,fH,fQ,dC,dZ,fU] at e1 e2 e3 e4 e5 e6 e7 m1 m2 m3 m4 m5 m6;exact⟨⟨fun _=>hT.lp rfl,fun e=>(by cases e),fun e=>(by cases e),fun e=>(by rcases e with e | e <;> cases e),hT.it,fun _=>tK,fun e=>(by cases e),fun e=>(by rcases e with e | e <;> cases e),fun e=>(by rcases e with e | e <;> cases e)⟩,⟨by omega,by omega,by omega,by omega⟩,i5,fun q1 q2 q3 q4=>by have:=i6 q1 q2 q3 q4;omega⟩
 | Yf hp hw=>
  dsimp only at *;subst hp hw;obtain⟨h1,h2,h3,h4⟩:=hT.c1 rfl;dsimp only at h1 h2 h3 h4;subst h1 h2 h3;simp only[fO,fN,fH,fQ,dC,dZ,fU] at e1 e2 e3 e4 e5 e6 e7 m1 m2 m3 m4 m5 m6;refine⟨⟨fun _ _=>rfl,fun e=>(by cases e),fun e=>(by cases e),fun e=>(by rcases e with e | e <;> cases e),hT.it,fun _=>h4,fun e=>(by cases e),fun e=>(by rcases e with e | e <;> cases e),fun e=>(by rcases e with e | e <;> cases e)⟩,⟨by omega,?_,by omega,by omega⟩,fun e=>(by cases e),fun q1 q2=>(by cases q2)⟩;simp only[bB] at *;simp at *;omega
 | Ye hp hw=>
  dsimp only at *;subst hp;simp only[fO,fN,fH,fQ,dC,dZ,fU] at e1 e2 e3 e4 e5 e6 e7 m1 m2 m3 m4 m5 m6;exact⟨⟨fun _=>hT.lp rfl,fun e=>(by cases e),fun e=>(by cases e),fun e=>(by rcases e with e | e <;> cases e),hT.it,fun _=>(hT.c1 rfl).2.2.2,fun e=>(by cases e),fun e=>(by rcases e with e | e <;> cases e),fun e=>(by rcases e with e | e <;> cases e)⟩,⟨by omega,by omega,by omega,by omega⟩,i5,fun q1 q2 q3 q4=>by have:=i6 q1 q2 q3 q4;omega⟩
 | Yh hp hw hl hs=>
  dsimp only at *;subst hp hw;dsimp only at hl hs;subst hl hs;have U8:=hT.aw (.inr rfl);dsimp only at U8;simp only[fO,fN,fH,fQ,dC,dZ,fU] at e1 e2 e3 e4 e5 e6 e7 m1 m2 m3 m4 m5 m6;refine⟨by exact c9 rfl (by intro e;cases e) (by first | exact Nat.zero_le _ | assumption) (fun e=>by cases e) (fun e=>by rcases e with e | e <;> cases e),?_,fun e=>?_,fun q1=>?_⟩
  ·simp only[nw,Bool.not_false,Bool.or_true,Bool.and_false,Bool.or_self,Bool.false_or,Bool.or_false];cases aw with
   | true=>
    have jY:=U8 rfl;subst jY;have b0:bB false=0:=rfl;have b1:bB true=1:=rfl;simp only[Bool.not_false,Bool.and_true,Bool.true_and,Bool.not_true,Bool.false_and,Bool.and_false] at i3 ⊢;refine⟨by omega,by omega,by omega,?_⟩;simp;omega
   | false=>
    have b0:bB false=0:=rfl;have b1:bB true=1:=rfl;simp only[Bool.not_false,Bool.and_true,Bool.true_and,Bool.not_true,Bool.false_and,Bool.and_false] at i3 ⊢;refine⟨by omega,by omega,by omega,?_⟩;simp;omega
  ·simp[nw] at e
  ·simp[nw] at q1
 | Yi hp hw hl=>
  dsimp only at *;subst hp hw;have U8:=hT.aw (.inr rfl);have hsa:=hT.lp rfl;dsimp only at U8 hsa hl;have qS:({pc:=if ws=true then Pc.s1 else Pc.t1,old:=⟨wl,ww,p7,wc⟩,aw:=false,sv:=sv,ws:=ws,it:=it,left:=left,h:=th}:Th).pc=.t1∨({pc:=if ws=true then Pc.s1 else Pc.t1,old:=⟨wl,ww,p7,wc⟩,aw:=false,sv:=sv,ws:=ws,it:=it,left:=left,h:=th}:Th).pc=.s1:=by
   cases ws <;> simp
  have hG:Good ({pc:=if ws=true then Pc.s1 else Pc.t1,old:=⟨wl,ww,p7,wc⟩,aw:=false,sv:=sv,ws:=ws,it:=it,left:=left,h:=th}:Th):=by
   cases ws <;> exact c9 rfl (by intro e;cases e) hT.it (fun e=>by cases e) (fun _=>rfl)
  have v:fO ({pc:=if ws=true then Pc.s1 else Pc.t1,old:=⟨wl,ww,p7,wc⟩,aw:=false,sv:=sv,ws:=ws,it:=it,left:=left,h:=th}:Th)=0∧fN ({pc:=if ws=true then Pc.s1 else Pc.t1,old:=⟨wl,ww,p7,wc⟩,aw:=false,sv:=sv,ws:=ws,it:=it,left:=left,h:=th}:Th)=0∧fH ({pc:=if ws=true then Pc.s1 else Pc.t1,old:=⟨wl,ww,p7,wc⟩,aw:=false,sv:=sv,ws:=ws,it:=it,left:=left,h:=th}:Th)=0∧fQ ({pc:=if ws=true then Pc.s1 else Pc.t1,old:=⟨wl,ww,p7,wc⟩,aw:=false,sv:=sv,ws:=ws,it:=it,left:=left,h:=th}:Th)=1∧dC ({pc:=if ws=true then Pc.s1 else Pc.t1,old:=⟨wl,ww,p7,wc⟩,aw:=false,sv:=sv,ws:=ws,it:=it,left:=left,h:=th}:Th)=0∧dZ ({pc:=if ws=true then Pc.s1 else Pc.t1,old:=⟨wl,ww,p7,wc⟩,aw:=false,sv:=sv,ws:=ws,it:=it,left:=left,h:=th}:Th)=0:=by
   cases ws <;> simp[fO,fN,fH,fQ,dC,dZ]
  obtain⟨v1,v2,v3,v4,v5,v6⟩:=v;rw[v1] at e1;rw[v2] at e2;rw[v3] at e3;rw[v4] at e4;rw[v5] at e5;rw[v6] at e6;clear qS v1 v2 v3 v4 v5 v6 e7;simp only[fO,fN,fH,fQ,dC,dZ,fU] at e1 e2 e3 e4 e5 e6 m1 m2 m3 m4 m5 m6;refine⟨hG,?_,?_,?_⟩
  ·clear hG hT;cases wl <;> cases p7 <;> cases aw <;> cases sv <;> cases ww <;> simp[nw,bB] at * <;> omega
  ·clear hG hT;intro e;cases wl <;> cases p7 <;> cases aw <;> cases sv <;> cases ww <;> simp[nw] at *
  ·clear hG hT;intro q1 q2 q3 q4;cases wl <;> cases p7 <;> simp[nw] at *
 | Yg hp hw=>
  dsimp only at *;subst hp;simp only[fO,fN,fH,fQ,dC,dZ,fU] at e1 e2 e3 e4 e5 e6 e7 m1 m2 m3 m4 m5 m6;exact⟨⟨fun _=>hT.lp rfl,fun e=>(by cases e),fun e=>(by cases e),fun e=>(by rcases e with e | e <;> cases e),hT.it,fun e=>(by cases e),fun e=>(by cases e),fun e=>(by rcases e with e | e <;> cases e),fun e=>(by rcases e with e | e <;> cases e)⟩,⟨by omega,by omega,by omega,by omega⟩,i5,fun q1 q2 q3 q4=>by have:=i6 q1 q2 q3 q4;omega⟩
 | t1 b hp=>
  dsimp only at *;subst hp;simp only[fO,fN,fH,fQ,dC,dZ,fU] at e1 e2 e3 e4 e5 e6 e7 m1 m2 m3 m4 m5 m6;refine⟨by exact c9 rfl (by intro e;cases e) hT.it (fun e=>by cases e) (fun _=>hT.sl (.inl rfl)),?_,?_,?_⟩
  ·refine⟨?_,?_,?_,?_⟩ <;> ((try dsimp only at *);first | assumption | omega | (simp_all [bB] <;> omega) | simp_all [bB])
  ·((try dsimp only at *);first | assumption | omega | (simp_all [bB] <;> omega) | simp_all [bB])
  ·intro q1 q2 q3 q4;((try dsimp only at *);first | assumption | omega | (simp_all [bB] <;> omega) | simp_all [bB])
 | s1n hp hn hh=>
  dsimp only at *;subst hp;cases sv
  all_goals
   simp only[fO,fN,fH,fQ,dC,dZ,fU,if_true,if_false,Bool.false_eq_true,reduceIte] at e1 e2 e3 e4 e5 e6 e7 m1 m2 m3 m4 m5 m6;refine⟨by exact c9 rfl (by intro e;cases e) hT.it (fun e=>by cases e) (fun e=>by rcases e with e | e <;> cases e),?_,?_,?_⟩
   ·refine⟨?_,?_,?_,?_⟩ <;> ((try dsimp only at *);first | assumption | omega | (simp_all [bB] <;> omega) | simp_all [bB])
   ·((try dsimp only at *);first | assumption | omega | (simp_all [bB] <;> omega) | simp_all [bB])
   ·intro q1 q2 q3 q4;((try dsimp only at *);first | assumption | omega | (simp_all [bB] <;> omega) | simp_all [bB])
 | s1h hp hh=>
  dsimp only at *;subst hp;cases sv
  all_goals
   simp only[fO,fN,fH,fQ,dC,dZ,fU,if_true,if_false,Bool.false_eq_true,reduceIte] at e1 e2 e3 e4 e5 e6 e7 m1 m2 m3 m4 m5 m6;refine⟨by exact c9 rfl (by intro e;cases e) hT.it (fun e=>by cases e) (fun e=>by rcases e with e | e <;> cases e),?_,?_,?_⟩
   ·refine⟨?_,?_,?_,?_⟩ <;> ((try dsimp only at *);first | assumption | omega | (simp_all [bB] <;> omega) | simp_all [bB])
   ·((try dsimp only at *);first | assumption | omega | (simp_all [bB] <;> omega) | simp_all [bB])
   ·intro q1 q2 q3 q4;((try dsimp only at *);first | assumption | omega | (simp_all [bB] <;> omega) | simp_all [bB])
 | t2 b hp=>
  dsimp only at *;subst hp;simp only[fO,fN,fH,fQ,dC,dZ,fU] at e1 e2 e3 e4 e5 e6 e7 m1 m2 m3 m4 m5 m6;refine⟨by exact c9 rfl (by intro e;cases e) hT.it (fun e=>by cases e) (fun e=>by rcases e with e | e <;> cases e),?_,?_,?_⟩
  ·refine⟨?_,?_,?_,?_⟩ <;> ((try dsimp only at *);first | assumption | omega | (simp_all [bB] <;> omega) | simp_all [bB])
  ·((try dsimp only at *);first | assumption | omega | (simp_all [bB] <;> omega) | simp_all [bB])
  ·intro q1 q2 q3 q4;((try dsimp only at *);first | assumption | omega | (simp_all [bB] <;> omega) | simp_all [bB])
 | r2s hp hs=>
  dsimp only at *;subst hp;simp only[fO,fN,fH,fQ,dC,dZ,fU] at e1 e2 e3 e4 e5 e6 e7 m1 m2 m3 m4 m5 m6;refine⟨by exact c9 rfl (by intro e;cases e) hT.it (fun e=>by cases e) (fun e=>by rcases e with e | e <;> cases e),?_,?_,?_⟩
  ·refine⟨?_,?_,?_,?_⟩ <;> ((try dsimp only at *);first | assumption | omega | (simp_all [bB] <;> omega) | simp_all [bB])
  ·((try dsimp only at *);first | assumption | omega | (simp_all [bB] <;> omega) | simp_all [bB])
  ·intro q1 q2 q3 q4;((try dsimp only at *);first | assumption | omega | (simp_all [bB] <;> omega) | simp_all [bB])
 | VM hp hs=>
  dsimp only at *;subst hp hs;simp only[fO,fN,fH,fQ,dC,dZ,fU] at m1 m2 m3 m4 m5 m6;have yA:th=false:=by
   cases th with
   | false=>rfl
   | true=>cases wl <;> simp[bB] at m3 i3 <;> omega
  subst yA;obtain⟨g1,g2,g3,g4,g5,g6,g7⟩:=vc {pc:=.r2,old:=⟨wl,ww,false,wc⟩,aw:=true,sv:=sv,ws:=ws,it:=0,left:=left,h:=false};rw[g1] at e1;rw[g2] at e2;rw[g3] at e3;rw[g4] at e4;rw[g5] at e5;rw[g6] at e6;rw[g7] at e7;simp only[fO,fN,fH,fQ,dC,dZ,fU,bB,Bool.not_false,if_true,reduceIte,Bool.false_eq_true] at e1 e2 e3 e4 e5 e6 e7 m2;have BG:ww=true:=by
   cases ww with
   | true=>rfl
   | false=>simp[bB] at i2;omega
  exact⟨uW (fun _=>rfl) (fun _=>BG) (Nat.zero_le _),⟨by omega,by omega,by omega,by omega⟩,i5,fun q1 q2 q3 q4=>by have:=i6 q1 q2 q3 q4;omega⟩
 | a1 hp=>
  dsimp only at *;subst hp;simp only[fO,fN,fH,fQ,dC,dZ,fU] at e1 e2 e3 e4 e5 e6 e7 m1 m2 m3 m4 m5 m6;refine⟨by exact c9 rfl (by intro e;cases e) (by first | exact Nat.zero_le _ | assumption) (fun e=>by cases e) (fun e=>by rcases e with e | e <;> cases e),⟨?_,?_,?_,?_⟩,?_,fun q1 q2 q3 q4=>?_⟩
  all_goals try dsimp only at *
  all_goals (cases wl <;> cases ww <;> cases p7 <;> simp[bB] at * <;> omega)
 | own hp=>
  dsimp only at *;subst hp;simp only[fO,fN,fH,fQ,dC,dZ,fU] at e1 e2 e3 e4 e5 e6 e7 m1 m2 m3 m4 m5 m6;refine⟨by exact c9 rfl (by intro e;cases e) hT.it (fun e=>by cases e) (fun e=>by rcases e with e | e <;> cases e),?_,?_,?_⟩
  ·refine⟨?_,?_,?_,?_⟩ <;> ((try dsimp only at *);first | assumption | omega | (simp_all [bB] <;> omega) | simp_all [bB])
  ·((try dsimp only at *);first | assumption | omega | (simp_all [bB] <;> omega) | simp_all [bB])
  ·intro q1 q2 q3 q4;((try dsimp only at *);first | assumption | omega | (simp_all [bB] <;> omega) | simp_all [bB])
 | u0z hp hw=>
  dsimp only at *;subst hp;obtain⟨_,rfl,rfl,rfl⟩:=Wd.mk.inj hw;simp only[fO,fN,fH,fQ,dC,dZ,fU] at e1 e2 e3 e4 e5 e6 e7 m1 m2 m3 m4 m5 m6;refine⟨by exact c9 rfl (by intro e;cases e) (by first | exact Nat.zero_le _ | assumption) (fun e=>by cases e) (fun e=>by rcases e with e | e <;> cases e),⟨?_,?_,?_,?_⟩,?_,fun q1 q2 q3 q4=>?_⟩
  all_goals try dsimp only at *
  all_goals (cases wl <;> simp[bB] at * <;> omega)
 | u0s hp hs=>
  dsimp only at *;subst hp;simp only[fO,fN,fH,fQ,dC,dZ,fU] at e1 e2 e3 e4 e5 e6 e7 m1 m2 m3 m4 m5 m6;refine⟨by exact c9 rfl (by intro e;cases e) (by first | exact Nat.zero_le _ | assumption) (fun e=>by cases e) (fun e=>by rcases e with e | e <;> cases e),⟨?_,?_,?_,?_⟩,?_,fun q1 q2 q3 q4=>?_⟩
  all_goals try dsimp only at *
  all_goals (cases wl <;> cases ww <;> cases p7 <;> simp[bB] at * <;> omega)
 | u0n hp hs=>
  dsimp only at *;subst hp hs;obtain⟨g1,g2,g3,g4,g5,g6⟩:=Tb {pc:=.u0,left:=left,old:=⟨false,ww,false,wc⟩};have gu:=@Te {pc:=.u0,left:=left,old:=⟨false,ww,false,wc⟩};rw[g1] at e1;rw[g2] at e2;rw[g3] at e3;rw[g4] at e4;rw[g5] at e5;rw[g6] at e6;simp only[fO,fN,fH,fQ,dC,dZ,fU] at e1 e2 e3 e4 e5 e6 m1 m2 m3 m4 m5 m6;dsimp only at gu;refine⟨Cn (Nat.zero_le _),⟨?_,by omega,?_,by omega⟩,fun e=>(by cases e),fun q1 q2 q3 q4=>?_⟩
  ·clear i6;cases wl <;> simp[bB] at * <;> omega
  ·clear i6;cases wl <;> simp[bB] at * <;> omega
  ·rw[gu (by omega) rfl q2 rfl] at e7;have:fU {pc:=Pc.u0,old:=old,aw:=aw,sv:=sv,ws:=ws,it:=it,left:=left,h:=th}=0:=rfl;omega
 | ucy hp hw=>
  dsimp only at *;subst hp;have hu:=hT.uc rfl;subst hw;dsimp only at hu;simp only[fO,fN,fH,fQ,dC,dZ,fU] at e1 e2 e3 e4 e5 e6 e7 m1 m2 m3 m4 m5 m6;refine⟨by exact c9 rfl (by intro e;cases e) (by first | exact Nat.zero_le _ | assumption) (fun e=>by cases e) (fun e=>by rcases e with e | e <;> cases e),?_,?_,?_⟩
  ·refine⟨?_,?_,?_,?_⟩ <;> ((try dsimp only at *);first | assumption | omega | (simp_all [bB] <;> omega) | simp_all [bB])
  ·((try dsimp only at *);first | assumption | omega | (simp_all [bB] <;> omega) | simp_all [bB])
  ·intro q1 q2 q3 q4;((try dsimp only at *);first | assumption | omega | (simp_all [bB] <;> omega) | simp_all [bB])
 | ucn hp hw=>
  dsimp only at *;subst hp;simp only[fO,fN,fH,fQ,dC,dZ,fU] at e1 e2 e3 e4 e5 e6 e7 m1 m2 m3 m4 m5 m6;refine⟨by exact c9 rfl (by intro e;cases e) hT.it (fun e=>by cases e) (fun e=>by rcases e with e | e <;> cases e),?_,?_,?_⟩
  ·refine⟨?_,?_,?_,?_⟩ <;> ((try dsimp only at *);first | assumption | omega | (simp_all [bB] <;> omega) | simp_all [bB])
  ·((try dsimp only at *);first | assumption | omega | (simp_all [bB] <;> omega) | simp_all [bB])
  ·intro q1 q2 q3 q4;((try dsimp only at *);first | assumption | omega | (simp_all [bB] <;> omega) | simp_all [bB])
 | ux hp=>
  dsimp only at *;subst hp;obtain⟨g1,g2,g3,g4,g5,g6⟩:=Tb {pc:=.ux,old:=⟨wl,ww,p7,wc⟩,aw:=aw,sv:=sv,ws:=ws,it:=it,left:=left,h:=th};have gu:=@Te {pc:=.ux,old:=⟨wl,ww,p7,wc⟩,aw:=aw,sv:=sv,ws:=ws,it:=it,left:=left,h:=th};rw[g1] at e1;rw[g2] at e2;rw[g3] at e3;rw[g4] at e4;rw[g5] at e5;rw[g6] at e6;simp only[fO,fN,fH,fQ,dC,dZ,fU] at e1 e2 e3 e4 e5 e6 m1 m2 m3 m4 m5 m6;dsimp only at gu;refine⟨Cn hT.it,⟨by omega,by omega,by omega,by omega⟩,i5,fun q1 q2 q3 q4=>?_⟩;rw[gu (by omega) q1 q2 q3] at e7;have:=i6 q1 q2 q3 q4;have h2:fU {pc:=Pc.ux,old:=old,aw:=aw,sv:=sv,ws:=ws,it:=it,left:=left,h:=th}=1:=rfl;omega
 | us hp=>
  dsimp only at *;subst hp;cases th <;> simp only[fO,fN,fH,fQ,dC,dZ,fU,bB,Bool.not_true,Bool.not_false,if_true,reduceIte,Bool.false_eq_true] at e1 e2 e3 e4 e5 e6 e7 m1 m2 m3 m4 m5 m6 ⊢
  ·exact⟨by exact c9 rfl (by intro e;cases e) (by first | exact Nat.zero_le _ | assumption) (fun e=>by cases e) (fun e=>by rcases e with e | e <;> cases e),⟨by simp only[bB] at i1;omega,by simp only[bB] at i2;omega,by simp only[bB] at i3;omega,by omega⟩,i5,fun q1 q2 q3 q4=>by have:=i6 q1 q2 q3 q4;omega⟩
  ·exact⟨by exact c9 rfl (by intro e;cases e) (by first | exact Nat.zero_le _ | assumption) (fun e=>by cases e) (fun e=>by rcases e with e | e <;> cases e),⟨by simp only[bB] at i1;omega,by simp only[bB] at i2;omega,by simp only[bB] at i3;omega,by omega⟩,i5,fun q1 q2 q3 q4=>by have:=i6 q1 q2 q3 q4;omega⟩
end Mu
end Go.Mz
namespace Go.Mz
namespace Mu
theorem mM{f:Th→Nat}:∀{l:List Th},(∀T∈l,f T=0)→sum f l=0
 | [],_=>rfl
 | T::l,h=>by simp only[sum];have:=h T List.mem_cons_self;have:=mM (f:=f) fun x hx=>h x (List.mem_cons_of_mem _ hx);omega
theorem HB{f:Th→Nat}:∀{l:List Th} {i j:Nat} {T U:Th},i≠j→l[i]?=some T→l[j]?=some U→f T+f U≤sum f l
 | [],_,_,_,_,_,h,_=>by simp at h
 | x::l,0,0,_,_,h,_,_=>absurd rfl h
 | x::l,0,j+1,T,U,_,h1,h2=>by
  simp at h1;subst h1;have:=iz (f:=f) (List.mem_of_getElem? (show l[j]?=some U by simpa using h2));simp only[sum];omega
 | x::l,i+1,0,T,U,_,h1,h2=>by
  simp at h2;subst h2;have:=iz (f:=f) (List.mem_of_getElem? (show l[i]?=some T by simpa using h1));simp only[sum];omega
 | x::l,i+1,j+1,T,U,h,h1,h2=>by
  have:=HB (f:=f) (l:=l) (i:=i) (j:=j) (fun e=>h (by rw[e])) (by simpa using h1) (by simpa using h2);simp only[sum];omega
theorem DF(b:Bool):bB b≤1:=by cases b <;> decide
theorem Fy{b:Bool}(h:0<bB b):b=true:=by cases b with | true=>rfl | false=>exact absurd h (by decide)
theorem Inv.abv{l:List Th}{S:Sh}(h:Inv l S){i j:Nat}{T U:Th}(lJ:i≠j)(hi:l[i]?=some T)(hj:l[j]?=some U)(h1:T.pc=.own∨T.pc=.u0)(h2:U.pc=.own∨U.pc=.u0):False:=by
 have:=HB (f:=fO) lJ hi hj;rw[h.own] at this;have:=DF S.w.l;have e1:fO T=1:=by unfold fO;rcases h1 with e | e <;> rw[e]
 have e2:fO U=1:=by unfold fO;rcases h2 with e | e <;> rw[e]
 omega
theorem Inv.held{l:List Th}{S:Sh}(h:Inv l S){T:Th}(hT:T∈l)(h1:T.pc=.own∨T.pc=.u0):S.w.l=true:=by
 have:=iz (f:=fO) hT;have e1:fO T=1:=by unfold fO;rcases h1 with e | e <;> rw[e]
 exact Fy (by rw[←h.own];omega)
theorem Inv.handed{l:List Th}{S:Sh}(h:Inv l S){T:Th}(hT:T∈l)(h1:0<dC T):S.w.l=false∧S.w.s=true∧S.w.w=false∧0<S.w.c:=by
 have m1:=iz (f:=dC) hT;have m2:=pq Ri l;have m3:=pq Tf l;have h2:(!S.w.l&&S.w.s)=true:=Fy (by rw[←h.fZ];omega);rw[Bool.and_eq_true,Bool.not_eq_true'] at h2;have h3:=h.sw h2.2;have h4:=h.wok;rw[h3] at h4;have:bB false=0:=rfl;have:=h.cnt;exact⟨h2.1,h2.2,h3,by omega⟩
theorem Inv.woken{l:List Th}{S:Sh}(h:Inv l S){T:Th}(hT:T∈l)(h1:T.pc=.r2)(hs:S.w.s=true):0<dC T:=by
 have m2:=iz (f:=fN) hT;have h3:=h.sw hs;have h4:=h.wok;rw[h3] at h4;have:bB false=0:=rfl;have e:fN T=bB (!T.h):=by unfold fN;rw[h1]
 have e2:dC T=bB T.h:=by unfold dC;rw[h1]
 cases hh:T.h with
 | true=>rw[e2,hh];decide
 | false=>rw[hh] at e;have:bB (!false)=1:=rfl;omega
theorem Inv.live{l:List Th}{S:Sh}(h:Inv l S){T:Th}(hT:T∈l)(h1:T.pc=.s1)(hn:S.n=0)(hh:S.h=0):∃U∈l,U.pc≠.s1∧U.pc≠.out:=by
 refine Classical.byContradiction fun hc=>?_;have all:∀U∈l,U.pc=.s1∨U.pc=.out:=fun U hU=>Classical.byContradiction fun e=>hc ⟨U,hU,fun e1=>e (.inl e1),fun e2=>e (.inr e2)⟩;have z:∀(f:Th→Nat),(∀U:Th,U.pc=.s1∨U.pc=.out→f U=0)→sum f l=0:=fun f hf=>mM fun U hU=>hf U (all U hU);have z1:=z fO fun U hU=>by unfold fO;rcases hU with e | e <;> rw[e]
 have z2:=z fN fun U hU=>by unfold fN;rcases hU with e | e <;> rw[e]
 have z3:=z fH fun U hU=>by unfold fH;rcases hU with e | e <;> rw[e]
 have z4:=z dC fun U hU=>by unfold dC;rcases hU with e | e <;> rw[e]
 have z5:=z dZ fun U hU=>by unfold dZ;rcases hU with e | e <;> rw[e]
 have z6:=z fU fun U hU=>by unfold fU;rcases hU with e | e <;> rw[e]
 have q:fQ T=1:=by unfold fQ;rw[h1]
 have m:=iz (f:=fQ) hT;obtain⟨_,i1,i2,i3,i4,i5,i6⟩:=h;have hl:S.w.l=false:=by cases e:S.w.l with | false=>rfl | true=>rw[e] at i1;have:bB true=1:=rfl;omega
 have hw:S.w.w=false:=by cases e:S.w.w with | false=>rfl | true=>rw[e] at i2;have:bB true=1:=rfl;omega
 have hs:S.w.s=false:=by cases e:S.w.s with | false=>rfl | true=>rw[e,hl] at i3;have:bB (!false&&true)=1:=rfl;omega
 have:=i6 hl hw hs (by omega);omega
def v(T:Th):Nat:=7 *T.left+match T.pc with
 | .out=>0
 | .l0=>6
 | .r0 | .sq | .c1 | .r1 | .c2 | .r3=>if T.aw then 5 else 6
 | .t1 | .s1=>4
 | .t2 | .r2=>5
 | .a1=>4
 | .own | .u0=>3
 | .uc | .ux=>2
 | .us=>1
def kz(w:Wd)(T:Th):Nat:=if T.old=w then 0 else 1
def loc(w:Wd)(T:Th):Nat:=match T.pc with
 | .out=>0
 | .l0=>49
 | .r0=>8 * (5 - T.it)+7
 | .r3=>8 * (5 - T.it)+7
 | .sq=>8 * (5 - T.it)+4+16 *kz w T
 | .c1=>8 * (5 - T.it)+2+16 *kz w T
 | .r1=>8 * (5 - T.it)+1
 | .c2=>8 * (5 - T.it)+3+16 *kz w T
 | .t1=>52
 | .s1=>51
 | .t2=>50
 | .r2=>49
 | .a1=>48
 | .own=>2
 | .u0=>1
 | .uc=>3+16 *kz w T
 | .ux=>5
 | .us=>1
theorem Vu(w:Wd)(T:Th):loc w T≤64:=by
 have:kz w T≤1:=by unfold kz;split <;> omega
 unfold loc
 split <;> omega
theorem aab(w w':Wd)(T:Th):loc w' T≤loc w T+16:=by
 have h1:kz w' T≤1:=by unfold kz;split <;> omega
 unfold loc
 split <;> omega
theorem Hz(w w':Wd):∀l:List Th,sum (loc w') l≤sum (loc w) l+16 *l.length
 | []=>Nat.le_refl _
 | T::l=>by have:=Hz w w' l;have:=aab w w' T;simp only[sum,List.length_cons];omega
def meas(l:List Th)(S:Sh):Nat:=(64+16 *l.length+1) * (sum v l+(S.n+S.h))+sum (loc S.w) l
theorem AW{w:Wd}{T:Th}(h:w≠T.old):kz w T=1:=if_neg fun e=>h e.symm
theorem Tg{T:Th}:v (hd T)=7 *T.left+if T.aw then 5 else 6:=by unfold hd;split <;> rfl
theorem Ev{w:Wd}{T:Th}(h:T.old=w):loc w (hd T)≤8 * (5 - T.it)+4:=by
 have s:∀U:Th,U.old=w→kz w U=0:=fun U e=>if_pos e;unfold hd
 split
 ·simp only[loc,s _ (show({T with pc:=Pc.sq}:Th).old=w from h)];omega
 ·simp only[loc,s _ (show({T with pc:=Pc.c2}:Th).old=w from h)];omega
theorem Ti(T:Th):v (j0 T)≤7 *T.left+2:=by unfold j0;split <;> simp[v]
theorem RL{w:Wd}{T:Th}(h:T.old=w):loc w (j0 T)≤3:=by
 have s:∀U:Th,U.old=w→kz w U=0:=fun U e=>if_pos e;unfold j0
 split
 ·simp[loc]
 ·simp only[loc,s _ (show({T with pc:=Pc.uc}:Th).old=w from h)];omega
theorem N3{T T':Th}{S S':Sh}(hT:Good T)(hs:Step T S T' S'):v T'+(S'.n+S'.h)+1≤v T+(S.n+S.h)∨(v T'+(S'.n+S'.h)≤v T+(S.n+S.h)∧S'.w=S.w∧loc S.w T'<loc S.w T):=by
 obtain⟨pc,old,aw,sv,ws,it,left,th⟩:=T;cases hs with
 | out hp hl=>dsimp only at hp hl;subst hp;left;simp only[v];omega
 | Z8 hp hw=>dsimp only at hp;subst hp;left;simp only[v];omega
 | Z7 hp hw=>dsimp only at hp;subst hp;right;exact⟨by simp[v],rfl,by simp[loc]⟩
 | r0 hp=>
  dsimp only at hp
  right
  rcases hp with rfl | rfl
  all_goals
   refine⟨by rw[Tg];simp only[v];omega,rfl,Nat.lt_of_le_of_lt (Ev rfl) ?_⟩;simp only[loc];omega
 | r1 hp=>
  dsimp only at hp;subst hp;have h4:=hT.r1 rfl;dsimp only at h4
  right
  refine⟨by rw[Tg];simp only[v];omega,rfl,Nat.lt_of_le_of_lt (Ev rfl) ?_⟩;simp only[loc];omega
 | V7 hp=>dsimp only at hp;subst hp;right;exact⟨by simp only[v];omega,rfl,by simp only[loc,kz];omega⟩
 | sqc hp hi ha hw hc=>dsimp only at hp;subst hp;right;exact⟨by simp only[v];omega,rfl,by simp only[loc,kz];omega⟩
 | sqr hp hi=>dsimp only at hp;subst hp;right;exact⟨by simp only[v];omega,rfl,by simp only[loc,kz];omega⟩
 | Yf hp hw=>
  dsimp only at hp;subst hp;have h1:=(hT.c1 rfl).1;dsimp only at h1;subst h1
  left;simp[v];omega
 | Ye hp hw=>dsimp only at hp;subst hp;right;exact⟨by simp only[v];omega,rfl,by simp only[loc];rw[AW hw];omega⟩
 | Yh hp hw hl hs=>dsimp only at hp;subst hp;left;simp only[v];cases aw <;> simp <;> omega
 | Yi hp hw hl=>dsimp only at hp;subst hp;left;cases ws <;> cases aw <;> simp[v] <;> omega
 | Yg hp hw=>dsimp only at hp;subst hp;right;exact⟨by simp only[v];omega,rfl,by simp only[loc];rw[AW hw];omega⟩
 | t1 b hp=>dsimp only at hp;subst hp;right;exact⟨by simp only[v];omega,rfl,by simp only[loc];omega⟩
 | s1n hp hn hh=>dsimp only at hp;subst hp;right;cases sv <;> exact⟨by simp[v];omega,rfl,by simp[loc]⟩
 | s1h hp hh=>dsimp only at hp;subst hp;right;cases sv <;> exact⟨by simp[v];omega,rfl,by simp[loc]⟩
 | t2 b hp=>dsimp only at hp;subst hp;right;exact⟨by simp only[v];omega,rfl,by simp only[loc];omega⟩
 | r2s hp hs=>dsimp only at hp;subst hp;right;exact⟨by simp only[v];omega,rfl,by simp only[loc];omega⟩
 | VM hp hs=>
  dsimp only at hp;subst hp
  right
  refine⟨by rw[Tg];simp[v],rfl,Nat.lt_of_le_of_lt (Ev rfl) ?_⟩;simp only[loc];omega
 | a1 hp=>dsimp only at hp;subst hp;left;simp only[v];omega
 | own hp=>dsimp only at hp;subst hp;right;exact⟨by simp only[v];omega,rfl,by simp only[loc];omega⟩
 | u0z hp hw=>dsimp only at hp;subst hp;left;simp only[v];omega
 | u0s hp hs=>dsimp only at hp;subst hp;left;simp only[v];omega
 | u0n hp hs=>
  dsimp only at hp;subst hp
  left
  have:=Ti {pc:=.u0,left:=left,old:={S.w with l:=false}};dsimp only at this ⊢;simp only[v] at this ⊢;omega
 | ucy hp hw=>dsimp only at hp;subst hp;left;simp only[v];omega
 | ucn hp hw=>dsimp only at hp;subst hp;right;exact⟨by simp only[v];omega,rfl,by simp only[loc];rw[AW hw];omega⟩
 | ux hp=>
  dsimp only at hp;subst hp
  right
  refine⟨?_,rfl,Nat.lt_of_le_of_lt (RL rfl) (by simp only[loc];omega)⟩;have:=Ti {pc:=.ux,old:=S.w,aw:=aw,sv:=sv,ws:=ws,it:=it,left:=left,h:=th};dsimp only at this ⊢;simp only[v] at this ⊢;omega
 | us hp=>dsimp only at hp;subst hp;right;exact⟨by cases th <;> simp[v] <;> omega,rfl,by simp only[loc];omega⟩
theorem wR{l:List Th}{k:Nat}{T T':Th}{S S':Sh}(hT:Good T)(hk:l[k]?=some T)(hs:Step T S T' S'):meas (l.set k T') S'<meas l S:=by
 have e1:=dG v T' hk;have m1:=iz (f:=v) (List.mem_of_getElem? hk);unfold meas;rw[List.length_set];rcases N3 hT hs with h | ⟨h1,h2,h3⟩
 ·have e2:=dG (loc S'.w) T' hk;have e3:=Hz S.w S'.w l;have e4:=Vu S'.w T';have hv:sum v (l.set k T')+(S'.n+S'.h)+1≤sum v l+(S.n+S.h):=by omega
  have:=Nat.mul_le_mul_left (64+16 *l.length+1) hv;rw[Nat.mul_add] at this;omega
 ·have e2:=dG (loc S'.w) T' hk;have hv:sum v (l.set k T')+(S'.n+S'.h)≤sum v l+(S.n+S.h):=by omega
  have:=Nat.mul_le_mul_left (64+16 *l.length+1) hv;rw[h2] at e2 ⊢;omega
end Mu
end Go.Mz
