/- Lemmas on which the claim leans. -/
import Derived.Test.YtjhpkghkgaekcaaGreatDoorMzLe
set_option maxRecDepth 100000
namespace Go.Mz
open Go.Conc Go.Proofs
variable {X:ax Tryz.prog}
def abm:Array Value→Sem Value:=Extern.AbiNoEscape.same
def eMk:Array Value→Sem Value:=Extern.BytealgMakeNoZero.makeNoZero #[3] #[361]
theorem Uu:Ext Tryz.prog 259 Tryz.f259 abm:=⟨Tryz.func259,by kernel_rfl,rfl,by kernel_rfl,by kernel_rfl⟩
theorem Yy:Ext Tryz.prog 260 Tryz.f260 eMk:=⟨Tryz.func260,by kernel_rfl,rfl,by kernel_rfl,by kernel_rfl⟩
theorem aao(v:Value)(L:LH):jN Tryz.prog 259 [v] L (fun u L'=>u=v∧L=L'):=jN.pure Uu fun _ _ _=>rfl
theorem uK:∀(n t:Nat) (acc:Array Value),(Extern.BytealgMakeNoZero.digits n t acc).size=acc.size+n
 | 0,_,acc=>rfl
 | n+1,t,acc=>by
  unfold Extern.BytealgMakeNoZero.digits;rw[uK n,Array.size_push];omega
theorem acJ(n:Nat)(hn:n≤281474976710656)(L:LH):jN Tryz.prog 260 [.int .i64 n] L (fun u L'=>∃b cap c,L b=none∧u=.slice (some ⟨b,0,none⟩) n cap∧n≤cap∧c.size=cap∧L'=L.put b (.cells c 5)):=by
 refine⟨_,_,Yy,fun R hR=>?_⟩;show az _ _ _ (underlying 361>>= _) R;rw[ae,ao Tryz.underlying361];have h1:(decide ((n:Int)<0)||decide ((n:Int)>2 ^ 48))=false:=by
  rw[decide_eq_false (by omega),decide_eq_false (by omega)];rfl
 simp only[h1,Bool.false_eq_true,if_false,Int.toNat_natCast];rw[ae,lR];intro cap hc;obtain⟨r,rfl⟩:∃r,cap=n+r:=by
  unfold j4 at hc;simp only[Question.forced,Bool.false_eq_true,if_false,Question.cut] at hc;obtain⟨t,ht⟩:=hc;exact⟨_,ht⟩
 rw[ae];refine mF ?_;rw[ae,lR];intro bytes _;rw[ae,fW];intro b hb;rw[ar];exact⟨_,⟨b,n+r,_,aP hR hb,rfl,by omega,by rw[uK];show 0+(n+r)=n+r;omega,rfl⟩,Post.new hR hb _⟩
structure uw(I L:LH)(bb:Nat)(z:Value)(l:List UInt8):Prop where
 le:Le I L
 n:I bb=none
 zz:z=.pointer none∨z=pt bb
 o:∃ad cap,L bb=some (.cells #[z,.slice ad l.length cap] 363 (0,0),true)∧∃ob,dt L 1 5 (.slice ad l.length cap) l.length (l.map mR) ob∧∀b,ob=some b→I b=none∧b≠bb
theorem uJ(I L:LH)(bb:Nat)(z:Value)(v:Value)(hz:z=.pointer none∨z=pt bb)(ho:L bb=some (.cells #[z,v] 363 (0,0),true)):Sp X 242 [pt bb] L (fun u L'=>u=.tuple #[]∧(∀b,b≠bb→L' b=L b)∧L' bb=some (.cells #[pt bb,v] 363 (0,0),true)):=by
 rcases hz with rfl | rfl
 ·refine Sp.enter (n:=20) Tryz.func242 rfl rfl rfl rfl fun C hX _ aG r=>?_;refine W.go 99 rfl ?_;refine W.vf rfl rfl rfl rfl (Vf.load rfl rfl rfl ((show _=some (Value.pointer none) from ay ho rfl))) ?_;refine W.go 99 rfl ?_;refine W.split rfl rfl rfl (fun c=>?_) (fun c=>absurd c (by decide));refine W.go 99 rfl ?_;refine W.vf rfl rfl rfl rfl (Vf.aaG rfl Tryz.underlying360 Tryz.underlying266 AN ho (Nat.zero_lt_succ 1)) ?_;refine W.go 99 rfl ?_;refine W.aB rfl rfl rfl (Ef.ext rfl (aao _ _)) ?_;rintro _ _ _ ⟨_,rfl,rfl,rfl,rfl⟩;refine W.vf rfl rfl rfl rfl (Vf.aaq rfl Tryz.underlying266 Tryz.underlying360 AN ho (by kernel_rfl)) ?_;refine W.go 99 rfl ?_;refine W.dY rfl rfl (Ef.vN rfl ⟨_,rfl,rfl⟩ rfl (cK _ _ _) ho rfl (show 1≤2 by decide) (bY rfl)) ?_;rintro _ _ _ ⟨rfl,rfl,rfl⟩;refine W.go 99 rfl ?_;exact W.lP r rfl rfl ⟨rfl,fun b hb=>au _ _ hb,aj _ _ _⟩
 ·refine Sp.enter (n:=20) Tryz.func242 rfl rfl rfl rfl fun C hX _ aG r=>?_;refine W.go 99 rfl ?_;refine W.vf rfl rfl rfl rfl (Vf.load rfl rfl rfl ((show _=some (pt bb) from ay ho rfl))) ?_;refine W.go 99 rfl ?_;refine W.split rfl rfl rfl (fun h=>absurd (show false=true from h) (by decide)) (fun _=>?_);refine W.go 99 rfl ?_;refine W.vf rfl rfl rfl rfl (Vf.load rfl rfl rfl ((show _=some (pt bb) from ay ho rfl))) ?_;refine W.go 99 rfl ?_;refine W.vf rfl rfl rfl rfl (Vf.Sr rfl rfl Tryz.underlying360 AN (.inr rfl)) ?_;refine W.go 99 rfl ?_;refine W.split rfl rfl rfl (fun c=>absurd c (by decide)) (fun c=>?_);refine W.go 99 rfl ?_;exact W.lP r rfl rfl ⟨rfl,fun _ _=>rfl,ho⟩
theorem uw.checked{I L L':LH}{bb:Nat}{z:Value}{l:List UInt8}(h:uw I L bb z l)(h1:∀b,b≠bb→L' b=L b)(h2:∀v,L bb=some (.cells #[z,v] 363 (0,0),true)→L' bb=some (.cells #[pt bb,v] 363 (0,0),true)):uw I L' bb (pt bb) l:=by
 obtain⟨hle,hn,_,ad,cap,ho,ob,hw,hb⟩:=h;refine⟨fun b x hx=>?_,hn,.inr rfl,ad,cap,h2 _ ho,ob,hw.keep fun b bG=>h1 b (hb b bG).2,hb⟩;rw[h1 b (fun e=>by subst e;rw[hn] at hx;cases hx)];exact hle _ _ hx
theorem mQ(I L:LH)(bb:Nat)(z:Value)(l w:List UInt8)(h:uw I L bb z l)(hl:l.length+w.length≤100000):Sp X 219 [pt bb,str w] L (fun u L'=>uw I L' bb (pt bb) (l++w)):=by
 obtain⟨_,_,hz,ad,cap,ho,_⟩:=id h;refine Sp.enter (n:=19) Tryz.func219 rfl rfl rfl rfl fun C hX _ aG r=>?_;refine W.go 99 rfl ?_;refine W.aB rfl rfl rfl (Ef.call rfl (uJ L L bb z _ hz ho)) ?_;rintro _ _ _ ⟨_,rfl,rfl,rfl,h1,h2⟩;have h:=h.checked h1 (fun v hv=>by rw[ho] at hv;cases hv;exact h2);rename_i L1;clear h1 h2 ho;obtain⟨hle,hn,_,ad,cap,ho,ob,hw,hb⟩:=h;refine W.go 99 rfl ?_;refine W.vf rfl rfl rfl rfl (Vf.load rfl rfl rfl ((show _=some (Value.slice ad l.length cap) from ay ho rfl))) ?_;refine W.go 99 rfl ?_;refine W.aB rfl rfl rfl (Ef.lX rfl rfl rfl rfl rfl rfl rfl rfl rfl (by intro u hu;obtain⟨_,_,rfl⟩:=List.mem_map.1 hu;rfl) hw (YC.str rfl rfl) (by omega)) ?_;rintro _ _ _ ⟨v1,BK,rfl,rfl,jY,iL⟩;rename_i L2;have hf:L2 bb=L1 bb∧Le I L2∧∀b,BK=some b→I b=none∧b≠bb:=by
  rcases iL with⟨rfl,rfl,_⟩ | ⟨b,c,rfl,rfl,⟨rfl,_⟩ | oP⟩
  ·exact⟨rfl,hle,fun b hb=>by cases hb⟩
  ·obtain⟨g1,g2⟩:=hb b rfl;exact⟨au _ _ g2.symm,aC hle g1 _,fun b' bG=>by cases bG;exact⟨g1,g2⟩⟩
  ·have g2:b≠bb:=fun e=>by rw[e,ho] at oP;cases oP
   exact⟨au _ _ g2.symm,hle.trans (Le.put oP _),fun b' bG=>by cases bG;exact⟨aP hle oP,g2⟩⟩
 clear iL;obtain⟨f1,f2,f3⟩:=hf;obtain⟨gM,dM,rfl,_⟩:=jY.slice;rw[ho] at f1;refine W.go 99 rfl ?_;refine W.dY rfl rfl (Ef.vN rfl ⟨_,rfl,rfl⟩ rfl (cK _ _ _) f1 rfl (show 1+1≤2 by decide) (bY rfl)) ?_;rintro _ _ _ ⟨rfl,rfl,rfl⟩;refine W.go 99 rfl ?_;refine W.ret r rfl rfl ?_;have hlen:(l++w).length=l.length+w.length:=List.length_append;refine⟨aC f2 hn _,hn,.inr rfl,gM,dM,by rw[hlen];exact aj _ _ _,BK,?_,f3⟩;rw[hlen,List.map_append];exact jY.keep fun b hb=>au _ _ (f3 b hb).2
theorem PT(I L:LH)(bb n:Nat)(hle:Le I L)(hn:I bb=none)(ho:L bb=some (.cells #[pt bb,.slice none 0 0] 363 (0,0),true))(hn9:n≤1000000):Sp X 243 [pt bb,.int .i64 n] L (fun u L'=>u=.tuple #[]∧uw I L' bb (pt bb) []):=by
 refine Sp.enter (n:=30) Tryz.func243 rfl rfl rfl rfl fun C hX _ aG r=>?_;refine W.go 99 rfl ?_;refine W.drawn (by kernel_rfl) _ (Le.refl _) ?_;refine DD.run' [0,1,2,6,9,10,11] rfl ?_;refine DD.vf 3 rfl rfl rfl rfl rfl (Vf.load rfl rfl rfl ((show _=some (Value.slice none 0 0) from ay ho rfl))) ?_;refine DD.vf 12 rfl rfl rfl rfl rfl (Vf.load rfl rfl rfl ((show _=some (Value.slice none 0 0) from ay ho rfl))) ?_;refine DD.run' [4,5,7,13] rfl ?_;have hw:IntKind.i64.wrap (IntKind.i64.wrap (2 * ((0:Nat):Int))+(n:Int))=(n:Int):=by
  rw[show IntKind.i64.wrap (2 * ((0:Nat):Int))=0 from rfl,Int.zero_add];exact wrap64_in _ (by omega) (by omega)
 rw[hw];refine DD.act 8 rfl rfl rfl rfl rfl (Ef.ext rfl (acJ n (by omega) L)) ((by rintro _ _ _ ⟨_,rfl,rfl,_,_,_,hb,_,_,_,rfl⟩;exact⟨Le.put hb _,rfl,.inl rfl⟩)) ?_;rintro _ _ _ ⟨_,rfl,rfl,b,cap,c,hb,rfl,qg,il,rfl⟩;refine DD.vf 14 rfl rfl rfl rfl rfl (Vf.vJ (i:=0) (j:=0) rfl Tryz.underlying361 aay rfl rfl rfl rfl (Nat.zero_le _) (Nat.zero_le _)) ?_;have ha:(if cap=0 then some (⟨b,0,none⟩:Addr) else Option.map (fun a:Addr=>a.add (0 * 1)) (some ⟨b,0,none⟩))=some ⟨b,0,none⟩:=by
  split
  ·rfl
  ·simp[cK]
 rw[ha,Nat.sub_zero,Nat.sub_zero];refine DD.run' [15] rfl ?_;refine .fin rfl ?_;refine W.go 99 rfl ?_;have wE:b≠bb:=fun e=>by rw[e,ho] at hb;cases hb
 have oU:(L.put b (.cells c 5)) bb=some (.cells #[pt bb,.slice none 0 0] 363 (0,0),true):=(au _ _ wE.symm).trans ho;refine W.vf rfl rfl rfl rfl (Vf.load rfl rfl rfl ((show _=some (Value.slice none 0 0) from ay oU rfl))) ?_;refine W.go 99 rfl ?_;refine W.aB rfl rfl rfl (Ef.copy rfl rfl rfl rfl (.nil rfl) (Nat.le_refl _) (aj _ _ _) (Nat.zero_le _) (fun u hu=>by simp at hu)) ?_;rintro _ _ _ ⟨rfl,rfl,rfl⟩;refine W.go 99 rfl ?_;have ho3:((L.put b (.cells c 5)).put b (.cells c 5)) bb=some (.cells #[pt bb,.slice none 0 0] 363 (0,0),true):=(au _ _ wE.symm).trans oU;refine W.dY rfl rfl (Ef.vN rfl ⟨_,rfl,rfl⟩ rfl (cK _ _ _) ho3 rfl (show 1+1≤2 by decide) (bY rfl)) ?_;rintro _ _ _ ⟨rfl,rfl,rfl⟩;refine W.go 99 rfl ?_;exact W.lP r rfl rfl ⟨rfl,aC (aC (hle.trans (Le.put hb _)) (aP hle hb) _) hn _,hn,.inr rfl,some ⟨b,0,none⟩,cap,aj _ _ _,some b,⟨cap,c,rfl,(au _ _ wE).trans (aj _ _ _),by omega,Nat.zero_le _,rfl,fun i x hx=>by simp at hx⟩,fun b' bG=>by cases bG;exact⟨aP hle hb,wE⟩⟩
theorem TC(I L:LH)(bb n:Nat)(hle:Le I L)(hn:I bb=none)(ho:L bb=some (.cells #[.pointer none,.slice none 0 0] 363 (0,0),true))(hn9:n≤1000000):Sp X 218 [pt bb,.int .i64 n] L (fun u L'=>uw I L' bb (pt bb) []):=by
 refine Sp.enter (n:=25) Tryz.func218 rfl rfl rfl rfl fun C hX _ aG r=>?_;refine W.go 99 rfl ?_;refine W.aB rfl rfl rfl (Ef.call rfl (uJ L L bb _ _ (.inl rfl) ho)) ?_;rintro _ _ _ ⟨_,rfl,rfl,rfl,h1,h2⟩;rename_i L1;refine W.go 99 rfl ?_;refine W.split rfl rfl rfl (fun h=>absurd h (by simp)) (fun _=>?_);refine W.go 99 rfl ?_;refine W.drawn (by kernel_rfl) _ (Le.refl _) ?_;refine DD.run' [0,1,2,5,6,7,11] rfl ?_;refine DD.vf 3 rfl rfl rfl rfl rfl (Vf.load rfl rfl rfl ((show _=some (Value.slice none 0 0) from ay h2 rfl))) ?_;refine DD.vf 8 rfl rfl rfl rfl rfl (Vf.load rfl rfl rfl ((show _=some (Value.slice none 0 0) from ay h2 rfl))) ?_;refine DD.run' [4,9,10,12] rfl ?_;refine .fin rfl ?_;refine W.go 99 rfl ?_;have Gj:Le I L1:=fun b x hx=>by
  rw[h1 b (fun e=>by subst e;rw[hn] at hx;cases hx)];exact hle _ _ hx
 refine W.split rfl rfl rfl (fun c=>?_) (fun c=>?_)
 ·refine W.go 99 rfl ?_;refine W.aB rfl rfl rfl (Ef.call rfl (PT I L1 bb n Gj hn h2 hn9)) ?_;rintro _ _ _ ⟨_,rfl,rfl,rfl,hB⟩;refine W.go 99 rfl ?_;exact W.lP r rfl rfl hB
 ·refine W.go 99 rfl ?_;exact W.lP r rfl rfl ⟨Gj,hn,.inr rfl,none,0,h2,none,dt.nil,fun b hb=>by cases hb⟩
theorem Mk(I L:LH)(bb:Nat)(z:Value)(l:List UInt8)(h:uw I L bb z l)(h0:0<l.length)(h9:l.length≤100000):Sp X 221 [pt bb] L (fun u L'=>u=str l∧Le I L'):=by
 obtain⟨hle,hn,_,ad,cap,ho,ob,hw,hb⟩:=h;cases ob with
 | none=>obtain⟨_,e,_⟩:=hw;omega
 | some b=>
  obtain⟨O8,c,e1,n8,il,US,_,hc⟩:=hw;cases e1;obtain⟨g1,g2⟩:=hb b rfl;refine Sp.enter (n:=14) Tryz.func221 rfl rfl rfl rfl fun C hX _ aG r=>?_;refine W.go 99 rfl ?_;have YK:(fun x=>if x=b then none else L x:LH) b=none:=if_pos rfl;have YL:∀x,x≠b→(fun x=>if x=b then none else L x:LH) x=L x:=fun x hx=>if_neg hx;generalize(fun x=>if x=b then none else L x:LH)=J at YK YL;have YJ:Le J L:=fun x o hx=>by
   by_cases e:x=b
   ·rw[e,YK] at hx;cases hx
   ·rw[←YL x e];exact hx
  have hoJ:=(YL bb g2.symm).trans ho;refine W.drawn (by kernel_rfl) J YJ ?_;refine DD.run' [0,1,2,5,6,7] rfl ?_;refine DD.vf 3 rfl rfl rfl rfl rfl (Vf.load rfl rfl rfl ((show _=some (Value.slice (some ⟨b,0,none⟩) l.length cap) from ay hoJ rfl))) ?_;refine DD.vf 8 rfl rfl rfl rfl rfl (Vf.load rfl rfl rfl ((show _=some (Value.slice (some ⟨b,0,none⟩) l.length cap) from ay hoJ rfl))) ?_;refine DD.vf 4 rfl rfl rfl rfl rfl (Vf.JP rfl (by omega)) ?_;refine DD.run' [9] rfl ?_;refine DD.act 10 rfl rfl rfl rfl rfl (Ef.string rfl rfl h0 (by omega) Tryz.underlying397 n8 (GH (by kernel_rfl) (by omega) (by decide)) (fun i z hz=>hc i _ (by rw[List.getElem?_map,hz];rfl))) ((by rintro _ _ _ ⟨rfl,rfl,rfl⟩;exact⟨aC YJ YK _,rfl,.inl rfl⟩)) ?_;rintro _ _ _ ⟨rfl,rfl,rfl⟩;refine DD.run' [11] rfl ?_;refine .fin rfl ?_;refine W.go 99 rfl ?_;refine W.ret r rfl rfl ?_;exact⟨rfl,aC hle g1 _⟩
def jc(r:List Bs):Bs:=r.flatMap fun w=>32::w
theorem qY(x:Bs):∀r:List Bs,kg (x::r)=x++jc r
 | []=>by simp[kg,jc]
 | y::r=>by
  show x++32::kg (y::r)=_;rw[qY y r];simp[jc]
theorem x6(q:List Bs)(w:Bs):jc (q++[w])=jc q++[32]++w:=by simp[jc]
theorem nc:∀q:List Bs,(∀w∈q,w.length≤10)→(jc q).length≤11 *q.length
 | [],_=>by simp[jc]
 | w::q,h=>by
  have h1:=nc q fun w hw=>h w (List.mem_cons_of_mem _ hw);have h2:=h w (List.mem_cons_self ..);show(32::w++jc q).length≤11 * (q.length+1);rw[List.length_append,List.length_cons];omega
theorem NY{L:LH}{a:Addr}{cap:Nat}{w:Bs}{r:List Bs}(h:aX L (some a) 1 cI (w::r))(hc:r.length+1≤cap):aX L (if cap=1 then some a else Option.map (fun a:Addr=>a.add (1 * 1)) (some a)) 1 cI r:=by
 by_cases e:cap=1
 ·have:r=[]:=List.eq_nil_of_length_eq_zero (by omega);subst this;exact fun i z hz=>by simp at hz
 ·have:=Hs (cap:=r.length+1) h rfl
  by_cases e2:r.length+1=1
  ·have:r=[]:=List.eq_nil_of_length_eq_zero (by omega);subst this;exact fun i z hz=>by simp at hz
  ·rw[if_neg e2] at this;rw[if_neg e];exact this
theorem TE(ad:Option Addr)(cap:Nat)(l:List Bs)(L:LH)(hl:aX L ad 1 cI l)(hc:l.length≤cap)(hn:l.length≤1000)(hw:∀w∈l,w.length≤10):Sp X 303 [.slice ad l.length cap,str [32]] L (fun u L'=>u=str (kg l)∧Le L L'):=by
 rcases l with _ | ⟨x,_ | ⟨y,r⟩⟩
 ·refine Sp.enter (n:=75) Tryz.func303 rfl rfl rfl rfl fun C hX _ aG r=>?_;refine W.go 99 rfl ?_;refine W.split rfl rfl rfl (fun _=>?_) (fun h=>absurd h (by simp));refine W.go 99 rfl ?_;refine W.ret r rfl rfl ?_;exact⟨rfl,Le.refl _⟩
 ·obtain⟨a,rfl⟩:=hl.addr (i:=0) (Nat.zero_lt_one);refine Sp.enter (n:=75) Tryz.func303 rfl rfl rfl rfl fun C hX _ aG r=>?_;refine W.go 99 rfl ?_;refine W.split rfl rfl rfl (fun h=>absurd h (by simp)) (fun _=>?_);refine W.go 99 rfl ?_;refine W.split rfl rfl rfl (fun _=>?_) (fun h=>absurd h (by simp));refine W.go 99 rfl ?_;refine W.vf rfl rfl rfl rfl (Vf.aW rfl rfl rfl rfl rfl rfl rfl ((show 0<[x].length from Nat.zero_lt_one))) ?_;refine W.go 99 rfl ?_;refine W.vf rfl rfl rfl rfl (Vf.load rfl rfl rfl (jq hl (show[x][0]?=some x from rfl))) ?_;refine W.go 99 rfl ?_;refine W.ret r rfl rfl ?_;exact⟨rfl,Le.refl _⟩
 ·have hN:(x::y::r).length=r.length+2:=rfl;have nm:r.length+2≤1000:=hn;rw[qY];generalize hqq:y::r=q at *;have Q7:0<q.length:=by rw[←hqq];simp
  clear hqq;refine Sp.enter (n:=75) Tryz.func303 rfl rfl rfl rfl fun C hX _ aG r=>?_;refine W.go 99 rfl ?_;refine W.split rfl rfl rfl (fun h=>absurd h (by simp;omega)) (fun _=>?_);refine W.go 99 rfl ?_;refine W.split rfl rfl rfl (fun h=>absurd h (by simp;omega)) (fun _=>?_);refine W.go 99 rfl ?_;have Gs:(x::q).length=q.length+1:=rfl;refine W.split rfl rfl rfl (fun c=>?_) (fun c=>absurd c (by decide));refine W.dv [28] 99 rfl ?_;have hNw:IntKind.i64.wrap (((x::q).length:Int) - 1)=(q.length:Int):=by
   rw[List.length_cons,show((q.length+1:Nat):Int) - 1=(q.length:Int) by omega];exact wrap64_in _ (by omega) (by omega)
  rw[hNw];refine W.vf rfl rfl rfl rfl (Vf.quo rfl rfl (by omega)) ?_;have hdv:1000000000≤IntKind.i64.wrap ((9223372036854775807:Int).tdiv (q.length:Int)):=by
   have h1:(9223372036854775807:Int).tdiv (q.length:Int)=9223372036854775807 / (q.length:Int):=Int.tdiv_eq_ediv_of_nonneg (by decide);have h2:(9223372036854775807:Int) / (q.length:Int)≤9223372036854775807:=Int.ediv_le_self _ (by decide);have h3:(1000000000:Int)≤9223372036854775807 / (q.length:Int):=by
    rw[Int.le_ediv_iff_mul_le (by omega)];omega
   rw[h1,wrap64_in _ (by omega) h2];exact h3
  refine W.go 99 rfl ?_;refine W.split rfl rfl rfl (fun h=>absurd h (by simp;omega)) (fun _=>?_);refine W.go 99 rfl ?_;have h5:IntKind.i64.wrap (0+IntKind.i64.wrap ((([32]:Bs).length:Int) *IntKind.i64.wrap (((x::q).length:Int) - 1)))=(q.length:Int):=by
   rw[hNw,show((([32]:Bs).length:Nat):Int)=1 from rfl,Int.one_mul,wrap64_in (q.length:Int) (by omega) (by omega),Int.zero_add];exact wrap64_in _ (by omega) (by omega)
  refine W.loop (fun m' E B L'=>∃i n:Nat,m'=(x::q).length - i∧i≤(x::q).length∧n≤1000+10 *i∧L=L'∧E=[(0,.v (.slice ad (x::q).length cap)),(1,.v (str [32])),(5,.v (.int .i64 n)),(39,.v (.slice ad (x::q).length cap)),(40,.v (.int .i64 (x::q).length)),(41,.v (.int .i64 i))]∧B=[])
   ⟨0,q.length,rfl,Nat.zero_le _,by omega,rfl,rfl,rfl⟩ (by exact⟨rfl,rfl,congrArg (fun z=>some (SV.v (.int .i64 z))) h5,rfl,rfl,rfl,trivial⟩) (by exact trivial) ?_
  rintro _ _ _ _ ⟨i,n,rfl,hi,gr,rfl,rfl,rfl⟩ again;refine W.go 99 rfl ?_;refine W.split rfl rfl rfl (fun c1=>W.go 99 rfl ?_) (fun c1=>W.go 99 rfl ?_)
  ·have hi:i<(x::q).length:=by have:=of_decide_eq_true c1;omega
   obtain⟨a,rfl⟩:=hl.addr hi;have hx:=List.getElem?_eq_getElem hi;have Rm:=hw _ (List.getElem_mem hi);generalize(x::q)[i]=w at hx Rm;refine W.vf rfl rfl rfl rfl (Vf.aW rfl rfl rfl rfl rfl rfl rfl (hi)) ?_;refine W.go 99 rfl ?_;refine W.vf rfl rfl rfl rfl (Vf.load rfl rfl rfl (jq hl hx)) ?_;refine W.go 99 rfl ?_;have jY:IntKind.i64.wrap (9223372036854775807 - (n:Int))=9223372036854775807 - (n:Int):=wrap64_in _ (by omega) (by omega);refine W.split rfl rfl rfl (fun h=>absurd h (by rw[jY];simp;omega)) (fun _=>?_);refine W.go 99 rfl ?_;exact W.again (again _ _ _ _ (by omega) ⟨i+1,n+w.length,rfl,hi,by omega,rfl,rfl,rfl⟩) (by exact⟨rfl,rfl,congrArg some (congrArg SV.v (congrArg (Value.int .i64) (by show IntKind.i64.wrap ((n:Int)+(w.length:Int))=_;rw[Int.natCast_add];exact wrap64_in _ (by omega) (by omega)))),rfl,rfl,congrArg some (bu (by omega)),trivial⟩) trivial
  ·clear again h5 hdv;have sz:n≤1000000:=by omega
   clear gr;refine W.cw 8 (.inl ⟨_,rfl⟩) rfl rfl ?_;intro bb wE _;refine W.aB rfl rfl rfl (Ef.call rfl (TC L _ bb n (Le.put wE _) wE (aj _ _ _) sz)) ?_;rintro _ _ _ ⟨_,rfl,rfl,hB⟩;rename_i L1;refine W.go 99 rfl ?_;obtain⟨a,rfl⟩:=hl.addr (i:=0) (by omega);refine W.vf rfl rfl rfl rfl (Vf.aW rfl rfl rfl rfl rfl rfl rfl ((show 0<(x::q).length by omega))) ?_;refine W.go 99 rfl ?_;refine W.vf rfl rfl rfl rfl (Vf.load rfl rfl rfl (jq (hl.le hB.le) (show(x::q)[0]?=some x from rfl))) ?_;refine W.go 99 rfl ?_;have adQ:=hw x (List.mem_cons_self ..);refine W.aB rfl rfl rfl (Ef.call rfl (mQ L _ bb _ [] x hB (by simp;omega))) ?_;rintro _ _ _ ⟨u1,rfl,rfl,hB⟩;rename_i L2;refine W.go 99 rfl ?_;refine W.vf rfl rfl rfl rfl (Vf.vJ (i:=1) (j:=(x::q).length) rfl Tryz.underlying33 AO rfl rfl rfl rfl (by omega) hc) ?_;have cu:=NY hl hc;have YS:(x::q).length - 1=q.length:=rfl;rw[YS];generalize(if cap=1 then some a else Option.map (fun a:Addr=>a.add (1 * 1)) (some a))=ta at cu ⊢;refine W.go 99 rfl ?_;refine W.loop (fun m' E B L'=>∃i:Nat,m'=q.length - i∧i≤q.length∧uw L L' bb (pt bb) (x++jc (q.take i))∧E=[(1,.v (str [32])),(8,.v (pt bb)),(63,.v (.slice ta q.length (cap - 1))),(64,.v (.int .i64 q.length)),(65,.v (.int .i64 i))]∧B=[])
    ⟨0,rfl,Nat.zero_le _,by simpa [jc] using hB,rfl,rfl⟩ (by exact⟨rfl,rfl,rfl,rfl,rfl,trivial⟩) (by exact trivial) ?_
   rintro _ _ _ L3 ⟨j,rfl,hj,hB,rfl,rfl⟩ again;refine W.go 99 rfl ?_;refine W.split rfl rfl rfl (fun c2=>W.go 99 rfl ?_) (fun c2=>W.go 99 rfl ?_)
   ·have hj:j<q.length:=by have:=of_decide_eq_true c2;omega
    obtain⟨a',rfl⟩:=cu.addr hj;have Rn:=List.getElem?_eq_getElem hj;have Rl:=hw _ (List.mem_cons_of_mem _ (List.getElem_mem hj));have eI:q.take (j+1)=q.take j++[q[j]]:=List.take_succ_eq_append_getElem hj;have U3:=nc (q.take j) fun w h=>hw _ (List.mem_cons_of_mem _ (List.mem_of_mem_take h));rw[List.length_take,Nat.min_eq_left (by omega)] at U3;have jg:=x6 (q.take j) q[j];rw[←eI] at jg;generalize q[j]=w at Rn Rl jg;refine W.vf rfl rfl rfl rfl (Vf.aW rfl rfl rfl rfl rfl rfl rfl (hj)) ?_;refine W.go 99 rfl ?_;refine W.vf rfl rfl rfl rfl (Vf.load rfl rfl rfl (jq (cu.le hB.le) Rn)) ?_;refine W.go 99 rfl ?_;refine W.aB rfl rfl rfl (Ef.call rfl (mQ L _ bb _ _ [32] hB (by rw[List.length_append,List.length_singleton];omega))) ?_;rintro _ _ _ ⟨u2,rfl,rfl,hB1⟩;refine W.go 99 rfl ?_;refine W.aB rfl rfl rfl (Ef.call rfl (mQ L _ bb _ _ w hB1 (by rw[List.length_append,List.length_append,List.length_singleton];omega))) ?_;rintro _ _ _ ⟨u3,rfl,rfl,F2⟩;refine W.go 99 rfl ?_;exact W.again (again _ _ _ _ (by omega) ⟨j+1,rfl,hj,by rw[jg];simpa only[List.append_assoc] using F2,rfl,rfl⟩) (by exact⟨rfl,rfl,rfl,rfl,congrArg some (bu (by omega)),trivial⟩) trivial
   ·have yu:j=q.length:=by have:=of_decide_eq_false c2;omega
    subst yu;rw[List.take_of_length_le (Nat.le_refl _)] at hB;have U3:=nc q fun w h=>hw _ (List.mem_cons_of_mem _ h);have ht0:0<(jc q).length:=by
     cases q with
     | nil=>exact absurd Q7 (by decide)
     | cons w q=>show 0<(32::w++jc q).length;simp
    refine W.aB rfl rfl rfl (Ef.call rfl (Mk L _ bb _ _ hB (by rw[List.length_append];omega) (by rw[List.length_append];omega))) ?_;rintro _ _ _ ⟨_,rfl,rfl,rfl,hle⟩;refine W.go 99 rfl ?_;refine W.ret r rfl rfl ?_;exact⟨rfl,hle⟩
def Pd:Bs:=[48,49,50,51,52,53,54,55,56,57,97,98,99,100,101,102,103,104,105,106,107,108,109,110,111,112,113,114,115,116,117,118,119,120,121,122]
def EG:Bs:=(List.range 100).flatMap fun n=>[(48+n / 10).toUInt8,(48+n % 10).toUInt8]
theorem abh:∀n:Fin 10,(Pd.drop n.val).take (n.val+1 - n.val)=bH n.val:=by decide+kernel
theorem abi:∀n:Fin 100,10≤n.val→(EG.drop (n.val * 2)).take (n.val * 2+2 - n.val * 2)=bH n.val:=by decide+kernel
theorem Js:EG.length=200:=by decide+kernel
theorem SH(n:Nat)(L:LH)(hn:n<100):Sp X 253 [.int .i64 n] L (fun u L'=>u=str (bH n)∧L=L'):=by
 refine Sp.enter (n:=15) Tryz.func253 rfl rfl rfl rfl fun C hX _ aG r=>?_;refine W.go 99 rfl ?_;refine W.split rfl rfl rfl (fun c=>?_) (fun c=>?_)
 ·have hc:n<10:=by have:=of_decide_eq_true c;omega
  refine W.go 99 rfl ?_;refine W.vf rfl rfl rfl rfl (Vf.xh (l:=Pd) (i:=n) (j:=n+1) rfl rfl rfl rfl rfl rfl (by rw[wrap64_in _ (by omega) (by omega)];omega) (by omega) (by show n+1≤36;omega)) ?_;have:=abh ⟨n,hc⟩;simp only at this;rw[this];refine W.go 99 rfl ?_;exact W.ret r rfl rfl ⟨rfl,rfl⟩
 ·have hc:10≤n:=by have:=of_decide_eq_false c;omega
  refine W.go 99 rfl ?_;refine W.vf rfl rfl rfl rfl (Vf.xh (l:=EG) (i:=n * 2) (j:=n * 2+2) (by kernel_rfl) rfl rfl rfl rfl (by rw[wrap64_in _ (by omega) (by omega)];omega) (by rw[wrap64_in ((n:Int) * 2) (by omega) (by omega),wrap64_in _ (by omega) (by omega)];omega) (by omega) (by rw[Js];omega)) ?_;have:=abi ⟨n,hn⟩ hc;simp only at this;rw[this];refine W.go 99 rfl ?_;exact W.ret r rfl rfl ⟨rfl,rfl⟩
theorem Mc(n:Nat)(L:LH)(hn:n<100):Sp X 226 [.int .i64 n,.int .i64 10] L (fun u L'=>u=str (bH n)∧L=L'):=by
 refine Sp.enter (n:=54) Tryz.func226 rfl rfl rfl rfl fun C hX _ aG r=>?_;refine W.go 99 rfl ?_;refine W.split rfl rfl rfl (fun c=>?_) (fun c=>absurd c (by decide));refine W.go 99 rfl ?_;refine W.split rfl rfl rfl (fun _=>?_) (fun h=>absurd h (by simp));refine W.go 99 rfl ?_;refine W.split rfl rfl rfl (fun _=>?_) (fun h=>absurd h (by simp;omega));refine W.go 99 rfl ?_;refine W.aB rfl rfl rfl (Ef.call rfl (SH n _ hn)) ?_;rintro _ _ _ ⟨_,rfl,rfl,rfl,rfl⟩;refine W.go 99 rfl ?_;exact W.ret r rfl rfl ⟨rfl,rfl⟩
theorem OC(n:Nat)(L:LH)(hn:n<100):Sp X 187 [.int .i64 n] L (fun u L'=>u=str (bH n)∧L=L'):=by
 refine Sp.enter (n:=5) Tryz.func187 rfl rfl rfl rfl fun C hX _ aG r=>?_;refine W.go 99 rfl ?_;refine W.aB rfl rfl rfl (Ef.call rfl (Mc n _ hn)) ?_;rintro _ _ _ ⟨_,rfl,rfl,rfl,rfl⟩;refine W.go 99 rfl ?_;exact W.ret r rfl rfl ⟨rfl,rfl⟩
theorem uy(n:Nat)(L:LH)(hn:n<100):Sp X 149 [.int .i64 n] L (fun u L'=>u=str (bH n)∧L=L'):=by
 refine Sp.enter (n:=5) Tryz.func149 rfl rfl rfl rfl fun C hX _ aG r=>?_;refine W.go 99 rfl ?_;refine W.aB rfl rfl rfl (Ef.call rfl (OC n _ hn)) ?_;rintro _ _ _ ⟨_,rfl,rfl,rfl,rfl⟩;refine W.go 99 rfl ?_;exact W.ret r rfl rfl ⟨rfl,rfl⟩
theorem ij:∀n:Fin 100,(bH n.val).length≤2:=by decide+kernel
theorem Dd(ad:Option Addr)(cap:Nat)(l:List Nat)(L:LH)(hl:aN L ad (l.map Int.ofNat))(hn:l.length≤100)(hb:∀n∈l,n<100):Sp X 301 [.slice ad l.length cap] L (fun u L'=>u=str (kg (l.map bH))∧Le L L'):=by
 refine Sp.enter (n:=20) Tryz.func301 rfl rfl rfl rfl fun C hX _ aG r=>?_;refine W.go 99 rfl ?_;refine W.loop (fun m' E B L'=>∃(i:Nat) (ua:Option Addr) (uc:Nat),m'=l.length - i∧i≤l.length∧bM L 1 9 cI L' (.slice ua i uc) ((l.take i).map bH)∧E=[(3,.v (.slice ua i uc)),(6,.v (.slice ad l.length cap)),(7,.v (.int .i64 l.length)),(8,.v (.int .i64 i))]∧B=[])
  ⟨0,none,0,rfl,Nat.zero_le _,bM.nil (Le.refl _),rfl,rfl⟩ (by exact⟨rfl,rfl,rfl,rfl,trivial⟩) (by exact trivial) ?_
 rintro _ _ _ L1 ⟨i,ua,uc,rfl,hi,hg,rfl,rfl⟩ again;refine W.go 99 rfl ?_;refine W.split rfl rfl rfl (fun c1=>W.go 99 rfl ?_) (fun c1=>W.go 99 rfl ?_)
 ·have hi:i<l.length:=by have:=of_decide_eq_true c1;omega
  obtain⟨a,rfl⟩:=hl.addr (i:=i) (by rw[List.length_map];exact hi);have hx:=List.getElem?_eq_getElem hi;have vm:(l.map Int.ofNat)[i]?=some (Int.ofNat l[i]):=by rw[List.getElem?_map,hx];rfl
  have hbi:=hb _ (List.getElem_mem hi);have eI:l.take (i+1)=l.take i++[l[i]]:=List.take_succ_eq_append_getElem hi;have U3:((l.take i).map bH).length=i:=by rw[List.length_map,List.length_take];omega
  generalize l[i]=n at hx vm hbi eI;refine W.vf rfl rfl rfl rfl (Vf.aW rfl rfl rfl rfl rfl rfl rfl (hi)) ?_;refine W.go 99 rfl ?_;refine W.vf rfl rfl rfl rfl (Vf.load rfl rfl rfl ((hl.le hg.1).int vm)) ?_;refine W.go 99 rfl ?_;refine W.aB rfl rfl rfl (Ef.call rfl (uy n _ hbi)) ?_;rintro _ _ _ ⟨_,rfl,rfl,rfl,rfl⟩;refine W.go 99 rfl ?_;refine W.aB rfl rfl rfl (Ef.grow rfl rfl rfl rfl rfl rfl rfl rfl rfl fJ je hg (ls:=[bH n]) (.own rfl rfl rfl rfl) ((by rw[U3,List.length_singleton];omega))) ?_;rintro _ _ _ ⟨v1,rfl,rfl,fe,_⟩;rw[show(l.take i).map bH++[bH n]=(l.take (i+1)).map bH by rw[eI,List.map_append];rfl] at fe;obtain⟨gM,dM,rfl,_⟩:=fe.slice;rw[show((l.take (i+1)).map bH).length=i+1 by rw[List.length_map,List.length_take];omega] at fe ⊢;refine W.go 99 rfl ?_;exact W.again (again _ _ _ _ (by omega) ⟨i+1,gM,dM,rfl,hi,fe,rfl,rfl⟩) (by exact⟨rfl,rfl,rfl,congrArg some (bu (by omega)),trivial⟩) trivial
 ·have iZ:i=l.length:=by have:=of_decide_eq_false c1;omega
  subst iZ;rw[List.take_of_length_le (Nat.le_refl _)] at hg;have nm:(l.map bH).length=l.length:=List.length_map ..;rw[←nm] at hg;have cA:=(hg.at fJ).2;obtain⟨_,_,g1,g2⟩:=hg.slice;cases g1;rw[←nm];have Rl:∀w∈l.map bH,w.length≤10:=fun w hw=>by
   obtain⟨n,hn,rfl⟩:=List.mem_map.1 hw;have:=ij ⟨n,hb n hn⟩;simp only at this;omega
  refine W.aB rfl rfl rfl (Ef.call rfl (TE ua uc _ _ cA g2 (by omega) Rl)) ?_;rintro _ _ _ ⟨_,rfl,rfl,rfl,hle⟩;refine W.go 99 rfl ?_;refine W.ret r rfl rfl ?_;exact⟨rfl,hg.1.trans hle⟩
def d10:Bs:=[48,49,50,51,52,53,54,55,56,57]
def xB(d:Nat):Bs:=(d10.drop d).take (d+1 - d)
theorem Nw:∀n:Fin 100,bH n.val=if n.val<10 then xB (n.val % 10) else xB (n.val / 10 % 10)++xB (n.val % 10):=by decide+kernel
theorem B5:∀d:Fin 10,(xB d.val).length=1:=by decide+kernel
theorem EI(n:Nat)(h:n<1000000):nJ .rem .i64 (n:Int) 10=some (.int .i64 ((n % 10:Nat):Int)):=by
 have:(n:Int).tmod 10=((n % 10:Nat):Int):=by rw[Int.tmod_eq_emod_of_nonneg (by omega)];omega
 simp[nJ,this]
theorem Sk(n:Nat)(h:n<1000000):IntKind.i64.wrap ((n:Int).tdiv 10)=((n / 10:Nat):Int):=by
 have:(n:Int).tdiv 10=((n / 10:Nat):Int):=by rw[Int.tdiv_eq_ediv_of_nonneg (by omega)];omega
 rw[this];exact wrap64_in _ (by omega) (by omega)
theorem qB(n:Nat)(L:LH)(hn:n<100):Sp X 15 [.int .i64 n] L (fun v L'=>v=str (bH n)∧L=L'):=by
 have hi:=Nw ⟨n,hn⟩;simp only at hi;have oQ:=B5 ⟨n % 10,by omega⟩;have iM:=B5 ⟨n / 10 % 10,by omega⟩;simp only at oQ iM;have w1:IntKind.i64.wrap (((n % 10:Nat):Int)+1)=((n % 10+1:Nat):Int):=by rw[wrap64_in _ (by omega) (by omega)];rfl
 refine Sp.enter (n:=25) Tryz.func15 rfl rfl rfl rfl fun C hX _ aG r=>?_;refine W.dv [5] 99 rfl ?_;refine W.vf rfl rfl rfl rfl (Vf.bin rfl rfl (EI n (by omega))) ?_;refine W.dv [7] 99 rfl ?_;refine W.vf rfl rfl rfl rfl (Vf.bin rfl rfl (EI n (by omega))) ?_;refine W.dv [9] 99 rfl ?_;rw[w1];refine W.vf rfl rfl rfl rfl (Vf.xh (l:=d10) (i:=n % 10) (j:=n % 10+1) rfl rfl rfl rfl rfl rfl rfl (by omega) (by show n % 10+1≤10;omega)) ?_;refine W.dv [11] 99 rfl ?_;refine W.vf rfl rfl rfl rfl (Vf.quo rfl rfl (by decide)) ?_;rw[Sk n (by omega)];refine W.go 99 rfl ?_;refine W.loop (fun w E B L'=>∃(k:Nat) (s:Bs),w=k∧((k=n / 10∧s=xB (n % 10))∨(k=0∧s=bH n))∧L=L'∧E=[(0,.v (.int .i64 k)),(3,.v (str s))]∧B=[])
  ⟨n / 10,xB (n % 10),rfl,.inl ⟨rfl,rfl⟩,rfl,rfl,rfl⟩ (by exact⟨rfl,rfl,trivial⟩) (by exact trivial) ?_
 rintro k _ _ _ ⟨_,s,rfl,Gi,rfl,rfl,rfl⟩ again;refine W.go 99 rfl ?_;refine W.split rfl rfl rfl (fun e1=>W.go 99 rfl ?_) (fun e1=>W.go 99 rfl ?_)
 ·have hk:0<k:=by have:=of_decide_eq_true e1;omega
  rcases Gi with⟨rfl,rfl⟩ | ⟨h0,_⟩
  ·have v1:IntKind.i64.wrap (((n / 10 % 10:Nat):Int)+1)=((n / 10 % 10+1:Nat):Int):=by rw[wrap64_in _ (by omega) (by omega)];rfl
   have h10:¬n<10:=by omega
   rw[if_neg h10] at hi;refine W.dv [17] 99 rfl ?_;refine W.vf rfl rfl rfl rfl (Vf.bin rfl rfl (EI (n / 10) (by omega))) ?_;refine W.dv [19] 99 rfl ?_;refine W.vf rfl rfl rfl rfl (Vf.bin rfl rfl (EI (n / 10) (by omega))) ?_;refine W.dv [21] 99 rfl ?_;rw[v1];refine W.vf rfl rfl rfl rfl (Vf.xh (l:=d10) (i:=n / 10 % 10) (j:=n / 10 % 10+1) rfl rfl rfl rfl rfl rfl rfl (by omega) (by show n / 10 % 10+1≤10;omega)) ?_;refine W.go 99 rfl ?_;refine W.vf rfl rfl rfl rfl (Vf.cat (l:=xB (n / 10 % 10)) (r:=xB (n % 10)) rfl rfl (by omega)) ?_;refine W.dv [15] 99 rfl ?_;refine W.vf rfl rfl rfl rfl (Vf.quo rfl rfl (by decide)) ?_;rw[Sk (n / 10) (by omega)];have hz:n / 10 / 10=0:=by omega
   rw[hz];refine W.go 99 rfl ?_;exact W.again (again 0 _ _ _ (by omega) ⟨0,bH n,rfl,.inr ⟨rfl,rfl⟩,rfl,rfl,rfl⟩) (by rw[hi];exact⟨rfl,rfl,trivial⟩) (by exact trivial)
  ·omega
 ·have hk:k=0:=by have:=of_decide_eq_false e1;omega
  subst hk;have hs:s=bH n:=by
   rcases Gi with⟨h0,h1⟩ | ⟨_,h1⟩
   ·rw[if_pos (by omega)] at hi;rw[h1,hi]
   ·exact h1
  subst hs;exact W.ret r rfl rfl ⟨rfl,rfl⟩
theorem Ml(v:Nat)(L:LH)(hv:v<7):Sp X 54 [.int .i64 v] L (fun u L'=>u=.tuple #[str (gh v),.int .i64 (iu v:Nat)]∧L=L'):=by
 have hc:v=0∨v=1∨v=2∨v=3∨v=4∨v=5∨v=6:=by omega
 rcases hc with rfl | rfl | rfl | rfl | rfl | rfl | rfl
 ·refine Sp.enter (n:=16) Tryz.func54 rfl rfl rfl rfl fun C hX _ aG r=>?_;refine W.go 99 rfl ?_;refine W.drawn (by kernel_rfl) _ (Le.refl _) ?_;refine DD.run' [0,1,4,5] rfl ?_;refine DD.vf 2 rfl rfl rfl rfl rfl (Vf.gC (i:=0) rfl rfl rfl rfl rfl rfl (by decide)) ?_;refine DD.vf 6 rfl rfl rfl rfl rfl (Vf.gC (i:=0) rfl rfl rfl rfl rfl rfl (by decide)) ?_;refine DD.run' [3,7,8,9] rfl ?_;refine .fin rfl ?_;refine W.go 99 rfl ?_;exact W.ret r rfl rfl ⟨rfl,rfl⟩
 ·refine Sp.enter (n:=16) Tryz.func54 rfl rfl rfl rfl fun C hX _ aG r=>?_;refine W.go 99 rfl ?_;refine W.drawn (by kernel_rfl) _ (Le.refl _) ?_;refine DD.run' [0,1,4,5] rfl ?_;refine DD.vf 2 rfl rfl rfl rfl rfl (Vf.gC (i:=1) rfl rfl rfl rfl rfl rfl (by decide)) ?_;refine DD.vf 6 rfl rfl rfl rfl rfl (Vf.gC (i:=1) rfl rfl rfl rfl rfl rfl (by decide)) ?_;refine DD.run' [3,7,8,9] rfl ?_;refine .fin rfl ?_;refine W.go 99 rfl ?_;exact W.ret r rfl rfl ⟨rfl,rfl⟩
 ·refine Sp.enter (n:=16) Tryz.func54 rfl rfl rfl rfl fun C hX _ aG r=>?_;refine W.go 99 rfl ?_;refine W.drawn (by kernel_rfl) _ (Le.refl _) ?_;refine DD.run' [0,1,4,5] rfl ?_;refine DD.vf 2 rfl rfl rfl rfl rfl (Vf.gC (i:=2) rfl rfl rfl rfl rfl rfl (by decide)) ?_;refine DD.vf 6 rfl rfl rfl rfl rfl (Vf.gC (i:=2) rfl rfl rfl rfl rfl rfl (by decide)) ?_;refine DD.run' [3,7,8,9] rfl ?_;refine .fin rfl ?_;refine W.go 99 rfl ?_;exact W.ret r rfl rfl ⟨rfl,rfl⟩
 ·refine Sp.enter (n:=16) Tryz.func54 rfl rfl rfl rfl fun C hX _ aG r=>?_;refine W.go 99 rfl ?_;refine W.drawn (by kernel_rfl) _ (Le.refl _) ?_;refine DD.run' [0,1,4,5] rfl ?_;refine DD.vf 2 rfl rfl rfl rfl rfl (Vf.gC (i:=3) rfl rfl rfl rfl rfl rfl (by decide)) ?_;refine DD.vf 6 rfl rfl rfl rfl rfl (Vf.gC (i:=3) rfl rfl rfl rfl rfl rfl (by decide)) ?_;refine DD.run' [3,7,8,9] rfl ?_;refine .fin rfl ?_;refine W.go 99 rfl ?_;exact W.ret r rfl rfl ⟨rfl,rfl⟩
 ·refine Sp.enter (n:=16) Tryz.func54 rfl rfl rfl rfl fun C hX _ aG r=>?_;refine W.go 99 rfl ?_;refine W.drawn (by kernel_rfl) _ (Le.refl _) ?_;refine DD.run' [0,1,4,5] rfl ?_;refine DD.vf 2 rfl rfl rfl rfl rfl (Vf.gC (i:=4) rfl rfl rfl rfl rfl rfl (by decide)) ?_;refine DD.vf 6 rfl rfl rfl rfl rfl (Vf.gC (i:=4) rfl rfl rfl rfl rfl rfl (by decide)) ?_;refine DD.run' [3,7,8,9] rfl ?_;refine .fin rfl ?_;refine W.go 99 rfl ?_;exact W.ret r rfl rfl ⟨rfl,rfl⟩
 ·refine Sp.enter (n:=16) Tryz.func54 rfl rfl rfl rfl fun C hX _ aG r=>?_;refine W.go 99 rfl ?_;refine W.drawn (by kernel_rfl) _ (Le.refl _) ?_;refine DD.run' [0,1,4,5] rfl ?_;refine DD.vf 2 rfl rfl rfl rfl rfl (Vf.gC (i:=5) rfl rfl rfl rfl rfl rfl (by decide)) ?_;refine DD.vf 6 rfl rfl rfl rfl rfl (Vf.gC (i:=5) rfl rfl rfl rfl rfl rfl (by decide)) ?_;refine DD.run' [3,7,8,9] rfl ?_;refine .fin rfl ?_;refine W.go 99 rfl ?_;exact W.ret r rfl rfl ⟨rfl,rfl⟩
 ·refine Sp.enter (n:=16) Tryz.func54 rfl rfl rfl rfl fun C hX _ aG r=>?_;refine W.go 99 rfl ?_;refine W.drawn (by kernel_rfl) _ (Le.refl _) ?_;refine DD.run' [0,1,4,5] rfl ?_;refine DD.vf 2 rfl rfl rfl rfl rfl (Vf.gC (i:=6) rfl rfl rfl rfl rfl rfl (by decide)) ?_;refine DD.vf 6 rfl rfl rfl rfl rfl (Vf.gC (i:=6) rfl rfl rfl rfl rfl rfl (by decide)) ?_;refine DD.run' [3,7,8,9] rfl ?_;refine .fin rfl ?_;refine W.go 99 rfl ?_;exact W.ret r rfl rfl ⟨rfl,rfl⟩
def zi(n:Int):Bs:=if n<0 then p9 else bH n.toNat
def mj(v:Nat)(a:List Int):Bs:=gh v++jc (a.map zi)
theorem Mg(v:Nat)(a:List Int)(ad:Option Addr)(cap:Nat)(L:LH)(hv:v<7)(ha:aN L ad a)(hn:a.length≤10)(hb:∀n∈a,n<100):Sp X 11 [.agg #[.int .i64 v,.slice ad a.length cap]] L (fun u L'=>u=str (mj v a)∧L=L'):=by
 have I4:∀v:Fin 7,(gh v.val).length≤5:=by decide
 have hwv:=I4 ⟨v,hv⟩;simp only at hwv;refine Sp.enter (n:=37) Tryz.func11 rfl rfl rfl rfl fun C hX _ aG r=>?_;refine W.go 99 rfl ?_;refine W.aB rfl rfl rfl (Ef.call rfl (Ml v _ hv)) ?_;rintro _ _ _ ⟨_,rfl,rfl,rfl,rfl⟩;refine W.go 99 rfl ?_;refine W.loop (fun w E B L'=>∃i:Nat,w=a.length - i∧i≤a.length∧L=L'∧E=[(1,.p 0 0),(3,.v (str (mj v (a.take i)))),(5,.v (.int .i64 i))]∧B=[some ⟨[.v (.int .i64 v),.v (.slice ad a.length cap)],38⟩])
  ⟨0,rfl,Nat.zero_le _,rfl,rfl,rfl⟩ (by exact⟨rfl,congrArg (fun z=>some (SV.v (str z))) (by simp[mj,jc]),rfl,trivial⟩) (by exact⟨rfl,trivial⟩) ?_
 rintro _ _ _ _ ⟨i,rfl,hi,rfl,rfl,rfl⟩ again;refine W.go 99 rfl ?_;refine W.split rfl rfl rfl (fun e1=>W.go 99 rfl ?_) (fun e1=>W.go 99 rfl ?_)
 ·have fB:i<a.length:=by have:=of_decide_eq_true e1;omega
  obtain⟨ad,rfl⟩:=ha.addr fB;have hx:=List.getElem?_eq_getElem fB;have dN:=hb _ (List.getElem_mem fB);have eI:a.take (i+1)=a.take i++[a[i]]:=List.take_succ_eq_append_getElem fB;have hlen:(mj v (a.take i)).length≤5+11 * 10:=by
   unfold mj;rw[List.length_append];have:=nc ((a.take i).map zi) fun w hw=>by
    obtain⟨n,hn,rfl⟩:=List.mem_map.1 hw;unfold zi
    split
    ·decide
    ·have h1:=hb n (List.mem_of_mem_take hn);have:=ij ⟨n.toNat,by omega⟩;simp only at this;omega
   rw[List.length_map,List.length_take] at this;have h2:11 *min i a.length≤11 * 10:=Nat.mul_le_mul_left 11 (by omega);omega
  have jf:mj v (a.take (i+1))=mj v (a.take i)++[32]++zi a[i]:=by
   unfold mj;rw[eI,List.map_append,List.map_cons,List.map_nil,x6];simp[List.append_assoc]
  generalize a[i]=n at hx dN jf;refine W.vf rfl rfl rfl rfl (Vf.aW rfl rfl rfl rfl rfl rfl rfl (fB)) ?_;refine W.go 99 rfl ?_;refine W.vf rfl rfl rfl rfl (Vf.load rfl rfl rfl (ha.int hx)) ?_;refine W.go 99 rfl ?_;refine W.split rfl rfl rfl (fun c2=>?_) (fun c2=>?_)
  ·have kR:n<0:=of_decide_eq_true c2;refine W.go 99 rfl ?_;refine W.vf rfl rfl rfl rfl (Vf.cat (l:=mj v (a.take i)) (r:=[32,97,110,121]) rfl rfl (by show _+4≤_;omega)) ?_;refine W.go 99 rfl ?_;exact W.again (again _ _ _ _ (by omega) ⟨i+1,rfl,fB,rfl,rfl,rfl⟩) (by rw[jf];exact⟨rfl,congrArg (fun z=>some (SV.v (str z))) (by unfold zi;rw[if_pos kR,List.append_assoc];rfl),congrArg some (bu (by omega)),trivial⟩) (by exact⟨rfl,trivial⟩)
  ·have kR:¬n<0:=of_decide_eq_false c2;obtain⟨m,rfl⟩:∃m:Nat,n=m:=⟨n.toNat,by omega⟩;have ab5:=ij ⟨m,by omega⟩;simp only at ab5;refine W.go 99 rfl ?_;refine W.vf rfl rfl rfl rfl (Vf.cat (l:=mj v (a.take i)) (r:=[32]) rfl rfl (by show _+1≤_;omega)) ?_;refine W.go 99 rfl ?_;refine W.vf rfl rfl rfl rfl (Vf.aW rfl rfl rfl rfl rfl rfl rfl (fB)) ?_;refine W.go 99 rfl ?_;refine W.vf rfl rfl rfl rfl (Vf.load rfl rfl rfl (ha.int hx)) ?_;refine W.go 99 rfl ?_;refine W.aB rfl rfl rfl (Ef.call rfl (qB m _ (by omega))) ?_;rintro _ _ _ ⟨_,rfl,rfl,rfl,rfl⟩;refine W.vf rfl rfl rfl rfl (Vf.cat (l:=mj v (a.take i)++[32]) (r:=bH m) rfl rfl (by rw[List.length_append,List.length_singleton];omega)) ?_;refine W.go 99 rfl ?_;exact W.again (again _ _ _ _ (by omega) ⟨i+1,rfl,fB,rfl,rfl,rfl⟩) (by rw[jf];exact⟨rfl,congrArg (fun z=>some (SV.v (str z))) (by unfold zi;rw[if_neg kR,Int.toNat_natCast]),congrArg some (bu (by omega)),trivial⟩) (by exact⟨rfl,trivial⟩)
 ·have fB:i=a.length:=by have:=of_decide_eq_false e1;omega
  subst fB;exact W.ret r rfl rfl ⟨by rw[List.take_length];rfl,rfl⟩
end Go.Mz
