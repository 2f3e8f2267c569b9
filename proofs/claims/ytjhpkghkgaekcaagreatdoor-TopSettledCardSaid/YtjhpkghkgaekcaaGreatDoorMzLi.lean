/- Lemmas on which the claim leans. -/
import Derived.Test.YtjhpkghkgaekcaaGreatDoorMzLh
import Derived.Conc.WgGenN2
namespace Go.Mz
open Go.Conc Go.ConcN Go.RowKit Go.Conc.Lib Go.ConcR.Gen Go.ConcN.Gen
open Go.ConcR (KK wgBlock WgAt stA smA rd wr mk Payload Aside2 DC0)
section
variable {P:Program}{main:Bool}{R:World→World→Prop}{D D':World→World→Array Event→Prop}{S1 S2:Goroutine→World→Prop}
theorem xE(h:∀g w,S1 g w→S2 g w):∀{n:Nat} {g:Goroutine} {w:World},Goes P main R D S1 n g w→Goes P main R D S2 n g w
 | 0,_,_,hg=>fun w1 h1=>h _ _ (hg w1 h1)
 | n+1,_,_,.inl hg=>.inl fun w1 h1=>h _ _ (hg w1 h1)
 | n+1,g,_,.inr ⟨hr,hs⟩=>.inr ⟨hr,fun w1 h1=>by
  have:=hs w1 h1
  revert this
  cases stepG P main g w1 <;> simp only[GStep.goes,imp_self];exact fun⟨d,x⟩=>⟨d,xE h x⟩⟩
theorem tv(refl:∀w,R w w)(trans:∀a b c,R a b→R b c→R a c)(h1:∀g w,S1 g w→∃g' e,stepG P main g w=.go g' w #[e]):
  ∀{n m:Nat} {g:Goroutine} {w:World},Goes P main R D S1 m g w→Goes P main R DC0 S2 n g w→Goes P main R DC0 (fun g w=>S2 g w∧∃m,Goes P main R D S1 m g w) n g w
 | 0,m,_,_,hA,hB=>fun w1 hw=>⟨hB w1 hw,m,hA.rely trans hw⟩
 | n+1,m,_,_,hA,.inl hB=>.inl fun w1 hw=>⟨hB w1 hw,m,hA.rely trans hw⟩
 | n+1,m,g,w,hA,.inr ⟨hr,hs⟩=>by
  have no:∀w1,R w w1→S1 g w1→False:=fun w1 hw hS=>by
   obtain⟨g',e,he⟩:=h1 _ _ hS;have:=hs w1 hw;rw[he] at this;obtain⟨⟨_,h0⟩,_⟩:=this;cases h0
  have YE:∃m',m=m'+1∧∀lS,R w lS→(stepG P main g lS).goes fun g' w' es=>D lS w' es∧Goes P main R D S1 m' g' w':=by
   cases m with
   | zero=>exact(no w (refl w) (hA w (refl w))).elim
   | succ m=>
    rcases hA with hA | ⟨_,hA⟩
    ·exact(no w (refl w) (hA w (refl w))).elim
    ·exact⟨m,rfl,hA⟩
  obtain⟨m',rfl,YE⟩:=YE;refine .inr ⟨hr,fun w1 hw=>?_⟩;have a:=YE w1 hw;have b:=hs w1 hw
  revert a b
  cases stepG P main g w1 <;> simp only[GStep.goes,imp_self,false_implies];exact fun⟨_,a⟩ ⟨d,b⟩=>⟨d,tv refl trans h1 a b⟩
theorem xD(refl:∀w,R w w):∀{n:Nat} {g:Goroutine} {w:World},Goes P main R D S1 n g w→∃g' w',S1 g' w'
 | 0,g,w,h=>⟨g,w,h w (refl w)⟩
 | n+1,g,w,.inl h=>⟨g,w,h w (refl w)⟩
 | n+1,g,w,.inr ⟨_,h⟩=>by
  have:=h w (refl w)
  revert this
  cases stepG P main g w <;> simp only[GStep.goes,false_implies];exact fun⟨_,x⟩=>xD refl x
end
def XT(P:Program)(g:Goroutine)(w:World):Prop:=∃g',stepG P false g w=.go g' w #[mk .disable]
def AtRel(P:Program)(R:World→World→Prop)(W:Nat)(g:Goroutine)(w:World):Prop:=∃g',stepG P false g w=.go g' w #[mk (.releaseMerge (stA W))]∧∃m,Goes P false R DC0 (XT P) m g' w
theorem MY{P:Program}{ty:TypeId}{W C n Low k:Nat}{dt Rd:Nat→Loc→Prop}{v:Value}{N m:Nat}{g:Goroutine}{w:World}(refl:∀w,RW ty W C n Low (k - 1) w w)(trans:∀a b c,RW ty W C n Low (k - 1) a b→RW ty W C n Low (k - 1) b c→RW ty W C n Low (k - 1) a c)
  (hA:Goes P false (RW ty W C n Low (k - 1)) (DWs W dt Rd C n k) (AtR0 P ty W C n Low k v) m g w)(hB:Goes P false (RW ty W C n Low (k - 1)) DC0 (AtRel P (RW ty W C n Low (k - 1)) W) N g w):
  Goes P false (RW ty W C n Low (k - 1)) DC0 (AtR0 P ty W C n Low k v) N g w:=by
 have h1:∀g w,AtR0 P ty W C n Low k v g w→∃g' e,stepG P false g w=.go g' w #[e]:=fun g w h=>by
  obtain⟨_,_,g',h2,_⟩:=h;exact⟨g',_,h2⟩
 refine xE ?_ (tv refl trans h1 hA hB);rintro g w ⟨⟨g',hs,mB,F2⟩,mA,M5⟩;have key:∀m',Goes P false (RW ty W C n Low (k - 1)) (DWs W dt Rd C n k) (AtR0 P ty W C n Low k v) m' g' w→False:=fun m' ha=>by
  obtain⟨g3,w3,⟨g4,h4⟩,m3,h3⟩:=xD refl (tv refl trans h1 ha F2);have no:AtR0 P ty W C n Low k v g3 w3→False:=fun h=>by
   obtain⟨_,_,g5,h5,_⟩:=h;rw[h4] at h5;have:=(GStep.go.inj h5).2.2;simp[mk] at this
  cases m3 with
  | zero=>exact no (h3 w3 (refl w3))
  | succ m3=>
   rcases h3 with h3 | ⟨_,h3⟩
   ·exact no (h3 w3 (refl w3))
   ·have:=h3 w3 (refl w3);rw[h4] at this;obtain⟨⟨_,hd⟩,_⟩:=this;exact(hd (mk .disable) (by simp)).2.1 rfl
 cases mA with
 | zero=>exact M5 w (refl w)
 | succ mA=>
  rcases M5 with M5 | ⟨_,M5⟩
  ·exact M5 w (refl w)
  ·have:=M5 w (refl w);rw[hs] at this;exact(key _ this.2).elim
set_option maxRecDepth 100000 in
theorem ME{P:Program}{L:WgLink}(H:WgLib P L){Wg C n Low k:Nat}{val:Value}{c:Frame}{cs:List Frame}(w:World)(hK:WgLive L.tWg Wg w∧Has C (k - 1) val w):
  Goes P false (RW L.tWg Wg C n Low (k - 1)) DC0 (AtRel P (RW L.tWg Wg C n Low (k - 1)) Wg) 40 (G ((baseD L.done).at ⟨#[.pointer (some ⟨Wg,0,none⟩),undef,undef,undef],[]⟩ [.code (body_done L)]) (c::cs)) w:=by
 lib_facts
 simp only[body_done,doneFn,Option.getD_some]
 u_reg kn_rely hK
 u_op kn_rely hK
 u_in kn_rely hK
 refine goes_call rfl rfl (by k_ne) rfl H.f_add (nm_add L) rfl ⟨by u_nil,?_⟩
 walk_nrmf addFn
 u_c stepG_seq kn_rely hK
 u_cond true kn_rely hK
 u_c stepG_seq kn_rely hK
 u_c stepG_seq kn_rely hK
 u_reg kn_rely hK
 u_op kn_rely hK
 u_op kn_rely hK
 u_c stepG_region_end kn_rely hK
 u_cond true kn_rely hK
 u_reg kn_rely hK
 u_op kn_rely hK
 u_conv H.underlying_tWgP H.room_tWg (WgLive.cell0 hK.1).choose_spec kn_rely hK
 refine Goes.stop (fun lS h₁=>?_);replace hK:=kn_rely hK h₁;clear h₁;refine⟨_,stepG_markAt .releaseMerge (by simp) rfl rfl (by k_ne) rfl H.f_relMerge (x_relMerge_n L) (x_relMerge_b L) (x_relMerge_x L) (x_relMerge_f L) (by simp[Act.eval,stA]),10,?_⟩
 walk_nrm
 u_c stepG_region_end kn_rely hK
 u_c stepG_seq kn_rely hK
 u_reg kn_rely hK
 refine Goes.stop (fun lS h₁=>?_);exact⟨_,stepG_mark0 .disable (by simp) rfl rfl (by k_ne) rfl H.f_disable (x_disable_n L) (x_disable_b L) (x_disable_x L) (x_disable_f L)⟩
end Go.Mz
