/- Lemmas on which the claim leans. -/
import Derived.Test.YtnhckcgdmolgcaaGreatDoorMzAw
set_option maxRecDepth 100000
namespace Go.Mz
open Go.Conc Go.Proofs
variable {Post : Value → World → Prop} {W0 : World}
theorem SfF_run (s : St) (p : Pt) (c : Cone) (ha : Option Addr) (hc : Nat) (hs : List Int) (i : Int) (a : Stand) (na : Option Addr) (nc : Nat) (nums : List Int) (L : LH) (hst : StAt L s p) (hh : IntsAt L ha hs) (hn : IntsAt L na nums) (hgl : GlOk L) (hl2 : nums.length ≤ 140737488355328)
    (hQ : ∀ v L' w, (v = .bool true ∧ Dim L L') → Sub L' w → Same W0 w → Post v w) :
    FGo Tryz.prog Post W0 (G (Frame.enter Tryz.prog 3 [stA s p, .agg (encCo c).toArray, .slice ha hs.length hc, .int .i64 i, .agg (encSt a).toArray, .slice na nums.length nc].toArray .normal) []) L := by
  refine root_enter (n := 159) (s := 12) Tryz.func3 rfl rfl (by kernel_rfl) rfl rfl hQ fun C hX _ hL0 r => ?_
  refine W.go 99 rfl ?_
  refine W.eff rfl rfl rfl (Ef.call rfl (vast_sp s p L)) ?_
  rintro _ _ _ ⟨_, rfl, rfl, rfl, rfl⟩
  refine W.go 99 rfl ?_
  have drd : ∀ L2, GlOk L2 → Sp C.X 21 [] L2 (fun v L' => v = .bool true ∧ Dim L2 L') := fun L2 h => by rw [hX]; exact dried_sp L2 h
  refine W.split rfl rfl rfl (fun e1 => W.go 99 rfl ?_) (fun e1 => W.go 99 rfl ?_)
  · refine W.eff rfl rfl rfl (Ef.call rfl (drd L hgl)) ?_
    rintro _ _ _ ⟨_, rfl, rfl, rfl, hdm⟩
    refine W.go 99 rfl ?_
    refine W.retO r rfl ⟨rfl, hdm⟩
  refine W.split rfl rfl rfl (fun e2 => W.go 99 rfl ?_) (fun e2 => W.go 99 rfl ?_)
  · refine W.eff rfl rfl rfl (Ef.call rfl (drd L hgl)) ?_
    rintro _ _ _ ⟨_, rfl, rfl, rfl, hdm⟩
    refine W.go 99 rfl ?_
    refine W.retO r rfl ⟨rfl, hdm⟩
  have h20 : hs.length ≤ 20 := by simp at e2; omega
  obtain ⟨v1, v2⟩ := vast_no e1
  refine W.eff rfl rfl rfl (Ef.call rfl (NewHat_sp na nc nums L hn)) ?_
  rintro _ _ _ ⟨_, rfl, rfl, b, rfl, hb, hle1, hh1⟩
  refine W.go 99 rfl ?_
  rename_i L1
  have hb1 := le_but hb hle1
  refine W.eff rfl rfl rfl (Ef.call rfl (sev_sp s p c ha hc hs b na nc nums 0 L1 (hst.le hb1) (hh.le hb1) hh1 (by omega) hl2 v1 v2 h20)) ?_
  rintro _ _ _ ⟨_, rfl, rfl, own, p1, t, ta, tc, cs2, p2, ba, bb, m, rfl, ho, ht, hc2, hm, hh2, hle2, hsev⟩
  refine W.go 99 rfl ?_
  rename_i L2
  have hgl2 := hgl.le (hb1.trans (but_but hle2))
  have hok : Ok own := ho.elim (fun h => h.ok) (fun h => h.ok)
  have o1 := hok.s1
  have o3 := hok.s3
  have o4 := hok.d4
  have o5 := hok.d1
  have hx1 : [(s, p), (own, p1), ({ own with cones := cs2 }, p2), (own, p1)][1]? = some (own, p1) := rfl
  refine W.drawn (by kernel_rfl) (L2.but b) (but_le _ _) ?_
  refine DD.run' [0, 1, 3, 5, 7, 8, 9, 13, 14, 18] rfl ?_
  refine DD.vf 10 rfl rfl rfl rfl rfl (Vf.idx rfl rfl rfl rfl rfl rfl ((show 1 < 4 by decide))) ?_
  refine DD.vf 11 rfl rfl rfl rfl rfl (Vf.loadN rfl rfl rfl (hsev.ss.whole hx1 rfl)) ?_
  refine DD.vf 15 rfl rfl rfl rfl rfl (Vf.idx rfl rfl rfl rfl rfl rfl ((show 1 < 4 by decide))) ?_
  refine DD.vf 16 rfl rfl rfl rfl rfl (Vf.loadN rfl rfl rfl (hsev.ss.whole hx1 rfl)) ?_
  refine DD.act 2 rfl rfl rfl rfl rfl (Ef.call rfl ((To_sp b na nc nums m 2 L2 hh2 (by omega) hl2 (by omega)))) ((by rintro _ _ _ ⟨_, rfl, rfl, ⟨y, rfl, _⟩, hk, _⟩; exact ⟨but_same hk, rfl, .inl rfl⟩)) ?_
  rintro _ _ _ ⟨_, rfl, rfl, ⟨y1, rfl, hy1⟩, hk3, hs3⟩
  rename_i L3
  have g3 := hh2.next hk3 hs3
  have f3 : Le (L2.but b) L3 := but_same hk3
  refine DD.act 4 rfl rfl rfl rfl rfl (Ef.call rfl ((To_sp b na nc nums (m + 1) 1 L3 g3 (by omega) hl2 (by omega)))) ((by rintro _ _ _ ⟨_, rfl, rfl, ⟨y, rfl, _⟩, hk, _⟩; exact ⟨but_trans f3 (but_same hk), rfl, .inl rfl⟩)) ?_
  rintro _ _ _ ⟨_, rfl, rfl, ⟨y2, rfl, hy2⟩, hk4, hs4⟩
  rename_i L4
  have g4 := g3.next hk4 hs4
  have f4 : Le (L2.but b) L4 := but_trans f3 (but_same hk4)
  refine DD.run' [6] rfl ?_
  refine DD.act 12 rfl rfl rfl rfl rfl (Ef.call rfl ((StandOf_sp own p1 b na nc nums (m + 2) L4 g4 (by omega) hl2 o1 (by omega) o5 (by omega)))) ((by rintro _ _ _ ⟨_, rfl, rfl, ⟨y, rfl, _⟩, hk, _⟩; exact ⟨but_trans f4 (but_same hk), rfl, .inl rfl⟩)) ?_
  rintro _ _ _ ⟨_, rfl, rfl, ⟨a1, rfl, ha1⟩, hk5, m5, hm5, g5⟩
  rename_i L5
  have f5 : Le (L2.but b) L5 := but_trans f4 (but_same hk5)
  refine DD.act 17 rfl rfl rfl rfl rfl (Ef.call rfl ((StandOf_sp own p1 b na nc nums m5 L5 g5 (by omega) hl2 o1 (by omega) o5 (by omega)))) ((by rintro _ _ _ ⟨_, rfl, rfl, ⟨y, rfl, _⟩, hk, _⟩; exact ⟨but_trans f5 (but_same hk), rfl, .inl rfl⟩)) ?_
  rintro _ _ _ ⟨_, rfl, rfl, ⟨a2, rfl, ha2⟩, hk6, m6, hm6, g6⟩
  rename_i L6
  have f6 : Le (L2.but b) L6 := but_trans f5 (but_same hk6)
  refine DD.run' [19, 20, 21] rfl ?_
  refine .fin rfl ?_
  refine W.go 99 rfl ?_
  refine W.pub 16 (.inr ⟨_, _, _, rfl⟩) rfl rfl ?_
  intro bc hbc _
  refine W.pub 17 (.inr ⟨_, _, _, rfl⟩) rfl rfl ?_
  intro bd hbd _
  have q1 : Le L6 (L6.put bc (.cells ([i, (y1 : Int), (y2 : Int), i].flatMap encI).toArray 3)) := Le.put hbc _
  have q2 : Le (L6.put bc (.cells ([i, (y1 : Int), (y2 : Int), i].flatMap encI).toArray 3)) ((L6.put bc (.cells ([i, (y1 : Int), (y2 : Int), i].flatMap encI).toArray 3)).put bd (.cells ([a, a1, a2, a].flatMap encSt).toArray 30)) := Le.put hbd _
  have k1 := q2 _ _ (put_same L6 bc (.cells ([i, (y1 : Int), (y2 : Int), i].flatMap encI).toArray 3))
  have k2 := put_same (L6.put bc (.cells ([i, (y1 : Int), (y2 : Int), i].flatMap encI).toArray 3)) bd (.cells ([a, a1, a2, a].flatMap encSt).toArray 30)
  have f8 := f6.trans (q1.trans q2)
  clear q1 q2
  change W C _ _ _ _ _ ((L6.put bc (.cells ([i, (y1 : Int), (y2 : Int), i].flatMap encI).toArray 3)).put bd (.cells ([a, a1, a2, a].flatMap encSt).toArray 30))
  generalize (L6.put bc (.cells ([i, (y1 : Int), (y2 : Int), i].flatMap encI).toArray 3)).put bd (.cells ([a, a1, a2, a].flatMap encSt).toArray 30) = L8 at k1 k2 f8 ⊢
  have hL8 : Le L L8 := hb1.trans ((but_but hle2).trans f8)
  have hsev := hsev.le f8
  have hgl8 := hgl2.le f8
  have hcs := sl_block (L := L8) encI_len k1
  have has := sl_block (L := L8) encSt_len k2
  generalize hSs : [(s, p), (own, p1), ({ own with cones := cs2 }, p2), (own, p1)] = Ss at hsev
  generalize hHs : [((ha, hs.length, hc), hs), ((ta, t.length, tc), t), ((ta, t.length, tc), t), ((ha, hs.length, hc), hs)] = Hs at hsev
  generalize hCs : [i, (y1 : Int), (y2 : Int), i] = Cs at hcs
  generalize hAs : [a, a1, a2, a] = As at has
  have nS : Ss.length = 4 := by rw [← hSs]; rfl
  have nH : Hs.length = 4 := by rw [← hHs]; rfl
  have nC : Cs.length = 4 := by rw [← hCs]; rfl
  have nA : As.length = 4 := by rw [← hAs]; rfl
  refine W.loop (fun w E B L' => ∃ k : Nat, w = 4 - k ∧ k ≤ 4 ∧ Le L8 L' ∧ E = [(14, .v (.slice (some ⟨ba, 0, none⟩) 4 4)), (15, .v (.slice (some ⟨bb, 0, none⟩) 4 4)), (16, .v (.slice (some ⟨bc, 0, none⟩) 4 4)), (17, .v (.slice (some ⟨bd, 0, none⟩) 4 4)), (18, .v (.int .i64 k))] ∧ B = [])
    ⟨0, rfl, by omega, Le.refl _, rfl, rfl⟩ (by exact ⟨rfl, rfl, rfl, rfl, rfl, trivial⟩) (by exact trivial) ?_
  rintro _ _ _ L9 ⟨k, rfl, hk, hl9, rfl, rfl⟩ again
  refine W.go 99 rfl ?_
  refine W.split rfl rfl rfl (fun e3 => W.go 99 rfl ?_) (fun e3 => W.go 99 rfl ?_)
  · have hk4 : k < 4 := by have : (k : Int) < 4 := by simpa using e3
                           omega
    obtain ⟨⟨sk, pk⟩, hx⟩ : ∃ x, Ss[k]? = some x := ⟨_, List.getElem?_eq_getElem (by omega)⟩
    obtain ⟨⟨⟨hk1, hk2, hk3⟩, hks⟩, hy⟩ : ∃ x, Hs[k]? = some x := ⟨_, List.getElem?_eq_getElem (by omega)⟩
    obtain ⟨ck, hz⟩ : ∃ x, Cs[k]? = some x := ⟨_, List.getElem?_eq_getElem (by omega)⟩
    obtain ⟨ak, hu⟩ : ∃ x, As[k]? = some x := ⟨_, List.getElem?_eq_getElem (by omega)⟩
    have hsv := hsev.le hl9
    obtain ⟨hsk, sk1, sk2⟩ := hsv.so _ (List.mem_of_getElem? hx)
    obtain ⟨hhk, hkl, hk20⟩ := hsv.ho _ (List.mem_of_getElem? hy)
    dsimp only at hsk sk1 sk2 hhk hkl hk20
    subst hkl
    have hcl : L9.cell? ((Addr.mk bb 0 none).add (k * 1)) = some (.slice hk1 hks.length hk3) := by
      have := hsv.hs.get hy (j := 0) (v := slV (hk1, hks.length, hk3)) rfl
      simpa using this
    refine W.drawn (by kernel_rfl) _ (Le.refl _) ?_
    refine DD.run' [0, 1, 5, 6, 10] rfl ?_
    refine DD.vf 2 rfl rfl rfl rfl rfl (Vf.idx rfl rfl rfl rfl rfl rfl (hk4)) ?_
    refine DD.vf 3 rfl rfl rfl rfl rfl (Vf.loadN rfl rfl rfl (hsv.ss.whole hx rfl)) ?_
    refine DD.vf 7 rfl rfl rfl rfl rfl (Vf.idx rfl rfl rfl rfl rfl rfl (hk4)) ?_
    refine DD.vf 8 rfl rfl rfl rfl rfl (Vf.load rfl rfl rfl (hcl)) ?_
    refine DD.act 4 rfl rfl rfl rfl rfl (Ef.call rfl ((DupStove_sp sk pk L9 hsk (by omega) (by omega)))) ((by rintro _ _ _ ⟨_, rfl, rfl, _, _, _, _, _, rfl, g1, g2⟩; exact ⟨g1.1.trans g2.1, rfl, .inl rfl⟩)) ?_
    rintro _ _ _ ⟨_, rfl, rfl, xa, ya, z1, z2, I1, rfl, hg1, hg2⟩
    rename_i L10
    have hl10 := hg1.1.trans hg2.1
    have hst10 : StAt L10 sk ⟨xa, ya, z1, z2⟩ := ⟨(hg1.at encSh_len).2.le hg2.1, (hg2.at encCo_len).2, by omega, by omega⟩
    refine DD.act 9 rfl rfl rfl rfl rfl (Ef.call rfl ((DupInts_sp hk1 hk3 hks L10 (hhk.le hl10) (by omega)))) ((by rintro _ _ _ ⟨_, rfl, rfl, g3⟩; exact ⟨hl10.trans g3.1, rfl, .inl rfl⟩)) ?_
    rintro _ _ _ ⟨vx, rfl, rfl, hg3⟩
    obtain ⟨wa, wc, rfl, _⟩ := hg3.slice
    have hi11 := (hg3.at encI_len).2
    have hl11 := hl10.trans hg3.1
    refine DD.act 11 rfl rfl rfl rfl rfl (Ef.sto rfl) (by rintro _ _ _ ⟨rfl, rfl, rfl⟩; exact ⟨hl11, rfl, .inr rfl⟩) ?_
    rintro _ _ L11 ⟨rfl, rfl, rfl⟩
    refine DD.run' [12] rfl ?_
    refine .fin rfl ?_
    refine W.go 99 rfl ?_
    have hl811 := hl9.trans hl11
    have hsv := hsev.le hl811
    have hask : AskAt L11 sk ⟨xa, ya, z1, z2⟩ wa hks := ⟨hst10.le hg3.1, hi11, hgl8.le hl811, by omega⟩
    refine W.drawn (by kernel_rfl) _ (Le.refl _) ?_
    refine DD.run' [0, 1, 2, 3, 6, 7] rfl ?_
    refine DD.vf 4 rfl rfl rfl rfl rfl (Vf.idx1 rfl rfl rfl rfl rfl rfl rfl (hk4)) ?_
    refine DD.vf 5 rfl rfl rfl rfl rfl (Vf.load rfl rfl rfl ((hcs.le hl811).int hz)) ?_
    refine DD.vf 8 rfl rfl rfl rfl rfl (Vf.idx rfl rfl rfl rfl rfl rfl (hk4)) ?_
    refine DD.vf 9 rfl rfl rfl rfl rfl (Vf.loadN rfl rfl rfl ((has.le hl811).whole hu rfl)) ?_
    refine DD.act 10 rfl rfl rfl rfl rfl (Ef.call rfl ((Fate_sp sk ⟨xa, ya, z1, z2⟩ wa wc hks ck ak L11 hask))) ((by rintro _ _ _ ⟨_, rfl, rfl, rfl, hl⟩; exact ⟨hl, rfl, .inl rfl⟩)) ?_
    rintro _ _ _ ⟨_, rfl, rfl, rfl, hl12⟩
    rename_i L12
    refine DD.run' [11, 12, 13, 14, 15, 16, 17] rfl ?_
    refine .fin rfl ?_
    refine W.go 99 rfl ?_
    refine W.weak (E' := [(14, .v (.slice (some ⟨ba, 0, none⟩) 4 4)), (15, .v (.slice (some ⟨bb, 0, none⟩) 4 4)), (16, .v (.slice (some ⟨bc, 0, none⟩) 4 4)), (17, .v (.slice (some ⟨bd, 0, none⟩) 4 4)), (18, .v (.int .i64 k)), (19, .p 0 0), (20, .v (.slice wa hks.length wc)), (21, .v (.int .i64 (FateE sk hks ck ak).1)), (22, .v (.int .i64 (FateE sk hks ck ak).2.1)), (23, .v (.int .i64 (FateE sk hks ck ak).2.2))]) (B' := [some ⟨cellsS (.v (stA sk ⟨xa, ya, z1, z2⟩)), 25⟩]) (by exact ⟨rfl, rfl, rfl, rfl, rfl, rfl, rfl, rfl, rfl, rfl, trivial⟩) (by exact ⟨rfl, trivial⟩) ?_
    have hl812 := hl811.trans hl12
    have hsv := hsev.le hl812
    have hst12 := hst10.le (hg3.1.trans hl12)
    have hi12 := hi11.le hl12
    have hsk12 := (hsv.so _ (List.mem_of_getElem? hx)).st
    have hhk12 := (hsv.ho _ (List.mem_of_getElem? hy)).i
    have hcl12 := (hl11.trans hl12).cell hcl
    have hask2 : AskAt L12 sk pk hk1 hks := ⟨hsk12, hhk12, hgl8.le hl812, by omega⟩
    refine W.drawn (by kernel_rfl) _ (Le.refl _) ?_
    refine DD.run' [0, 1, 4, 5, 8, 9, 12, 13] rfl ?_
    refine DD.vf 2 rfl rfl rfl rfl rfl (Vf.idx rfl rfl rfl rfl rfl rfl (hk4)) ?_
    refine DD.vf 3 rfl rfl rfl rfl rfl (Vf.loadN rfl rfl rfl (hsv.ss.whole hx rfl)) ?_
    refine DD.vf 6 rfl rfl rfl rfl rfl (Vf.idx rfl rfl rfl rfl rfl rfl (hk4)) ?_
    refine DD.vf 7 rfl rfl rfl rfl rfl (Vf.load rfl rfl rfl (hcl12)) ?_
    refine DD.vf 10 rfl rfl rfl rfl rfl (Vf.idx1 rfl rfl rfl rfl rfl rfl rfl (hk4)) ?_
    refine DD.vf 11 rfl rfl rfl rfl rfl (Vf.load rfl rfl rfl ((hcs.le hl812).int hz)) ?_
    refine DD.vf 14 rfl rfl rfl rfl rfl (Vf.idx rfl rfl rfl rfl rfl rfl (hk4)) ?_
    refine DD.vf 15 rfl rfl rfl rfl rfl (Vf.loadN rfl rfl rfl ((has.le hl812).whole hu rfl)) ?_
    refine DD.act 16 rfl rfl rfl rfl rfl (Ef.call rfl (rFateX_sp sk pk hk1 hk3 hks ck ak L12 hask2)) (by rintro _ _ _ ⟨_, rfl, rfl, rfl, rfl⟩; exact ⟨Le.refl _, rfl, .inl rfl⟩) ?_
    rintro _ _ _ ⟨_, rfl, rfl, rfl, rfl⟩
    refine DD.run' [17, 18, 19, 20, 21, 22, 23] rfl ?_
    refine .fin rfl ?_
    refine W.go 99 rfl ?_
    refine W.drawn (by kernel_rfl) _ (Le.refl _) ?_
    refine DD.run' [0, 2, 3] rfl ?_
    refine DD.vf 4 rfl rfl rfl rfl rfl (Vf.idx rfl rfl rfl rfl rfl rfl (hk4)) ?_
    refine DD.vf 5 rfl rfl rfl rfl rfl (Vf.loadN rfl rfl rfl (hsv.ss.whole hx rfl)) ?_
    refine DD.act 1 rfl rfl rfl rfl rfl (Ef.call rfl (Check_sp sk ⟨xa, ya, z1, z2⟩ L12 hst12)) (by rintro _ _ _ ⟨_, rfl, rfl, rfl, rfl⟩; exact ⟨Le.refl _, rfl, .inl rfl⟩) ?_
    rintro _ _ _ ⟨_, rfl, rfl, rfl, rfl⟩
    refine DD.act 6 rfl rfl rfl rfl rfl (Ef.call rfl (rCheck_sp sk pk L12 hsk12)) (by rintro _ _ _ ⟨_, rfl, rfl, rfl, rfl⟩; exact ⟨Le.refl _, rfl, .inl rfl⟩) ?_
    rintro _ _ _ ⟨_, rfl, rfl, rfl, rfl⟩
    refine DD.run' [7, 8] rfl ?_
    rw [bne_self_eq_false]
    refine DD.split 125 rfl (fun c => absurd c (by decide)) (fun _ => ?_)
    refine DD.run' [9, 10, 11, 12, 13] rfl ?_
    rw [bne_self_eq_false]
    refine DD.split 130 rfl (fun c => absurd c (by decide)) (fun _ => ?_)
    refine DD.run' [14, 15, 16, 17, 18] rfl ?_
    rw [bne_self_eq_false]
    refine DD.split 135 rfl (fun c => absurd c (by decide)) (fun _ => ?_)
    refine DD.run' [19, 20, 21, 22, 23] rfl ?_
    rw [bne_self_eq_false]
    refine DD.split 140 rfl (fun c => absurd c (by decide)) (fun _ => ?_)
    refine DD.run' [24, 25, 26] rfl ?_
    refine DD.vf 27 rfl rfl rfl rfl rfl (Vf.idx rfl rfl rfl rfl rfl rfl (hk4)) ?_
    refine DD.vf 28 rfl rfl rfl rfl rfl (Vf.loadN rfl rfl rfl (hsv.ss.whole hx rfl)) ?_
    refine DD.act 29 rfl rfl rfl rfl rfl (Ef.call rfl (EqStoves_sp sk ⟨xa, ya, z1, z2⟩ pk L12 hst12 hsk12)) (by rintro _ _ _ ⟨_, rfl, rfl, rfl, rfl⟩; exact ⟨Le.refl _, rfl, .inl rfl⟩) ?_
    rintro _ _ _ ⟨_, rfl, rfl, rfl, rfl⟩
    refine DD.run' [30, 31, 32] rfl ?_
    refine DD.split 149 rfl (fun c => absurd c (by decide)) (fun _ => ?_)
    refine DD.run' [33, 34, 35] rfl ?_
    refine DD.vf 36 rfl rfl rfl rfl rfl (Vf.idx rfl rfl rfl rfl rfl rfl (hk4)) ?_
    refine DD.vf 37 rfl rfl rfl rfl rfl (Vf.load rfl rfl rfl (hcl12)) ?_
    refine DD.act 38 rfl rfl rfl rfl rfl (Ef.call rfl (EqInts_sp wa hk1 wc hk3 hks hks L12 hi12 hhk12 (by omega) (by omega))) (by rintro _ _ _ ⟨_, rfl, rfl, rfl, rfl⟩; exact ⟨Le.refl _, rfl, .inl rfl⟩) ?_
    rintro _ _ _ ⟨_, rfl, rfl, rfl, rfl⟩
    have hee : decide (hks = hks) = true := decide_eq_true rfl
    rw [hee]
    refine DD.run' [39, 40] rfl ?_
    refine .fin rfl ?_
    refine W.go 99 rfl ?_
    refine W.split rfl rfl rfl (fun c => absurd c (by decide)) (fun c => ?_)
    refine W.go 99 rfl ?_
    exact W.again (again _ _ _ _ (by omega) ⟨k + 1, rfl, by omega, hl812, rfl, rfl⟩) (by exact ⟨rfl, rfl, rfl, rfl, congrArg some (inc64 (by omega)), trivial⟩) (by exact trivial)
  · refine W.eff rfl rfl rfl (Ef.call rfl (drd L9 (hgl8.le hl9))) ?_
    rintro _ _ _ ⟨_, rfl, rfl, rfl, hdm⟩
    refine W.go 99 rfl ?_
    exact W.retO r rfl ⟨rfl, (Dim.of_le (hL8.trans hl9)).trans hdm⟩
end Go.Mz

