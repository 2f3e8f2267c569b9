/- Lemmas on which the claim leans. -/
import Derived.Test.YtfnjganjlkoehaaGreatDoorMzLa
set_option maxRecDepth 100000
namespace Go.Mz
open Go.Conc Go.Proofs
variable {Post : Value → World → Prop} {W0 : World}
theorem SlF_run (s : Sw) (p : Wp) (x : Want) (kd q : Int) (na : Option Addr) (nc : Nat) (nums : List Int) (L : LH) (hst : SwAt L s p) (hn : IntsAt L na nums) (hgl : GlOk L) (hl2 : nums.length ≤ 140737488355328)
    (hQ : ∀ v L' w, (v = .bool true ∧ Dim L L') → Sub L' w → Same W0 w → Post v w) :
    FGo Tryz.prog Post W0 (G (Frame.enter Tryz.prog 3 [swA s p, .agg (encWt x).toArray, .int .i64 kd, .int .i64 q, .slice na nums.length nc].toArray .normal) []) L := by
  refine root_enter (n := 108) (s := 10) Tryz.func3 rfl rfl (by kernel_rfl) rfl rfl hQ fun C hX _ hL0 r => ?_
  refine W.go 99 rfl ?_
  refine W.eff rfl rfl rfl (Ef.call rfl (long_sp s p L hst)) ?_
  rintro _ _ _ ⟨_, rfl, rfl, rfl, rfl⟩
  refine W.go 99 rfl ?_
  have drd : ∀ L2, GlOk L2 → Sp C.X 21 [] L2 (fun v L' => v = .bool true ∧ Dim L2 L') := fun L2 h => by rw [hX]; exact cut_sp L2 h
  refine W.split rfl rfl rfl (fun e1 => W.go 99 rfl ?_) (fun e1 => W.go 99 rfl ?_)
  · refine W.eff rfl rfl rfl (Ef.call rfl (drd L hgl)) ?_
    rintro _ _ _ ⟨_, rfl, rfl, rfl, hdm⟩
    refine W.go 99 rfl ?_
    refine W.retO r rfl ⟨rfl, hdm⟩
  have hsm := long_no e1
  refine W.eff rfl rfl rfl (Ef.call rfl (NewHat_sp na nc nums L hn)) ?_
  rintro _ _ _ ⟨_, rfl, rfl, b, rfl, hb, hle1, hh1⟩
  refine W.go 99 rfl ?_
  rename_i L1
  have hb1 := le_but hb hle1
  refine W.eff rfl rfl rfl (Ef.call rfl (several_sp s p x b na nc nums 0 L1 (hst.le hb1) hsm hh1 (by omega) hl2)) ?_
  rintro _ _ _ ⟨_, rfl, rfl, own, p1, p2, ba, m, rfl, ho, hm, hh2, hle2, hsev⟩
  refine W.go 99 rfl ?_
  rename_i L2
  have hgl2 := hgl.le (hb1.trans (but_but hle2))
  refine W.eff rfl rfl rfl (Ef.call rfl (To_sp b na nc nums m 2 L2 hh2 (by omega) hl2 (by omega))) ?_
  rintro _ _ _ ⟨_, rfl, rfl, ⟨y1, rfl, hy1⟩, hk3, hs3⟩
  refine W.go 99 rfl ?_
  have g3 := hh2.next hk3 hs3
  have f3 : Le (L2.but b) _ := but_same hk3
  rename_i L3
  refine W.eff rfl rfl rfl (Ef.call rfl (To_sp b na nc nums (m + 1) 30 L3 g3 (by omega) hl2 (by omega))) ?_
  rintro _ _ _ ⟨_, rfl, rfl, ⟨y2, rfl, hy2⟩, hk4, hs4⟩
  refine W.go 99 rfl ?_
  have g4 := g3.next hk4 hs4
  rename_i L4
  have f4 : Le (L2.but b) L4 := but_trans f3 (but_same hk4)
  refine W.pub 34 (.inr ⟨_, _, _, rfl⟩) rfl rfl ?_
  intro bc hbc _
  refine W.pub 39 (.inr ⟨_, _, _, rfl⟩) rfl rfl ?_
  intro bd hbd _
  have q1 : Le L4 (L4.put bc (.cells ([kd, (y1 : Int), kd].flatMap encI).toArray 3)) := Le.put hbc _
  have q2 : Le (L4.put bc (.cells ([kd, (y1 : Int), kd].flatMap encI).toArray 3)) ((L4.put bc (.cells ([kd, (y1 : Int), kd].flatMap encI).toArray 3)).put bd (.cells ([q, (y2 : Int), q].flatMap encI).toArray 3)) := Le.put hbd _
  have k1 := q2 _ _ (put_same L4 bc (.cells ([kd, (y1 : Int), kd].flatMap encI).toArray 3))
  have k2 := put_same (L4.put bc (.cells ([kd, (y1 : Int), kd].flatMap encI).toArray 3)) bd (.cells ([q, (y2 : Int), q].flatMap encI).toArray 3)
  have f8 := f4.trans (q1.trans q2)
  clear q1 q2
  change W C _ _ _ _ _ ((L4.put bc (.cells ([kd, (y1 : Int), kd].flatMap encI).toArray 3)).put bd (.cells ([q, (y2 : Int), q].flatMap encI).toArray 3))
  generalize (L4.put bc (.cells ([kd, (y1 : Int), kd].flatMap encI).toArray 3)).put bd (.cells ([q, (y2 : Int), q].flatMap encI).toArray 3) = L8 at k1 k2 f8 ⊢
  have hL8 : Le L L8 := hb1.trans ((but_but hle2).trans f8)
  have hsev := hsev.le f8
  have hgl8 := hgl2.le f8
  have hcs := sl_block (L := L8) encI_len k1
  have has := sl_block (L := L8) encI_len k2
  generalize hSs : [(s, p), (own, p1), (({ own with wants := own.wants ++ [x] } : Sw), p2)] = Ss at hsev
  generalize hCs : [kd, (y1 : Int), kd] = Cs at hcs
  generalize hAs : [q, (y2 : Int), q] = As at has
  have nS : Ss.length = 3 := by rw [← hSs]; rfl
  have nC : Cs.length = 3 := by rw [← hCs]; rfl
  have nA : As.length = 3 := by rw [← hAs]; rfl
  refine W.loop (fun w E B L' => ∃ k : Nat, w = 3 - k ∧ k ≤ 3 ∧ Le L8 L' ∧ E = [(12, .v (.slice (some ⟨ba, 0, none⟩) 3 3)), (13, .v (.slice (some ⟨bc, 0, none⟩) 3 3)), (14, .v (.slice (some ⟨bd, 0, none⟩) 3 3)), (15, .v (.int .i64 k))] ∧ B = [])
    ⟨0, rfl, by omega, Le.refl _, rfl, rfl⟩ (by exact ⟨rfl, rfl, rfl, rfl, trivial⟩) (by exact trivial) ?_
  rintro _ _ _ L9 ⟨k, rfl, hk, hl9, rfl, rfl⟩ again
  refine W.go 99 rfl ?_
  refine W.split rfl rfl rfl (fun e3 => W.go 99 rfl ?_) (fun e3 => W.go 99 rfl ?_)
  · have hk3 : k < 3 := by have : (k : Int) < 3 := by simpa using e3
                           omega
    obtain ⟨⟨sk, pk⟩, hx⟩ : ∃ x, Ss[k]? = some x := ⟨_, List.getElem?_eq_getElem (by omega)⟩
    obtain ⟨ck, hz⟩ : ∃ x, Cs[k]? = some x := ⟨_, List.getElem?_eq_getElem (by omega)⟩
    obtain ⟨ak, hu⟩ : ∃ x, As[k]? = some x := ⟨_, List.getElem?_eq_getElem (by omega)⟩
    have hsv := hsev.le hl9
    obtain ⟨hsk, hskm⟩ := hsv.so _ (List.mem_of_getElem? hx)
    dsimp only at hsk hskm
    refine W.vf rfl rfl rfl rfl (Vf.idx rfl rfl rfl rfl rfl rfl (hk3)) ?_
    refine W.go 99 rfl ?_
    refine W.vf rfl rfl rfl rfl (Vf.loadN rfl rfl rfl (hsv.ss.whole hx rfl)) ?_
    refine W.go 99 rfl ?_
    refine W.eff rfl rfl rfl (Ef.call rfl (DupSaw_sp sk pk L9 hsk hskm)) ?_
    rintro _ _ _ ⟨v9, rfl, rfl, p9, I9, hd9⟩
    obtain ⟨hst10, hl10⟩ := hd9.at_
    have hv9 := hd9.v
    subst hv9
    rename_i L10
    refine W.go 99 rfl ?_
    have hl810 := hl9.trans hl10
    refine W.drawn (by kernel_rfl) _ (Le.refl _) ?_
    refine DD.run' [0, 1, 2, 5, 6] rfl ?_
    refine DD.vf 3 rfl rfl rfl rfl rfl (Vf.idx1 rfl rfl rfl rfl rfl rfl rfl (hk3)) ?_
    refine DD.vf 4 rfl rfl rfl rfl rfl (Vf.load rfl rfl rfl ((hcs.le hl810).int hz)) ?_
    refine DD.vf 7 rfl rfl rfl rfl rfl (Vf.idx1 rfl rfl rfl rfl rfl rfl rfl (hk3)) ?_
    refine DD.vf 8 rfl rfl rfl rfl rfl (Vf.load rfl rfl rfl ((has.le hl810).int hu)) ?_
    refine DD.act 9 rfl rfl rfl rfl rfl (Ef.call rfl ((Slices_sp sk p9 ck ak L10 hst10 hskm))) ((by rintro _ _ _ ⟨_, rfl, rfl, rfl, hl⟩; exact ⟨hl, rfl, .inl rfl⟩)) ?_
    rintro _ _ _ ⟨v11, rfl, rfl, rfl, hl11⟩
    rename_i L11
    refine DD.run' [10, 11, 12, 13, 14] rfl ?_
    refine .fin rfl ?_
    refine W.go 99 rfl ?_
    have hl811 := hl810.trans hl11
    have hsv := hsev.le hl811
    refine W.drawn (by kernel_rfl) _ (Le.refl _) ?_
    refine DD.run' [0, 1, 4, 5, 8, 9] rfl ?_
    refine DD.vf 2 rfl rfl rfl rfl rfl (Vf.idx rfl rfl rfl rfl rfl rfl (hk3)) ?_
    refine DD.vf 3 rfl rfl rfl rfl rfl (Vf.loadN rfl rfl rfl (hsv.ss.whole hx rfl)) ?_
    refine DD.vf 6 rfl rfl rfl rfl rfl (Vf.idx1 rfl rfl rfl rfl rfl rfl rfl (hk3)) ?_
    refine DD.vf 7 rfl rfl rfl rfl rfl (Vf.load rfl rfl rfl ((hcs.le hl811).int hz)) ?_
    refine DD.vf 10 rfl rfl rfl rfl rfl (Vf.idx1 rfl rfl rfl rfl rfl rfl rfl (hk3)) ?_
    refine DD.vf 11 rfl rfl rfl rfl rfl (Vf.load rfl rfl rfl ((has.le hl811).int hu)) ?_
    refine DD.act 12 rfl rfl rfl rfl rfl (Ef.call rfl (rSlices_sp sk pk ck ak L11 (hsv.so _ (List.mem_of_getElem? hx)).1 hskm)) (by rintro _ _ _ ⟨_, rfl, rfl, rfl, rfl⟩; exact ⟨Le.refl _, rfl, .inl rfl⟩) ?_
    rintro _ _ _ ⟨_, rfl, rfl, rfl, rfl⟩
    refine DD.run' [13, 14, 15, 16, 17] rfl ?_
    refine .fin rfl ?_
    refine W.go 99 rfl ?_
    refine W.drawn (by kernel_rfl) _ (Le.refl _) ?_
    refine DD.run' [0, 2, 3] rfl ?_
    refine DD.vf 4 rfl rfl rfl rfl rfl (Vf.idx rfl rfl rfl rfl rfl rfl (hk3)) ?_
    refine DD.vf 5 rfl rfl rfl rfl rfl (Vf.loadN rfl rfl rfl (hsv.ss.whole hx rfl)) ?_
    refine DD.act 1 rfl rfl rfl rfl rfl (Ef.call rfl (Check_sp sk p9 L11 (hst10.le hl11) hskm)) (by rintro _ _ _ ⟨_, rfl, rfl, rfl, rfl⟩; exact ⟨Le.refl _, rfl, .inl rfl⟩) ?_
    rintro _ _ _ ⟨_, rfl, rfl, rfl, rfl⟩
    refine DD.act 6 rfl rfl rfl rfl rfl (Ef.call rfl (rCheck_sp sk pk L11 (hsv.so _ (List.mem_of_getElem? hx)).1 hskm)) (by rintro _ _ _ ⟨_, rfl, rfl, rfl, rfl⟩; exact ⟨Le.refl _, rfl, .inl rfl⟩) ?_
    rintro _ _ _ ⟨_, rfl, rfl, rfl, rfl⟩
    refine DD.run' [7, 8] rfl ?_
    rw [bne_self_eq_false]
    refine DD.split 88 rfl (fun c => absurd c (by decide)) (fun _ => ?_)
    refine DD.run' [9, 10, 11, 12, 13] rfl ?_
    rw [bne_self_eq_false]
    refine DD.split 93 rfl (fun c => absurd c (by decide)) (fun _ => ?_)
    refine DD.run' [14, 15, 16, 17, 18] rfl ?_
    rw [bne_self_eq_false]
    refine DD.split 98 rfl (fun c => absurd c (by decide)) (fun _ => ?_)
    refine DD.run' [19, 20, 21] rfl ?_
    refine DD.vf 22 rfl rfl rfl rfl rfl (Vf.idx rfl rfl rfl rfl rfl rfl (hk3)) ?_
    refine DD.vf 23 rfl rfl rfl rfl rfl (Vf.loadN rfl rfl rfl (hsv.ss.whole hx rfl)) ?_
    refine DD.act 24 rfl rfl rfl rfl rfl (Ef.call rfl (EqSaws_sp sk p9 pk L11 (hst10.le hl11) (hsv.so _ (List.mem_of_getElem? hx)).1 hskm)) (by rintro _ _ _ ⟨_, rfl, rfl, rfl, rfl⟩; exact ⟨Le.refl _, rfl, .inl rfl⟩) ?_
    rintro _ _ _ ⟨_, rfl, rfl, rfl, rfl⟩
    refine DD.run' [25, 26] rfl ?_
    refine .fin rfl ?_
    refine W.go 99 rfl ?_
    refine W.split rfl rfl rfl (fun h => absurd h (by simp)) (fun _ => ?_)
    refine W.go 99 rfl ?_
    exact W.again (again _ _ _ _ (by omega) ⟨k + 1, rfl, by omega, hl9.trans (hl10.trans hl11), rfl, rfl⟩) (by exact ⟨rfl, rfl, rfl, congrArg some (inc64 (by omega)), trivial⟩) (by exact trivial)
  · have hk3 : k = 3 := by simp at e3; omega
    refine W.eff rfl rfl rfl (Ef.call rfl (drd _ (hgl8.le hl9))) ?_
    rintro _ _ _ ⟨v20, rfl, rfl, rfl, hdm⟩
    refine W.go 99 rfl ?_
    exact W.retO r rfl ⟨rfl, (Dim.of_le (hL8.trans hl9)).trans hdm⟩
end Go.Mz

