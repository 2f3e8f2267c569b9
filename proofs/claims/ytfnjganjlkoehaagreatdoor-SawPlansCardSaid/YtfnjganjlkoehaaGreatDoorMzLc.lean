/- Lemmas on which the claim leans. -/
import Derived.Test.YtfnjganjlkoehaaGreatDoorMzLb
set_option maxRecDepth 100000
namespace Go.Mz
open Go.Conc Go.Proofs
variable {Post : Value → World → Prop} {W0 : World}
theorem LeftE_len {s : Sw} (hn : Sm s) (w l : List Int) : (LeftE s w l).1.length ≤ 1000000 := by
 have := hn.hs
 unfold LeftE
 split
 ·simp
 ·simp [stayW]; omega
theorem PlF_run (s : Sw) (p : Wp) (x : Want) (ha : Option Addr) (hc : Nat) (ws : List Int) (ka : Option Addr) (kc : Nat) (ks : List Int) (na : Option Addr) (nc : Nat) (nums : List Int) (L : LH) (hst : SwAt L s p) (hh : IntsAt L ha ws) (hkk : IntsAt L ka ks) (hn : IntsAt L na nums) (hgl : GlOk L) (hl2 : nums.length ≤ 140737488355328)
    (hQ : ∀ v L' w, (v = .bool true ∧ Dim L L') → Sub L' w → Same W0 w → Post v w) :
    FGo Tryz.prog Post W0 (G (Frame.enter Tryz.prog 12 [swA s p, .agg (encWt x).toArray, .slice ha ws.length hc, .slice ka ks.length kc, .slice na nums.length nc].toArray .normal) []) L := by
  refine root_enter (n := 195) (s := 10) Tryz.func12 rfl rfl (by kernel_rfl) rfl rfl hQ fun C hX _ hL0 r => ?_
  refine W.go 99 rfl ?_
  refine W.eff rfl rfl rfl (Ef.call rfl (long_sp s p L hst)) ?_
  rintro _ _ _ ⟨_, rfl, rfl, rfl, rfl⟩
  refine W.go 99 rfl ?_
  have drd : ∀ L2, GlOk L2 → Sp C.X 21 [] L2 (fun v L' => v = .bool true ∧ Dim L2 L') := fun L2 h => by rw [hX]; exact cut_sp L2 h
  refine W.split rfl rfl rfl (fun e1 => W.go 99 rfl ?_) (fun e1 => W.go 99 rfl ?_)
  · refine W.eff rfl rfl rfl (Ef.call rfl (drd L hgl)) ?_
    rintro _ _ _ ⟨_, rfl, rfl, rfl, hdm⟩
    refine W.go 99 rfl ?_
    refine W.retO r rfl ⟨rfl, hdm⟩
  refine W.split rfl rfl rfl (fun e2 => W.go 99 rfl ?_) (fun e2 => W.go 99 rfl ?_)
  · refine W.eff rfl rfl rfl (Ef.call rfl (drd L hgl)) ?_
    rintro _ _ _ ⟨_, rfl, rfl, rfl, hdm⟩
    refine W.go 99 rfl ?_
    refine W.retO r rfl ⟨rfl, hdm⟩
  refine W.split rfl rfl rfl (fun e2' => W.go 99 rfl ?_) (fun e2' => W.go 99 rfl ?_)
  · refine W.eff rfl rfl rfl (Ef.call rfl (drd L hgl)) ?_
    rintro _ _ _ ⟨_, rfl, rfl, rfl, hdm⟩
    refine W.go 99 rfl ?_
    refine W.retO r rfl ⟨rfl, hdm⟩
  have h20 : ws.length ≤ 20 := by simp at e2; omega
  have k20 : ks.length ≤ 20 := by simp at e2'; omega
  have hsm := long_no e1
  refine W.eff rfl rfl rfl (Ef.call rfl (NewHat_sp na nc nums L hn)) ?_
  rintro _ _ _ ⟨_, rfl, rfl, b, rfl, hb, hle1, hh1⟩
  refine W.go 99 rfl ?_
  rename_i L1
  have hb1 := le_but hb hle1
  refine W.eff rfl rfl rfl (Ef.call rfl (several_sp s p x b na nc nums 0 L1 (hst.le hb1) hsm hh1 (by omega) hl2)) ?_
  rintro _ _ _ ⟨_, rfl, rfl, own, p1, p2, ba, m, rfl, ho, hm, hh2, hle2, hsev⟩
  refine W.go 99 rfl ?_
  rename_i L2
  have hgl2 := hgl.le (hb1.trans (but_but hle2))
  have hok := sawE_0 ho.e
  have hx1 : [(s, p), (own, p1), (({ own with wants := own.wants ++ [x] } : Sw), p2)][1]? = some (own, p1) := rfl
  refine W.vf rfl rfl rfl rfl (Vf.idx rfl rfl rfl rfl rfl rfl ((show 1 < 3 by decide))) ?_
  refine W.go 99 rfl ?_
  refine W.vf rfl rfl rfl rfl (Vf.loadN rfl rfl rfl ((hsev.ss.le (but_le _ _)).whole hx1 rfl)) ?_
  refine W.go 99 rfl ?_
  refine W.eff rfl rfl rfl (Ef.call rfl (ServedOf_sp own p1 b na nc nums m L2 hh2 (by omega) hl2 hok.sm)) ?_
  rintro _ _ _ ⟨_, rfl, rfl, wq, tq, wa, wc, ta, tc, m3, rfl, hsv, hm3, hh3, hle3, hwq, htq⟩
  refine W.go 99 rfl ?_
  rename_i L3
  have hw5 := asc5 hok.w5 hsv.asc hsv.wn
  have htl := hsv.len
  have hl3 := hok.l3
  have hst3 := hok.st
  have f3 : Le (L2.but b) (L3.but b) := but_but hle3
  have hsev3 := hsev.le (f3.trans (but_le _ _))
  have hL3 : Le L L3 := hb1.trans ((but_but hle2).trans (f3.trans (but_le _ _)))
  refine W.vf rfl rfl rfl rfl (Vf.idx rfl rfl rfl rfl rfl rfl ((show 1 < 3 by decide))) ?_
  refine W.go 99 rfl ?_
  refine W.vf rfl rfl rfl rfl (Vf.loadN rfl rfl rfl (hsev3.ss.whole hx1 rfl)) ?_
  refine W.go 99 rfl ?_
  have hsw1 := (hsev3.so _ (List.mem_of_getElem? hx1)).1
  have hcx := rCrushX_sp (X := C.X) own p1 wa wc (natI wq) L3 hsw1 hok.sm (hwq.le (but_le _ _)) (by rw [natI_len]; omega)
  rw [natI_len] at hcx
  refine W.eff rfl rfl rfl (Ef.call rfl (hcx)) ?_
  rintro _ _ _ ⟨v15, rfl, rfl, ca, cc, rfl, hcr, hl34⟩
  refine W.go 99 rfl ?_
  rename_i L4
  have hcl : (CrushE own (natI wq)).1.length ≤ 3 := by
    have h := crush_len (s := own) (natsW (natI wq))
    unfold CrushE
    split
    · simp
    · split
      · simp
      · omega
  have hsev4 := hsev3.le hl34
  refine W.drawn (by kernel_rfl) L4 (Le.refl _) ?_
  refine DD.run' [0, 1, 4] rfl ?_
  refine DD.vf 2 rfl rfl rfl rfl rfl (Vf.idx rfl rfl rfl rfl rfl rfl ((show 1 < 3 by decide))) ?_
  refine DD.vf 3 rfl rfl rfl rfl rfl (Vf.loadN rfl rfl rfl (hsev4.ss.whole hx1 rfl)) ?_
  refine DD.vf 5 rfl rfl rfl rfl rfl (Vf.idx rfl rfl rfl rfl rfl rfl ((show 1 < 3 by decide))) ?_
  refine DD.vf 6 rfl rfl rfl rfl rfl (Vf.loadN rfl rfl rfl (hsev4.ss.whole hx1 rfl)) ?_
  refine DD.run' [7] rfl ?_
  refine DD.act 8 rfl rfl rfl rfl rfl (Ef.appF rfl rfl rfl rfl rfl rfl rfl rfl rfl encSP_len hsev4.ss (ls := [(own, p1), (own, p1)]) (.own rfl rfl rfl rfl) (by simp) (by simp)) ((by rintro _ _ _ ⟨_, _, _, rfl, rfl, hn, rfl, _⟩; exact ⟨Le.put hn _, rfl, .inl rfl⟩)) ?_
  rintro _ _ _ ⟨b5, c5, cap5, rfl, rfl, hb5, rfl, hown5⟩
  refine DD.run' [9] rfl ?_
  refine .fin rfl ?_
  refine W.go 99 rfl ?_
  have hL45 : Le L4 (L4.put b5 (Obj.cells c5 26)) := Le.put hb5 _
  generalize L4.put b5 (Obj.cells c5 26) = L5 at hL45 hown5 ⊢
  have hss5 := hown5.at encSP_len
  refine W.pub 80 (.inr ⟨_, _, _, rfl⟩) rfl rfl ?_
  intro bc hbc _
  have q1 : Le L5 (L5.put bc (.cells (([((ha, ws.length, hc), ws), ((wa, wq.length, wc), natI wq), ((wa, wq.length, wc), natI wq), ((wa, wq.length, wc), natI wq), ((ha, ws.length, hc), ws)] : List (Rw Int)).flatMap encRw).toArray 23)) := Le.put hbc _
  have k1 := put_same L5 bc (.cells (([((ha, ws.length, hc), ws), ((wa, wq.length, wc), natI wq), ((wa, wq.length, wc), natI wq), ((wa, wq.length, wc), natI wq), ((ha, ws.length, hc), ws)] : List (Rw Int)).flatMap encRw).toArray 23)
  change W C _ _ _ _ _ (L5.put bc (.cells (([((ha, ws.length, hc), ws), ((wa, wq.length, wc), natI wq), ((wa, wq.length, wc), natI wq), ((wa, wq.length, wc), natI wq), ((ha, ws.length, hc), ws)] : List (Rw Int)).flatMap encRw).toArray 23))
  generalize L5.put bc (.cells (([((ha, ws.length, hc), ws), ((wa, wq.length, wc), natI wq), ((wa, wq.length, wc), natI wq), ((wa, wq.length, wc), natI wq), ((ha, ws.length, hc), ws)] : List (Rw Int)).flatMap encRw).toArray 23) = L6 at k1 q1 ⊢
  refine W.pub 86 (.inr ⟨_, _, _, rfl⟩) rfl rfl ?_
  intro bk hbk _
  have q2 : Le L6 (L6.put bk (.cells (([((ka, ks.length, kc), ks), ((ta, tq.length, tc), tq), ((ta, tq.length, tc), tq), ((ca, (CrushE own (natI wq)).1.length, cc), (CrushE own (natI wq)).1), ((ka, ks.length, kc), ks)] : List (Rw Int)).flatMap encRw).toArray 23)) := Le.put hbk _
  have k2 := put_same L6 bk (.cells (([((ka, ks.length, kc), ks), ((ta, tq.length, tc), tq), ((ta, tq.length, tc), tq), ((ca, (CrushE own (natI wq)).1.length, cc), (CrushE own (natI wq)).1), ((ka, ks.length, kc), ks)] : List (Rw Int)).flatMap encRw).toArray 23)
  change W C _ _ _ _ _ (L6.put bk (.cells (([((ka, ks.length, kc), ks), ((ta, tq.length, tc), tq), ((ta, tq.length, tc), tq), ((ca, (CrushE own (natI wq)).1.length, cc), (CrushE own (natI wq)).1), ((ka, ks.length, kc), ks)] : List (Rw Int)).flatMap encRw).toArray 23))
  generalize L6.put bk (.cells (([((ka, ks.length, kc), ks), ((ta, tq.length, tc), tq), ((ta, tq.length, tc), tq), ((ca, (CrushE own (natI wq)).1.length, cc), (CrushE own (natI wq)).1), ((ka, ks.length, kc), ks)] : List (Rw Int)).flatMap encRw).toArray 23) = L7 at k2 q2 ⊢
  have h47 : Le L4 L7 := hL45.trans (q1.trans q2)
  have h37 : Le L3 L7 := hl34.trans h47
  have hL7 : Le L L7 := hL3.trans h37
  have hgl7 := hgl.le hL7
  have hcs := (sl_block (L := L6) encRw_len k1).le q2
  have hks := sl_block (L := L7) encRw_len k2
  have hHo : ∀ y ∈ ([((ha, ws.length, hc), ws), ((wa, wq.length, wc), natI wq), ((wa, wq.length, wc), natI wq), ((wa, wq.length, wc), natI wq), ((ha, ws.length, hc), ws)] : List (Rw Int)), HPOk L7 y := fun y hy => by
    simp only [List.mem_cons, List.not_mem_nil, or_false] at hy
    rcases hy with rfl | rfl | rfl | rfl | rfl
    · exact ⟨hh.le hL7, rfl, h20⟩
    · exact ⟨(hwq.le (but_le _ _)).le h37, (natI_len wq).symm, by show (natI wq).length ≤ 20; rw [natI_len]; omega⟩
    · exact ⟨(hwq.le (but_le _ _)).le h37, (natI_len wq).symm, by show (natI wq).length ≤ 20; rw [natI_len]; omega⟩
    · exact ⟨(hwq.le (but_le _ _)).le h37, (natI_len wq).symm, by show (natI wq).length ≤ 20; rw [natI_len]; omega⟩
    · exact ⟨hh.le hL7, rfl, h20⟩
  have hKo : ∀ y ∈ ([((ka, ks.length, kc), ks), ((ta, tq.length, tc), tq), ((ta, tq.length, tc), tq), ((ca, (CrushE own (natI wq)).1.length, cc), (CrushE own (natI wq)).1), ((ka, ks.length, kc), ks)] : List (Rw Int)), HPOk L7 y := fun y hy => by
    simp only [List.mem_cons, List.not_mem_nil, or_false] at hy
    rcases hy with rfl | rfl | rfl | rfl | rfl
    · exact ⟨hkk.le hL7, rfl, k20⟩
    · exact ⟨(htq.le (but_le _ _)).le h37, rfl, by show tq.length ≤ 20; omega⟩
    · exact ⟨(htq.le (but_le _ _)).le h37, rfl, by show tq.length ≤ 20; omega⟩
    · exact ⟨hcr.le h47, rfl, by show (CrushE own (natI wq)).1.length ≤ 20; omega⟩
    · exact ⟨hkk.le hL7, rfl, k20⟩
  have hSo : ∀ y ∈ ([(s, p), (own, p1), (({ own with wants := own.wants ++ [x] } : Sw), p2)] ++ [(own, p1), (own, p1)]), SwAt L7 y.1 y.2 ∧ Sm y.1 := fun y hy => by
    rcases List.mem_append.1 hy with h | h
    · exact (hsev4.le h47).so y h
    · simp only [List.mem_cons, List.not_mem_nil, or_false, or_self] at h
      subst h
      exact (hsev4.le h47).so _ (List.mem_of_getElem? hx1)
  have hss7 := hss5.le (q1.trans q2)
  generalize hSs : ([(s, p), (own, p1), (({ own with wants := own.wants ++ [x] } : Sw), p2)] ++ [(own, p1), (own, p1)]) = Ss at hss7 hSo ⊢
  generalize hHs : ([((ha, ws.length, hc), ws), ((wa, wq.length, wc), natI wq), ((wa, wq.length, wc), natI wq), ((wa, wq.length, wc), natI wq), ((ha, ws.length, hc), ws)] : List (Rw Int)) = Hs at hcs hHo
  generalize hKs : ([((ka, ks.length, kc), ks), ((ta, tq.length, tc), tq), ((ta, tq.length, tc), tq), ((ca, (CrushE own (natI wq)).1.length, cc), (CrushE own (natI wq)).1), ((ka, ks.length, kc), ks)] : List (Rw Int)) = Ks at hks hKo
  have nS : Ss.length = 5 := by rw [← hSs]; rfl
  have nH : Hs.length = 5 := by rw [← hHs]; rfl
  have nK : Ks.length = 5 := by rw [← hKs]; rfl
  rw [nS]
  refine W.loop (fun w E B L' => ∃ k : Nat, w = 5 - k ∧ k ≤ 5 ∧ Le L7 L' ∧ E = [(12, .v (.slice (some ⟨b5, 0, none⟩) 5 cap5)), (18, .v (.slice (some ⟨bc, 0, none⟩) 5 5)), (19, .v (.slice (some ⟨bk, 0, none⟩) 5 5)), (20, .v (.int .i64 k))] ∧ B = [])
    ⟨0, rfl, by omega, Le.refl _, rfl, rfl⟩ (by exact ⟨rfl, rfl, rfl, rfl, trivial⟩) (by exact trivial) ?_
  rintro _ _ _ L9 ⟨k, rfl, hk, hl9, rfl, rfl⟩ again
  refine W.go 99 rfl ?_
  refine W.split rfl rfl rfl (fun e3 => W.go 99 rfl ?_) (fun e3 => W.go 99 rfl ?_)
  · have hk3 : k < 5 := by have : (k : Int) < 5 := by simpa using e3
                           omega
    obtain ⟨⟨sk, pk⟩, hx⟩ : ∃ x, Ss[k]? = some x := ⟨_, List.getElem?_eq_getElem (by omega)⟩
    obtain ⟨⟨⟨k1, k2, k3⟩, wk⟩, hy⟩ : ∃ x, Hs[k]? = some x := ⟨_, List.getElem?_eq_getElem (by omega)⟩
    obtain ⟨⟨⟨j1, j2, j3⟩, lk⟩, hz⟩ : ∃ x, Ks[k]? = some x := ⟨_, List.getElem?_eq_getElem (by omega)⟩
    have hss := hss7.le hl9
    obtain ⟨hsk', hskm⟩ := hSo _ (List.mem_of_getElem? hx)
    have hsk := hsk'.le hl9
    obtain ⟨hhk, hkl, hk20⟩ := (hHo _ (List.mem_of_getElem? hy)).le hl9
    obtain ⟨hhj, hjl, hj20⟩ := (hKo _ (List.mem_of_getElem? hz)).le hl9
    dsimp only at hsk hskm hhk hkl hk20 hhj hjl hj20
    subst hkl hjl
    have hcl : L9.cell? ((Addr.mk bc 0 none).add k) = some (.slice k1 wk.length k3) := by
      have := (hcs.le hl9).get hy (j := 0) (v := slV (k1, wk.length, k3)) rfl
      simpa using this
    have hcj : L9.cell? ((Addr.mk bk 0 none).add k) = some (.slice j1 lk.length j3) := by
      have := (hks.le hl9).get hz (j := 0) (v := slV (j1, lk.length, j3)) rfl
      simpa using this
    have hgl9 := hgl7.le hl9
    refine W.drawn (by kernel_rfl) _ (Le.refl _) ?_
    refine DD.run' [0, 1, 5, 6, 10, 11, 15] rfl ?_
    refine DD.vf 2 rfl rfl rfl rfl rfl (Vf.idx rfl rfl rfl rfl rfl rfl (hk3)) ?_
    refine DD.vf 3 rfl rfl rfl rfl rfl (Vf.loadN rfl rfl rfl (hss.whole hx rfl)) ?_
    refine DD.vf 7 rfl rfl rfl rfl rfl (Vf.idx1 rfl rfl rfl rfl rfl rfl rfl (hk3)) ?_
    refine DD.vf 8 rfl rfl rfl rfl rfl (Vf.load rfl rfl rfl (hcl)) ?_
    refine DD.vf 12 rfl rfl rfl rfl rfl (Vf.idx1 rfl rfl rfl rfl rfl rfl rfl (hk3)) ?_
    refine DD.vf 13 rfl rfl rfl rfl rfl (Vf.load rfl rfl rfl (hcj)) ?_
    refine DD.act 4 rfl rfl rfl rfl rfl (Ef.call rfl ((DupSaw_sp sk pk L9 hsk hskm))) ((by rintro _ _ _ ⟨_, rfl, rfl, _, _, hd⟩; exact ⟨hd.at_.2, rfl, .inl rfl⟩)) ?_
    rintro _ _ _ ⟨_, rfl, rfl, p9, I9, hd9⟩
    obtain ⟨hst10, hl10⟩ := hd9.at_
    have hv9 := hd9.v
    subst hv9
    rename_i L10
    refine DD.act 9 rfl rfl rfl rfl rfl (Ef.call rfl ((DupInts_sp k1 k3 wk L10 (hhk.le hl10) (by omega)))) ((by rintro _ _ _ ⟨_, rfl, rfl, g3⟩; exact ⟨hl10.trans g3.1, rfl, .inl rfl⟩)) ?_
    rintro _ _ _ ⟨vx, rfl, rfl, hg3⟩
    rename_i L11
    obtain ⟨xa, xc, rfl, _⟩ := hg3.slice
    have hi11 := (hg3.at encI_len).2
    have hl11 := hl10.trans hg3.1
    refine DD.act 14 rfl rfl rfl rfl rfl (Ef.call rfl ((DupInts_sp j1 j3 lk L11 (hhj.le hl11) (by omega)))) ((by rintro _ _ _ ⟨_, rfl, rfl, g4⟩; exact ⟨hl11.trans g4.1, rfl, .inl rfl⟩)) ?_
    rintro _ _ _ ⟨vz, rfl, rfl, hg4⟩
    obtain ⟨za, zc, rfl, _⟩ := hg4.slice
    have hz12 := (hg4.at encI_len).2
    have hl12 := hl11.trans hg4.1
    refine DD.act 16 rfl rfl rfl rfl rfl (Ef.sto rfl) (by rintro _ _ _ ⟨rfl, rfl, rfl⟩; exact ⟨hl12, rfl, .inr rfl⟩) ?_
    rintro _ _ L12 ⟨rfl, rfl, rfl⟩
    rename_i L12
    refine DD.run' [17, 18] rfl ?_
    refine .fin rfl ?_
    refine W.weak (E' := [(12, .v (.slice (some ⟨b5, 0, none⟩) 5 cap5)), (18, .v (.slice (some ⟨bc, 0, none⟩) 5 5)), (19, .v (.slice (some ⟨bk, 0, none⟩) 5 5)), (20, .v (.int .i64 k)), (21, .p 0 0), (22, .v (.slice xa wk.length xc)), (23, .v (.slice za lk.length zc))]) (B' := [some ⟨cellsS (.v (swA sk p9)), 26⟩]) (by exact ⟨rfl, rfl, rfl, rfl, rfl, rfl, rfl, trivial⟩) (by exact ⟨rfl, trivial⟩) ?_
    have hl912 := hl12
    have hst12 := (hst10.le hg3.1).le hg4.1
    have hi12 := hi11.le hg4.1
    refine W.go 99 rfl ?_
    refine W.eff rfl rfl rfl (Ef.call rfl (Left_sp sk p9 xa za xc zc wk lk L12 hst12 hskm (hgl9.le hl912) hi12 hz12 (by omega) (by omega))) ?_
    rintro _ _ _ ⟨v21, rfl, rfl, aa, ca, rfl, hA, hl13⟩
    refine W.go 99 rfl ?_
    rename_i L13
    have hl913 := hl912.trans hl13
    refine W.drawn (by kernel_rfl) _ (Le.refl _) ?_
    refine DD.run' [0, 1, 4, 5, 8, 9] rfl ?_
    refine DD.vf 2 rfl rfl rfl rfl rfl (Vf.idx rfl rfl rfl rfl rfl rfl (hk3)) ?_
    refine DD.vf 3 rfl rfl rfl rfl rfl (Vf.loadN rfl rfl rfl ((hss.le hl913).whole hx rfl)) ?_
    refine DD.vf 6 rfl rfl rfl rfl rfl (Vf.idx1 rfl rfl rfl rfl rfl rfl rfl (hk3)) ?_
    refine DD.vf 7 rfl rfl rfl rfl rfl (Vf.load rfl rfl rfl ((hl913.cell hcl))) ?_
    refine DD.vf 10 rfl rfl rfl rfl rfl (Vf.idx1 rfl rfl rfl rfl rfl rfl rfl (hk3)) ?_
    refine DD.vf 11 rfl rfl rfl rfl rfl (Vf.load rfl rfl rfl ((hl913.cell hcj))) ?_
    refine DD.act 12 rfl rfl rfl rfl rfl (Ef.call rfl ((rLeft_sp sk pk k1 j1 k3 j3 wk lk L13 (hsk.le hl913) hskm (hhk.le hl913) (hhj.le hl913) (by omega) (by omega)))) ((by rintro _ _ _ ⟨_, rfl, rfl, _, _, rfl, _, hl⟩; exact ⟨hl, rfl, .inl rfl⟩)) ?_
    rintro _ _ _ ⟨v22, rfl, rfl, ab, cb, rfl, hB, hl14⟩
    rename_i L14
    refine DD.run' [13, 14, 15, 16, 17, 18, 19] rfl ?_
    refine .fin rfl ?_
    refine W.go 99 rfl ?_
    have hl914 := hl913.trans hl14
    have hl1214 := hl13.trans hl14
    refine W.drawn (by kernel_rfl) _ (Le.refl _) ?_
    refine DD.run' [0, 1, 2, 4, 5, 8, 9, 12, 13] rfl ?_
    refine DD.vf 6 rfl rfl rfl rfl rfl (Vf.idx rfl rfl rfl rfl rfl rfl (hk3)) ?_
    refine DD.vf 7 rfl rfl rfl rfl rfl (Vf.loadN rfl rfl rfl ((hss.le hl914).whole hx rfl)) ?_
    refine DD.vf 10 rfl rfl rfl rfl rfl (Vf.idx1 rfl rfl rfl rfl rfl rfl rfl (hk3)) ?_
    refine DD.vf 11 rfl rfl rfl rfl rfl (Vf.load rfl rfl rfl ((hl914.cell hcl))) ?_
    refine DD.vf 14 rfl rfl rfl rfl rfl (Vf.idx1 rfl rfl rfl rfl rfl rfl rfl (hk3)) ?_
    refine DD.vf 15 rfl rfl rfl rfl rfl (Vf.load rfl rfl rfl ((hl914.cell hcj))) ?_
    refine DD.act 3 rfl rfl rfl rfl rfl (Ef.call rfl ((Right_sp sk p9 xa za xc zc wk lk L14 (hst12.le hl1214) hskm (hgl9.le hl914) (hi12.le hl1214) (hz12.le hl1214) (by omega) (by omega)))) ((by rintro _ _ _ ⟨_, rfl, rfl, rfl, hl⟩; exact ⟨hl, rfl, .inl rfl⟩)) ?_
    rintro _ _ _ ⟨v23, rfl, rfl, rfl, hl15⟩
    rename_i L15
    have hl915 := hl914.trans hl15
    refine DD.act 16 rfl rfl rfl rfl rfl (Ef.call rfl ((rRightX_sp sk pk k1 j1 k3 j3 wk lk L15 (hsk.le hl915) hskm (hhk.le hl915) (hhj.le hl915) (by omega) (by omega)))) ((by rintro _ _ _ ⟨_, rfl, rfl, rfl, hl⟩; exact ⟨hl15.trans hl, rfl, .inl rfl⟩)) ?_
    rintro _ _ _ ⟨v24, rfl, rfl, rfl, hl16⟩
    rename_i L16
    have hl1416 := hl15.trans hl16
    have hl1216 := hl1214.trans hl1416
    have hl916 := hl914.trans hl1416
    have hLl := LeftE_len hskm wk lk
    refine DD.run' [17, 18] rfl ?_
    rw [bne_self_eq_false]
    refine DD.split 151 rfl (fun c => absurd c (by decide)) (fun _ => ?_)
    refine DD.run' [19, 20, 21, 22, 23] rfl ?_
    rw [bne_self_eq_false]
    refine DD.split 156 rfl (fun c => absurd c (by decide)) (fun _ => ?_)
    refine DD.run' [24, 25, 26, 27, 28] rfl ?_
    rw [bne_self_eq_false]
    refine DD.split 161 rfl (fun c => absurd c (by decide)) (fun _ => ?_)
    refine DD.run' [29, 30] rfl ?_
    refine DD.act 31 rfl rfl rfl rfl rfl (Ef.call rfl (EqInts_sp aa ab ca cb (LeftE sk wk lk).1 (LeftE sk wk lk).1 L16 (hA.le (hl14.trans hl1416)) (hB.le hl1416) hLl hLl)) ((by rintro _ _ _ ⟨_, rfl, rfl, rfl, rfl⟩; exact ⟨hl1416, rfl, .inl rfl⟩)) ?_
    rintro _ _ _ ⟨_, rfl, rfl, rfl, rfl⟩
    rw [decide_eq_true rfl]
    refine DD.run' [32, 33, 34] rfl ?_
    refine DD.split 167 rfl (fun c => absurd c (by simp)) (fun _ => ?_)
    refine DD.run' [35, 36, 37] rfl ?_
    refine DD.vf 38 rfl rfl rfl rfl rfl (Vf.idx rfl rfl rfl rfl rfl rfl (hk3)) ?_
    refine DD.vf 39 rfl rfl rfl rfl rfl (Vf.loadN rfl rfl rfl ((hss.le hl914).whole hx rfl)) ?_
    refine DD.act 40 rfl rfl rfl rfl rfl (Ef.call rfl (EqSaws_sp sk p9 pk L16 (hst12.le hl1216) (hsk.le hl916) hskm)) ((by rintro _ _ _ ⟨_, rfl, rfl, rfl, rfl⟩; exact ⟨hl1416, rfl, .inl rfl⟩)) ?_
    rintro _ _ _ ⟨_, rfl, rfl, rfl, rfl⟩
    refine DD.run' [41, 42, 43] rfl ?_
    refine DD.split 176 rfl (fun c => absurd c (by simp)) (fun _ => ?_)
    refine DD.run' [44, 45, 46] rfl ?_
    refine DD.vf 47 rfl rfl rfl rfl rfl (Vf.idx1 rfl rfl rfl rfl rfl rfl rfl (hk3)) ?_
    refine DD.vf 48 rfl rfl rfl rfl rfl (Vf.load rfl rfl rfl ((hl914.cell hcl))) ?_
    refine DD.act 49 rfl rfl rfl rfl rfl (Ef.call rfl (EqInts_sp xa k1 xc k3 wk wk L16 (hi12.le hl1216) (hhk.le hl916) (by omega) (by omega))) ((by rintro _ _ _ ⟨_, rfl, rfl, rfl, rfl⟩; exact ⟨hl1416, rfl, .inl rfl⟩)) ?_
    rintro _ _ _ ⟨_, rfl, rfl, rfl, rfl⟩
    rw [decide_eq_true rfl]
    refine DD.run' [50, 51, 52] rfl ?_
    refine DD.split 185 rfl (fun c => absurd c (by simp)) (fun _ => ?_)
    refine DD.run' [53, 54, 55] rfl ?_
    refine DD.vf 56 rfl rfl rfl rfl rfl (Vf.idx1 rfl rfl rfl rfl rfl rfl rfl (hk3)) ?_
    refine DD.vf 57 rfl rfl rfl rfl rfl (Vf.load rfl rfl rfl ((hl914.cell hcj))) ?_
    refine DD.act 58 rfl rfl rfl rfl rfl (Ef.call rfl (EqInts_sp za j1 zc j3 lk lk L16 (hz12.le hl1216) (hhj.le hl916) (by omega) (by omega))) ((by rintro _ _ _ ⟨_, rfl, rfl, rfl, rfl⟩; exact ⟨hl1416, rfl, .inl rfl⟩)) ?_
    rintro _ _ _ ⟨_, rfl, rfl, rfl, rfl⟩
    rw [decide_eq_true rfl]
    refine DD.run' [59, 60] rfl ?_
    refine .fin rfl ?_
    refine W.go 99 rfl ?_
    refine W.split rfl rfl rfl (fun h => absurd h (by simp)) (fun _ => ?_)
    refine W.go 99 rfl ?_
    exact W.again (again _ _ _ _ (by omega) ⟨k + 1, rfl, by omega, hl9.trans hl916, rfl, rfl⟩) (by exact ⟨rfl, rfl, rfl, congrArg some (inc64 (by omega)), trivial⟩) (by exact trivial)
  · have hk3 : k = 5 := by simp at e3; omega
    refine W.eff rfl rfl rfl (Ef.call rfl (drd _ (hgl7.le hl9))) ?_
    rintro _ _ _ ⟨v20, rfl, rfl, rfl, hdm⟩
    refine W.go 99 rfl ?_
    exact W.retO r rfl ⟨rfl, (Dim.of_le (hL7.trans hl9)).trans hdm⟩
end Go.Mz

