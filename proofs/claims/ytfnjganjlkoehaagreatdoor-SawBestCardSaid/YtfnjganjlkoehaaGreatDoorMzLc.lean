/- Lemmas on which the claim leans. -/
import Derived.Test.YtfnjganjlkoehaaGreatDoorMzLb
set_option maxRecDepth 100000
namespace Go.Mz
open Go.Conc Go.Proofs
variable {Post : Value → World → Prop} {W0 : World}
def encB (b : Bool) : List Value := [.bool b]
theorem encB_len (b : Bool) : (encB b).length = 1 := rfl
theorem encB_sg (b : Bool) : ∀ u ∈ encB b, single u = true := fun u hu => by cases List.mem_singleton.1 hu; rfl
def fstP (s : Sw) (P : List (List Nat)) (j : Nat) : Option Cr := firstBy (ltB s) ((P.take j).filterMap (crushW s))
theorem fstP_no {s : Sw} {P : List (List Nat)} {j : Nat} {w : List Nat} (h : P[j]? = some w) (hc : crushW s w = none) : fstP s P (j + 1) = fstP s P j := by
 obtain ⟨hj, rfl⟩ := List.getElem?_eq_some_iff.1 h
 unfold fstP
 rw [List.take_succ_eq_append_getElem hj, List.filterMap_append]
 simp [hc]
theorem fstP_yes {s : Sw} {P : List (List Nat)} {j : Nat} {w : List Nat} {c : Cr} (h : P[j]? = some w) (hc : crushW s w = some c) : fstP s P (j + 1) = takeBy (ltB s) (fstP s P j) c := by
 obtain ⟨hj, rfl⟩ := List.getElem?_eq_some_iff.1 h
 unfold fstP
 rw [List.take_succ_eq_append_getElem hj, List.filterMap_append, show List.filterMap (crushW s) [P[j]] = [c] by simp [hc], firstBy_snoc]
theorem ltB_p {s : Sw} {a b : Cr} (h : payW s b.w < payW s a.w) : ltB s a b = true := by
 unfold ltB; rw [if_pos (.inl (by omega)), decide_eq_true h]; rfl
theorem ltB_c {s : Sw} {a b : Cr} (h : payW s a.w = payW s b.w) (hc : a.c < b.c) : ltB s a b = true := by
 unfold ltB; rw [if_pos (.inr (by omega)), decide_eq_true h, decide_eq_true hc]; simp
theorem ltB_e {s : Sw} {a b : Cr} (h : payW s a.w = payW s b.w) (hc : a.c = b.c) : ltB s a b = ltL a.w b.w := by
  unfold ltB; rw [if_neg (by rintro (e | e); · exact e h
                             · exact e hc)]
theorem ltB_n2 {s : Sw} {a b : Cr} (h : payW s a.w = payW s b.w) (h1 : ¬ a.c < b.c) (hc : a.c ≠ b.c) : ¬ ltB s a b = true := by
 unfold ltB; rw [if_pos (.inr hc), decide_eq_false (by omega), decide_eq_false h1]; simp
theorem ltB_n1 {s : Sw} {a b : Cr} (h1 : ¬ payW s b.w < payW s a.w) (h : payW s a.w ≠ payW s b.w) : ¬ ltB s a b = true := by
 unfold ltB; rw [if_pos (.inl h), decide_eq_false h1, decide_eq_false h]; simp
def BstY (s : Sw) (P : List (List Nat)) (o : Option Cr) (b m c : Int) : Prop := match o with
 | none => b = -1 ∧ m = 0 ∧ c = 0
 | some x => ∃ i : Nat, b = i ∧ P[i]? = some x.w ∧ m = payW s x.w ∧ c = x.c
theorem canP_succ {s : Sw} {P : List (List Nat)} {j : Nat} {w : List Nat} (h : P[j]? = some w) : (P.take (j + 1)).map (srvB s) = (P.take j).map (srvB s) ++ [srvB s w] := by
 obtain ⟨hj, rfl⟩ := List.getElem?_eq_some_iff.1 h
 rw [List.take_succ_eq_append_getElem hj, List.map_append]; rfl
def topJ (s : Sw) (P : List (List Nat)) (M : Int) (j : Nat) : List (List Nat) := (P.take j).filter fun w => srvB s w && payW s w == M
theorem topJ_succ {s : Sw} {P : List (List Nat)} {M : Int} {j : Nat} {w : List Nat} (h : P[j]? = some w) : topJ s P M (j + 1) = topJ s P M j ++ if (srvB s w && payW s w == M) = true then [w] else [] := by
 obtain ⟨hj, rfl⟩ := List.getElem?_eq_some_iff.1 h
 unfold topJ
 rw [List.take_succ_eq_append_getElem hj, List.filter_append]
 congr 1
 rw [List.filter_cons, List.filter_nil]
def exJ (s : Sw) (P : List (List Nat)) (k j : Nat) : List (List Nat) := (P.take j).filter fun w => srvB s w && !w.contains k
theorem exJ_succ {s : Sw} {P : List (List Nat)} {k j : Nat} {w : List Nat} (h : P[j]? = some w) : exJ s P k (j + 1) = exJ s P k j ++ if (srvB s w && !w.contains k) = true then [w] else [] := by
 obtain ⟨hj, rfl⟩ := List.getElem?_eq_some_iff.1 h
 unfold exJ
 rw [List.take_succ_eq_append_getElem hj, List.filter_append]
 congr 1
 rw [List.filter_cons, List.filter_nil]
theorem BbF_run (na : Option Addr) (nc : Nat) (nums : List Int) (L : LH) (hn : IntsAt L na nums) (hgl : GlOk L) (hl2 : nums.length ≤ 140737488355328)
  (hQ : ∀ v L' w, (v = .bool true ∧ Dim L L') → Sub L' w → Same W0 w → Post v w) :
  FGo Tryz.prog Post W0 (G (Frame.enter Tryz.prog 17 [.slice na nums.length nc].toArray .normal) []) L := by
 refine root_enter (n := 243) (s := 2) Tryz.func17 rfl rfl (by kernel_rfl) rfl rfl hQ fun C hX _ hL0 r => ?_
 have drd : ∀ L2, GlOk L2 → Sp C.X 21 [] L2 (fun v L' => v = .bool true ∧ Dim L2 L') := fun L2 h => by rw [hX]; exact cut_sp L2 h
 refine W.go 99 rfl ?_
 refine W.eff rfl rfl rfl (Ef.call rfl (NewHat_sp na nc nums L hn)) ?_
 rintro _ _ _ ⟨_, rfl, rfl, b, rfl, hb, hle1, hh1⟩
 refine W.go 99 rfl ?_
 rename_i L1
 have hb1 := le_but hb hle1
 refine W.eff rfl rfl rfl (Ef.call rfl (SawOf_sp b na nc nums 0 2 4 L1 hh1 (by omega) hl2 (by omega) (by omega) (by omega))) ?_
 rintro _ _ _ ⟨_, rfl, rfl, s, p, m, rfl, ho, hm, hle2, hh2, hsw⟩
 refine W.go 99 rfl ?_
 rename_i L2
 have hok := sawE_0 ho.e
 have hL2 : Le L L2 := hb1.trans ((but_but hle2).trans (but_le _ _))
 have hw5 := hok.w5
 have hsw := hsw.le (but_le _ _)
 have hbs := Best_sp (Post := Post) (W0 := W0) s p L2 hsw hok.sm
 have hBE : BestE s = (crWants (bestW s fun _ => true), payW s (crWants (bestW s fun _ => true)), 0) := by unfold BestE; rw [if_neg (by simp [ho.e])]
 rw [← hX, hBE] at hbs
 refine W.eff rfl rfl rfl (Ef.call rfl (hbs)) ?_
 rintro _ _ _ ⟨_, rfl, rfl, ga, gc, rfl, hgi, hd3⟩
 refine W.go 99 rfl ?_
 rename_i L3
 dsimp only at hgi ⊢
 have hdL3 := (Dim.of_le hL2).trans hd3
 have hsw3 := hd3.sw hsw
 refine W.eff rfl rfl rfl (Ef.call rfl (subsets_sp s.wants.length L3 hw5)) ?_
 rintro _ _ _ ⟨_, rfl, rfl, pa, pc, rfl, hl34, hrows⟩
 refine W.go 99 rfl ?_
 rename_i L4
 rw [List.length_map]
 have hM : ∀ w, w ∈ subsW s.wants.length ↔ w ∈ picksW s.wants.length s.wants.length := fun w => subs_mem hw5
 have hP32 := subs_len hw5
 have hmw : ∀ w ∈ subsW s.wants.length, Asc w ∧ WnOk s w ∧ w.length ≤ 5 := fun w hw => by
  obtain ⟨h1, h2⟩ := picks_wn ((hM w).1 hw)
  exact ⟨h1, h2, picks_5 hok ((hM w).1 hw)⟩
 generalize subsW s.wants.length = P at *
 have hsw4 := hsw3.le hl34
 refine W.loop (fun m E B L' => ∃ (j : Nat) (cv : Value) (bx mx cx : Int), m = P.length - j ∧ j ≤ P.length ∧ Grow L4 1 4 encB L' cv ((P.take j).map (srvB s)) ∧ BstY s P (fstP s P j) bx mx cx ∧
   E = [(3, .p 0 0), (4, .v (.slice ga (crWants (bestW s fun _ => true)).length gc)), (5, .v (.int .i64 (payW s (crWants (bestW s fun _ => true))))), (6, .v (.int .i64 0)), (7, .v (.slice pa P.length pc)), (8, .v (.int .i64 bx)), (9, .v (.int .i64 mx)), (10, .v (.int .i64 cx)), (11, .v cv), (12, .v (.int .i64 j))] ∧ B = [some ⟨cellsS (.v (swA s p)), 26⟩])
  ⟨0, _, -1, 0, 0, rfl, by omega, Grow.nil (Le.refl _), ⟨rfl, rfl, rfl⟩, rfl, rfl⟩ (by exact ⟨rfl, rfl, rfl, rfl, rfl, rfl, rfl, rfl, rfl, rfl, trivial⟩) (by exact ⟨rfl, trivial⟩) ?_
 rintro _ _ _ L5 ⟨j, cv, bx, mx, cx, rfl, hj, hg, hbx, rfl, rfl⟩ again
 have hl45 := hg.1
 refine W.go 99 rfl ?_
 refine W.split rfl rfl rfl (fun e1 => W.go 99 rfl ?_) (fun e1 => W.go 99 rfl ?_)
 ·have hjl : j < P.length := by simpa using e1
  obtain ⟨w, hw⟩ : ∃ w, P[j]? = some w := ⟨_, List.getElem?_eq_getElem hjl⟩
  obtain ⟨hwa, hwn, hw5'⟩ := hmw w (List.mem_of_getElem? hw)
  have hwm : (P.map natI)[j]? = some (natI w) := by rw [List.getElem?_map, hw]; rfl
  obtain ⟨pa', rfl⟩ := hrows.addr (i := j) (by simpa using hjl)
  obtain ⟨xa, xc, hxc, hxs, _⟩ := hrows.row hwm
  rw [natI_len] at hxc
  have hcx := Crush_sp (X := C.X) s p xa xc (natI w) L5 (hsw4.le hl45) hok.sm (hxs.le hl45) (by rw [natI_len]; omega)
  rw [CrushE_natI ho.e hwa hwn, natI_len] at hcx
  refine W.drawn (by kernel_rfl) L5 (Le.refl _) ?_
  refine DD.run' [0, 1, 2] rfl ?_
  refine DD.vf 3 rfl rfl rfl rfl rfl (Vf.idx1 rfl rfl rfl rfl rfl rfl rfl (hjl)) ?_
  refine DD.vf 4 rfl rfl rfl rfl rfl (Vf.load rfl rfl rfl (hl45.cell hxc)) ?_
  refine DD.act 5 rfl rfl rfl rfl rfl (Ef.call rfl (hcx)) ((by rintro _ _ _ ⟨_, rfl, rfl, _, _, rfl, _, hl⟩; exact ⟨hl, rfl, .inl rfl⟩)) ?_
  rintro _ _ _ ⟨v7, rfl, rfl, ca, cc, rfl, hci, hl56⟩
  rename_i L6
  have hg6 := hg.le hl56
  have hl46 := hg6.1
  have hcs := canP_succ (s := s) hw
  have hcl : ((P.take j).map (srvB s)).length ≤ 32 := by rw [List.length_map, List.length_take]; omega
  obtain ⟨va, vc, rfl, _⟩ := hg6.slice
  cases hc : crushW s w with
  | none =>
   rw [show crushE s w = ([], 0, 11) by unfold crushE; rw [hc]]
   have hsv : srvB s w = false := by unfold srvB; rw [hc]; rfl
   rw [hsv] at hcs
   have hfn := fstP_no hw hc
   refine DD.run' [6, 7, 8, 9, 10, 11, 12] rfl ?_
   refine .fin rfl ?_
   refine W.go 99 rfl ?_
   refine W.asLit 59 (p := true) rfl rfl ?_
   refine W.go 99 rfl ?_
   refine W.split rfl rfl rfl (fun c => absurd c (by decide)) (fun c => ?_)
   refine W.go 99 rfl ?_
   refine W.eff rfl rfl rfl (Ef.grow rfl rfl rfl rfl rfl rfl rfl rfl rfl encB_len encB_sg hg6 (ls := [false]) (.own rfl rfl rfl rfl) (by simp only [List.length_cons, List.length_nil]; omega)) ?_
   rintro _ _ _ ⟨v8, rfl, rfl, hg7, -⟩
   rename_i L7
   rw [← hcs] at hg7
   have hl47 := hg7.1
   refine W.go 99 rfl ?_
   refine W.drawn (by kernel_rfl) _ (Le.refl _) ?_
   refine DD.run' [0, 1, 2] rfl ?_
   refine DD.vf 3 rfl rfl rfl rfl rfl (Vf.idx1 rfl rfl rfl rfl rfl rfl rfl (hjl)) ?_
   refine DD.vf 4 rfl rfl rfl rfl rfl (Vf.load rfl rfl rfl (hl47.cell hxc)) ?_
   refine DD.act 5 rfl rfl rfl rfl rfl (Ef.call rfl (lPays_sp s p xa xc w L7 (hsw4.le hl47) hok (hxs.le hl47) hwn (by omega))) (by rintro _ _ _ ⟨_, rfl, rfl, rfl, rfl⟩; exact ⟨Le.refl _, rfl, .inl rfl⟩) ?_
   rintro _ _ _ ⟨_, rfl, rfl, rfl, rfl⟩
   refine DD.run' [6] rfl ?_
   refine .fin rfl ?_
   refine W.go 99 rfl ?_
   refine W.drawn (by kernel_rfl) _ (Le.refl _) ?_
   refine DD.run' [0, 1, 2] rfl ?_
   refine DD.split 76 rfl (fun c => absurd c (by decide)) (fun _ => ?_)
   refine DD.run' [3, 4, 5, 6, 7, 8, 9, 10, 11, 12, 13, 14, 15, 16, 17, 18, 19, 20, 21, 22, 23, 24, 25, 26, 27, 28, 29, 30, 31, 32, 33, 34, 35, 36] rfl ?_
   refine .fin rfl ?_
   refine W.go 99 rfl ?_
   exact W.again (again _ _ _ _ (by omega) ⟨j + 1, _, _, _, _, rfl, by omega, hg7, by rw [hfn]; exact hbx, rfl, rfl⟩) (by exact ⟨rfl, rfl, rfl, rfl, rfl, rfl, rfl, rfl, rfl, congrArg some (inc64 (by omega)), trivial⟩) (by exact ⟨rfl, trivial⟩)
  | some c =>
   rw [show crushE s w = (c.l, c.c, 0) by unfold crushE; rw [hc]]
   have hsv : srvB s w = true := by unfold srvB; rw [hc]; rfl
   rw [hsv] at hcs
   have hfn := fstP_yes hw hc
   have hcw := (crushW_some hc).1
   refine DD.run' [6, 7, 8, 9, 10, 11, 12] rfl ?_
   refine .fin rfl ?_
   refine W.go 99 rfl ?_
   refine W.asLit 59 (p := false) rfl rfl ?_
   refine W.go 99 rfl ?_
   refine W.eff rfl rfl rfl (Ef.grow rfl rfl rfl rfl rfl rfl rfl rfl rfl encB_len encB_sg hg6 (ls := [true]) (.own rfl rfl rfl rfl) (by simp only [List.length_cons, List.length_nil]; omega)) ?_
   rintro _ _ _ ⟨v8, rfl, rfl, hg7, -⟩
   rename_i L7
   rw [← hcs] at hg7
   have hl47 := hg7.1
   refine W.go 99 rfl ?_
   refine W.drawn (by kernel_rfl) _ (Le.refl _) ?_
   refine DD.run' [0, 1, 2] rfl ?_
   refine DD.vf 3 rfl rfl rfl rfl rfl (Vf.idx1 rfl rfl rfl rfl rfl rfl rfl (hjl)) ?_
   refine DD.vf 4 rfl rfl rfl rfl rfl (Vf.load rfl rfl rfl (hl47.cell hxc)) ?_
   refine DD.act 5 rfl rfl rfl rfl rfl (Ef.call rfl (lPays_sp s p xa xc w L7 (hsw4.le hl47) hok (hxs.le hl47) hwn (by omega))) (by rintro _ _ _ ⟨_, rfl, rfl, rfl, rfl⟩; exact ⟨Le.refl _, rfl, .inl rfl⟩) ?_
   rintro _ _ _ ⟨_, rfl, rfl, rfl, rfl⟩
   refine DD.run' [6] rfl ?_
   refine .fin rfl ?_
   refine W.go 99 rfl ?_
   refine W.drawn (by kernel_rfl) _ (Le.refl _) ?_
   refine DD.run' [0, 1, 2] rfl ?_
   refine DD.split 76 rfl (fun _ => ?_) (fun c => absurd c (by simp))
   cases hd : fstP s P j with
   | none =>
    rw [hd] at hbx hfn
    obtain ⟨rfl, rfl, rfl⟩ := hbx
    refine DD.run' [3, 4, 5] rfl ?_
    refine DD.split 79 rfl (fun _ => ?_) (fun c => absurd c (by simp))
    refine DD.run' [6, 7, 8, 9, 10, 11, 12, 13, 14, 15, 16, 17, 18, 19, 20, 21, 22, 23, 24, 25, 26, 27, 28, 29, 30, 31, 32, 33, 34, 35, 36] rfl ?_
    refine .fin rfl ?_
    refine W.go 99 rfl ?_
    exact W.again (again _ _ _ _ (by omega) ⟨j + 1, _, _, _, _, rfl, by omega, hg7, by rw [hfn]; exact ⟨j, rfl, by rw [hcw]; exact hw, by rw [hcw], rfl⟩, rfl, rfl⟩) (by exact ⟨rfl, rfl, rfl, rfl, rfl, rfl, rfl, rfl, rfl, congrArg some (inc64 (by omega)), trivial⟩) (by exact ⟨rfl, trivial⟩)
   | some d =>
    rw [hd] at hbx hfn
    obtain ⟨i, rfl, hPi, rfl, rfl⟩ := hbx
    refine DD.run' [3, 4, 5] rfl ?_
    refine DD.split 79 rfl (fun c => absurd c (by simp)) (fun _ => ?_)
    refine DD.run' [6, 7, 8, 9, 10] rfl ?_
    refine DD.split 84 rfl (fun q1 => ?_) (fun q1 => ?_)
    ·have q1' : payW s d.w < payW s c.w := by rw [hcw]; simpa using q1
     refine DD.run' [11, 12, 13, 14, 15, 16, 17, 18, 19, 20, 21, 22, 23, 24, 25, 26, 27, 28, 29, 30, 31, 32, 33, 34, 35, 36] rfl ?_
     refine .fin rfl ?_
     refine W.go 99 rfl ?_
     exact W.again (again _ _ _ _ (by omega) ⟨j + 1, _, _, _, _, rfl, by omega, hg7, by rw [hfn, show takeBy (ltB s) (some d) c = some c from if_pos (ltB_p q1')]; exact ⟨j, rfl, by rw [hcw]; exact hw, by rw [hcw], rfl⟩, rfl, rfl⟩) (by exact ⟨rfl, rfl, rfl, rfl, rfl, rfl, rfl, rfl, rfl, congrArg some (inc64 (by omega)), trivial⟩) (by exact ⟨rfl, trivial⟩)
    ·have q1' : ¬ payW s d.w < payW s c.w := by rw [hcw]; simpa using q1
     refine DD.run' [11, 12, 13, 14] rfl ?_
     refine DD.split 88 rfl (fun q2 => ?_) (fun q2 => ?_)
     ·have q2' : payW s c.w = payW s d.w := by rw [hcw]; simpa using q2
      refine DD.run' [15, 16, 17, 18] rfl ?_
      refine DD.split 92 rfl (fun q3 => ?_) (fun q3 => ?_)
      ·have q3' : c.c < d.c := by simpa using q3
       refine DD.run' [19, 20, 21, 22, 23, 24, 25, 26, 27, 28, 29, 30, 31, 32, 33, 34, 35, 36] rfl ?_
       refine .fin rfl ?_
       refine W.go 99 rfl ?_
       exact W.again (again _ _ _ _ (by omega) ⟨j + 1, _, _, _, _, rfl, by omega, hg7, by rw [hfn, show takeBy (ltB s) (some d) c = some c from if_pos (ltB_c q2' q3')]; exact ⟨j, rfl, by rw [hcw]; exact hw, by rw [hcw], rfl⟩, rfl, rfl⟩) (by exact ⟨rfl, rfl, rfl, rfl, rfl, rfl, rfl, rfl, rfl, congrArg some (inc64 (by omega)), trivial⟩) (by exact ⟨rfl, trivial⟩)
      ·have q3' : ¬ c.c < d.c := by simpa using q3
       refine DD.run' [19, 20, 21, 22] rfl ?_
       refine DD.split 96 rfl (fun q4 => ?_) (fun q4 => ?_)
       ·have q4' : c.c = d.c := by simpa using q4
        have hil : i < P.length := (List.getElem?_eq_some_iff.1 hPi).1
        have hwm2 : (P.map natI)[i]? = some (natI d.w) := by rw [List.getElem?_map, hPi]; rfl
        obtain ⟨ya, yc, hyc, hys, _⟩ := hrows.row hwm2
        rw [natI_len] at hyc
        have hd5 := (hmw d.w (List.mem_of_getElem? hPi)).2.2
        have hbf := Before_sp (X := C.X) xa ya xc yc w d.w L7 (hxs.le hl47) (hys.le hl47) (by omega) (by omega)
        refine DD.run' [23, 24, 27, 28] rfl ?_
        refine DD.vf 25 rfl rfl rfl rfl rfl (Vf.idx1 rfl rfl rfl rfl rfl rfl rfl (hjl)) ?_
        refine DD.vf 26 rfl rfl rfl rfl rfl (Vf.load rfl rfl rfl (hl47.cell hxc)) ?_
        refine DD.vf 29 rfl rfl rfl rfl rfl (Vf.idx1 rfl rfl rfl rfl rfl rfl rfl (hil)) ?_
        refine DD.vf 30 rfl rfl rfl rfl rfl (Vf.load rfl rfl rfl (hl47.cell hyc)) ?_
        refine DD.act 31 rfl rfl rfl rfl rfl (Ef.call rfl (hbf)) (by rintro _ _ _ ⟨_, rfl, rfl, rfl, rfl⟩; exact ⟨Le.refl _, rfl, .inl rfl⟩) ?_
        rintro _ _ _ ⟨_, rfl, rfl, rfl, rfl⟩
        refine DD.run' [32, 33, 34, 35, 36] rfl ?_
        refine .fin rfl ?_
        refine W.go 99 rfl ?_
        refine W.split rfl rfl rfl (fun q5 => W.go 99 rfl ?_) (fun q5 => W.go 99 rfl ?_)
        ·have q5' : ltL c.w d.w = true := by rw [hcw]; exact q5
         exact W.again (again _ _ _ _ (by omega) ⟨j + 1, _, _, _, _, rfl, by omega, hg7, by rw [hfn, show takeBy (ltB s) (some d) c = some c from if_pos (by rw [ltB_e q2' q4']; exact q5')]; exact ⟨j, rfl, by rw [hcw]; exact hw, by rw [hcw], rfl⟩, rfl, rfl⟩) (by exact ⟨rfl, rfl, rfl, rfl, rfl, rfl, rfl, rfl, rfl, congrArg some (inc64 (by omega)), trivial⟩) (by exact ⟨rfl, trivial⟩)
        ·have q5' : ltL c.w d.w = false := by rw [hcw]; exact q5
         exact W.again (again _ _ _ _ (by omega) ⟨j + 1, _, _, _, _, rfl, by omega, hg7, by rw [hfn, show takeBy (ltB s) (some d) c = some d from if_neg (by rw [ltB_e q2' q4', q5']; decide)]; exact ⟨i, rfl, hPi, rfl, rfl⟩, rfl, rfl⟩) (by exact ⟨rfl, rfl, rfl, rfl, rfl, rfl, rfl, rfl, rfl, congrArg some (inc64 (by omega)), trivial⟩) (by exact ⟨rfl, trivial⟩)
       ·have q4' : c.c ≠ d.c := by simpa using q4
        refine DD.run' [23, 24, 25, 26, 27, 28, 29, 30, 31, 32, 33, 34, 35, 36] rfl ?_
        refine .fin rfl ?_
        refine W.go 99 rfl ?_
        exact W.again (again _ _ _ _ (by omega) ⟨j + 1, _, _, _, _, rfl, by omega, hg7, by rw [hfn, show takeBy (ltB s) (some d) c = some d from if_neg (ltB_n2 q2' q3' q4')]; exact ⟨i, rfl, hPi, rfl, rfl⟩, rfl, rfl⟩) (by exact ⟨rfl, rfl, rfl, rfl, rfl, rfl, rfl, rfl, rfl, congrArg some (inc64 (by omega)), trivial⟩) (by exact ⟨rfl, trivial⟩)
     ·have q2' : payW s c.w ≠ payW s d.w := by rw [hcw]; simpa using q2
      refine DD.run' [15, 16, 17, 18, 19, 20, 21, 22, 23, 24, 25, 26, 27, 28, 29, 30, 31, 32, 33, 34, 35, 36] rfl ?_
      refine .fin rfl ?_
      refine W.go 99 rfl ?_
      exact W.again (again _ _ _ _ (by omega) ⟨j + 1, _, _, _, _, rfl, by omega, hg7, by rw [hfn, show takeBy (ltB s) (some d) c = some d from if_neg (ltB_n1 q1' q2')]; exact ⟨i, rfl, hPi, rfl, rfl⟩, rfl, rfl⟩) (by exact ⟨rfl, rfl, rfl, rfl, rfl, rfl, rfl, rfl, rfl, congrArg some (inc64 (by omega)), trivial⟩) (by exact ⟨rfl, trivial⟩)
 ·have hje : j = P.length := by simp at e1; omega
  subst hje
  clear again
  obtain ⟨c, hfc⟩ : ∃ c, fstP s P P.length = some c := by
   obtain ⟨c0, hc0⟩ := crush_nil hok
   exact firstBy_some (List.ne_nil_of_mem (a := c0) (by rw [List.take_length]; exact List.mem_filterMap.2 ⟨[], (hM []).2 (nil_picks _ _), hc0⟩))
  rw [hfc] at hbx
  obtain ⟨i, rfl, hPi, rfl, rfl⟩ := hbx
  have hbw : bestW s (fun _ => true) = some c := best_in hok hM (by unfold fstP at hfc; rw [List.take_length] at hfc; exact hfc)
  have hcb : crWants (bestW s fun _ => true) = c.w := by rw [hbw]; rfl
  have hil : i < P.length := (List.getElem?_eq_some_iff.1 hPi).1
  have hwm2 : (P.map natI)[i]? = some (natI c.w) := by rw [List.getElem?_map, hPi]; rfl
  obtain ⟨pa', rfl⟩ := hrows.addr (i := i) (by simpa using hil)
  obtain ⟨ya, yc, hyc, hys, _⟩ := hrows.row hwm2
  rw [natI_len] at hyc
  have hc5 := (hmw c.w (List.mem_of_getElem? hPi)).2.2
  have hve := fun k => verd_eq hok hM k
  have hwe := fun k => worth_eq hok hM k
  have hwp := fun k => worth_pos hok hM k
  have hba := best_all hok hM
  have htop : topL s P = P.filter fun w => srvB s w && payW s w == payW s c.w := by unfold topL; rw [hcb]
  rw [htop] at hve hwp
  rw [hcb] at hgi hba ⊢
  clear hbw hfc
  generalize c.w = bw at *
  rw [← hba] at hwe
  rw [List.take_length] at hg
  obtain ⟨va, vc, rfl, _⟩ := hg.slice
  have hcan := (hg.at encB_len).2
  obtain ⟨va, rfl⟩ := hcan.addr (i := i) (by rw [List.length_map]; exact hil)
  refine W.go 99 rfl ?_
  refine W.asLit 116 (p := false) rfl (by show some (decide ((i : Int) < 0)) = some false; simp) ?_
  refine W.go 99 rfl ?_
  refine W.asLit 120 (p := false) rfl rfl ?_
  refine W.go 99 rfl ?_
  rw [bne_self_eq_false]
  refine W.asLit 125 (p := false) rfl rfl ?_
  refine W.go 99 rfl ?_
  refine W.vf rfl rfl rfl rfl (Vf.idx1 rfl rfl rfl rfl rfl rfl rfl (hil)) ?_
  refine W.go 99 rfl ?_
  refine W.vf rfl rfl rfl rfl (Vf.load rfl rfl rfl (hl45.cell hyc)) ?_
  refine W.go 99 rfl ?_
  have hei := EqInts_sp (X := C.X) ga ya gc yc (natI bw) (natI bw) L5 (hgi.le (hl34.trans hl45)) (hys.le hl45) (by rw [natI_len]; omega) (by rw [natI_len]; omega)
  rw [decide_eq_true rfl, natI_len] at hei
  refine W.eff rfl rfl rfl (Ef.call rfl (hei)) ?_
  rintro _ _ _ ⟨_, rfl, rfl, rfl, rfl⟩
  refine W.go 99 rfl ?_
  refine W.split rfl rfl rfl (fun c => absurd c (by decide)) (fun c => ?_)
  refine W.go 99 rfl ?_
  have hsw5 := hsw4.le hl45
  have hrows5 := hrows.le hl45
  have hdL5 := hdL3.trans (Dim.of_le (hl34.trans hl45))
  rw [List.length_map]
  generalize hMd : payW s bw = M at *
  have hMb : 0 ≤ M ∧ M ≤ 1000 := by have := pay_bd hok bw; omega
  refine W.loop (fun m E B L' => ∃ (k : Nat), m = s.wants.length - k ∧ k ≤ s.wants.length ∧ Dim L5 L' ∧
    E = [(3, .p 0 0), (7, .v (.slice (some pa') P.length pc)), (9, .v (.int .i64 M)), (11, .v (.slice (some va) P.length vc)), (17, .v (.int .i64 k))] ∧ B = [some ⟨cellsS (.v (swA s p)), 26⟩])
   ⟨0, rfl, by omega, Dim.refl _, rfl, rfl⟩ (by exact ⟨rfl, rfl, rfl, rfl, rfl, trivial⟩) (by exact ⟨rfl, trivial⟩) ?_
  rintro _ _ _ L6 ⟨k, rfl, hk, hd56, rfl, rfl⟩ again
  have hsw6 := hd56.sw hsw5
  have hrows6 := hd56.rows hrows5
  have hcan6 := hd56.sl hcan
  refine W.go 99 rfl ?_
  refine W.split rfl rfl rfl (fun e2 => W.go 99 rfl ?_) (fun e2 => W.go 99 rfl ?_)
  ·have hkl : k < s.wants.length := by simpa using e2
   have hvk := hve k
   have hwk := hwe k
   have hpk := hwp k
   refine W.go 99 rfl ?_
   refine W.loop (fun m E B L' => ∃ (j : Nat) (b1 b2 : Bool), m = P.length - j ∧ j ≤ P.length ∧ L6 = L' ∧ (topJ s P M j).any (·.contains k) = b1 ∧ (topJ s P M j).all (·.contains k) = b2 ∧
     E = [(3, .p 0 0), (7, .v (.slice (some pa') P.length pc)), (9, .v (.int .i64 M)), (11, .v (.slice (some va) P.length vc)), (17, .v (.int .i64 k)), (18, .lit b1), (19, .lit b2), (20, .v (.int .i64 (mostW s (exJ s P k j)))), (21, .v (.int .i64 j))] ∧ B = [some ⟨cellsS (.v (swA s p)), 26⟩])
    ⟨0, false, true, rfl, by omega, rfl, rfl, rfl, rfl, rfl⟩ (by exact ⟨rfl, rfl, rfl, rfl, rfl, rfl, rfl, rfl, rfl, trivial⟩) (by exact ⟨rfl, trivial⟩) ?_
   rintro _ _ _ _ ⟨j, b1, b2, rfl, hj, rfl, hb1', hb2', rfl, rfl⟩ again2
   refine W.go 99 rfl ?_
   refine W.split rfl rfl rfl (fun e3 => ?_) (fun e3 => ?_)
   ·have hjl : j < P.length := by simpa using e3
    obtain ⟨w, hw⟩ : ∃ w, P[j]? = some w := ⟨_, List.getElem?_eq_getElem hjl⟩
    obtain ⟨hwa, hwn, hw5'⟩ := hmw w (List.mem_of_getElem? hw)
    have hwm : (P.map natI)[j]? = some (natI w) := by rw [List.getElem?_map, hw]; rfl
    obtain ⟨xa, xc, hxc, hxs, _⟩ := hrows6.row hwm
    rw [natI_len] at hxc
    have hcb6 : L6.cell? (va.add j) = some (.bool (srvB s w)) := by
     have := hcan6.get (i := j) (x := srvB s w) (by rw [List.getElem?_map, hw]; rfl) (j := 0) (v := .bool (srvB s w)) rfl
     simpa using this
    have htj := topJ_succ (s := s) (M := M) hw
    have hej := exJ_succ (s := s) (k := k) hw
    have hmb := most_bd hok (exJ s P k j) (fun v hv => by obtain ⟨_, h1, h2⟩ := hmw v (List.mem_of_mem_take (List.mem_filter.1 hv).1); exact ⟨h1, h2⟩)
    have hpb := pay_bd hok w
    have hfd : decide (0 ≤ findI (natI w) k) = w.contains k := by
     have := findI_lt w k
     rw [show decide (0 ≤ findI (natI w) k) = !decide (findI (natI w) k < 0) by by_cases h : findI (natI w) k < 0 <;> simp [h] <;> omega, this, Bool.not_not]
    have hff := Find_sp (X := C.X) xa xc (natI w) k L6 hxs (by rw [natI_len]; omega)
    rw [natI_len] at hff
    refine W.go 99 rfl ?_
    refine W.vf rfl rfl rfl rfl (Vf.idx1 rfl rfl rfl rfl rfl rfl rfl (hjl)) ?_
    refine W.go 99 rfl ?_
    refine W.vf rfl rfl rfl rfl (Vf.load rfl rfl rfl (hxc)) ?_
    refine W.go 99 rfl ?_
    refine W.eff rfl rfl rfl (Ef.call rfl (hff)) ?_
    rintro _ _ _ ⟨_, rfl, rfl, rfl, rfl⟩
    refine W.go 99 rfl ?_
    rw [hfd]
    generalize hbi : w.contains k = bi at *
    refine W.drawn (by kernel_rfl) _ (Le.refl _) ?_
    refine DD.run' [0, 1] rfl ?_
    refine DD.vf 2 rfl rfl rfl rfl rfl (Vf.idx1 rfl rfl rfl rfl rfl rfl rfl (hjl)) ?_
    refine DD.vf 3 rfl rfl rfl rfl rfl (Vf.load rfl rfl rfl (hcb6)) ?_
    refine DD.run' [4] rfl ?_
    refine DD.split 158 rfl (fun hs => ?_) (fun hs => ?_)
    ·refine DD.run' [5, 6, 7, 11] rfl ?_
     refine DD.vf 8 rfl rfl rfl rfl rfl (Vf.idx1 rfl rfl rfl rfl rfl rfl rfl (hjl)) ?_
     refine DD.vf 9 rfl rfl rfl rfl rfl (Vf.load rfl rfl rfl (hxc)) ?_
     refine DD.act 10 rfl rfl rfl rfl rfl (Ef.call rfl (lPays_sp s p xa xc w L6 hsw6 hok hxs hwn (by omega))) (by rintro _ _ _ ⟨_, rfl, rfl, rfl, rfl⟩; exact ⟨Le.refl _, rfl, .inl rfl⟩) ?_
     rintro _ _ _ ⟨_, rfl, rfl, rfl, rfl⟩
     refine DD.run' [12, 13] rfl ?_
     refine .fin rfl ?_
     refine W.go 99 rfl ?_
     rw [hs] at htj hej
     apply W.cut (fun E B L' => L6 = L' ∧ ∃ b1' b2', (topJ s P M (j + 1)).any (·.contains k) = b1' ∧ (topJ s P M (j + 1)).all (·.contains k) = b2' ∧ SubE E [(3, .p 0 0), (7, .v (.slice (some pa') P.length pc)), (9, .v (.int .i64 M)), (11, .v (.slice (some va) P.length vc)), (17, .v (.int .i64 k)), (18, .lit b1'), (19, .lit b2'), (20, .v (.int .i64 (mostW s (exJ s P k j)))), (21, .v (.int .i64 j)), (22, .v (.bool bi)), (176, .v (.slice (some va) P.length vc)), (177, .v (.int .i64 j))] ∧ PreB B [some ⟨cellsS (.v (swA s p)), 26⟩])
     rotate_left
     ·intro rest
      refine W.split rfl rfl rfl (fun e4 => ?_) (fun e4 => ?_)
      ·have heq : payW s w = M := by simpa using e4
       have hy : topJ s P M (j + 1) = topJ s P M j ++ [w] := by rw [htj, if_pos (by rw [heq]; simp)]
       have ha : (topJ s P M (j + 1)).any (·.contains k) = (b1 || bi) := by rw [hy, List.any_append, hb1']; simp [← hbi]
       have hl : (topJ s P M (j + 1)).all (·.contains k) = (b2 && bi) := by rw [hy, List.all_append, hb2']; simp [← hbi]
       cases b1
       ·cases b2
        ·refine W.go 99 rfl ?_
         refine W.asLit 18 (p := bi) rfl rfl ?_
         exact rest _ _ _ ⟨rfl, _, _, ha, hl, by exact ⟨rfl, rfl, rfl, rfl, rfl, rfl, rfl, rfl, rfl, rfl, rfl, rfl, trivial⟩, by exact ⟨rfl, trivial⟩⟩
        ·refine W.go 99 rfl ?_
         refine W.asLit 18 (p := bi) rfl rfl ?_
         refine W.asLit 19 (p := bi) rfl rfl ?_
         exact rest _ _ _ ⟨rfl, _, _, ha, hl, by exact ⟨rfl, rfl, rfl, rfl, rfl, rfl, rfl, rfl, rfl, rfl, rfl, rfl, trivial⟩, by exact ⟨rfl, trivial⟩⟩
       ·cases b2
        ·refine W.go 99 rfl ?_
         exact rest _ _ _ ⟨rfl, _, _, ha, hl, by exact ⟨rfl, rfl, rfl, rfl, rfl, rfl, rfl, rfl, rfl, rfl, rfl, rfl, trivial⟩, by exact ⟨rfl, trivial⟩⟩
        ·refine W.go 99 rfl ?_
         refine W.asLit 19 (p := bi) rfl rfl ?_
         exact rest _ _ _ ⟨rfl, _, _, ha, hl, by exact ⟨rfl, rfl, rfl, rfl, rfl, rfl, rfl, rfl, rfl, rfl, rfl, rfl, trivial⟩, by exact ⟨rfl, trivial⟩⟩
      ·have hne : payW s w ≠ M := by simpa using e4
       have hy : topJ s P M (j + 1) = topJ s P M j := by simpa [hne] using htj
       refine W.go 99 rfl ?_
       exact rest _ _ _ ⟨rfl, b1, b2, by rw [hy]; exact hb1', by rw [hy]; exact hb2', by exact ⟨rfl, rfl, rfl, rfl, rfl, rfl, rfl, rfl, rfl, rfl, rfl, rfl, trivial⟩, by exact ⟨rfl, trivial⟩⟩
     rintro E B _ ⟨rfl, b1', b2', ha, hl, hE, hB⟩
     refine W.weak hE hB ?_
     refine W.vf rfl rfl rfl rfl (Vf.idx1 rfl rfl rfl rfl rfl rfl rfl (hjl)) ?_
     refine W.go 99 rfl ?_
     refine W.vf rfl rfl rfl rfl (Vf.load rfl rfl rfl (hcb6)) ?_
     refine W.go 99 rfl ?_
     refine W.asLit 180 (p := true) rfl (by show some (srvB s w) = some true; rw [hs]) ?_
     refine W.go 99 rfl ?_
     cases bi
     ·have hmx : (if payW s w > mostW s (exJ s P k j) then payW s w else mostW s (exJ s P k j)) = mostW s (exJ s P k (j + 1)) := by
       have e : exJ s P k (j + 1) = exJ s P k j ++ [w] := by simpa using hej
       rw [e, mostW_snoc]
       split <;> omega
      refine W.split rfl rfl rfl (fun c => ?_) (fun c => absurd c (by decide))
      refine W.go 99 rfl ?_
      refine W.drawn (by kernel_rfl) _ (Le.refl _) ?_
      refine DD.run' [0, 1, 2, 3] rfl ?_
      refine DD.vf 4 rfl rfl rfl rfl rfl (Vf.idx1 rfl rfl rfl rfl rfl rfl rfl (hjl)) ?_
      refine DD.vf 5 rfl rfl rfl rfl rfl (Vf.load rfl rfl rfl (hxc)) ?_
      refine DD.act 6 rfl rfl rfl rfl rfl (Ef.call rfl (lPays_sp s p xa xc w L6 hsw6 hok hxs hwn (by omega))) (by rintro _ _ _ ⟨_, rfl, rfl, rfl, rfl⟩; exact ⟨Le.refl _, rfl, .inl rfl⟩) ?_
      rintro _ _ _ ⟨_, rfl, rfl, rfl, rfl⟩
      refine DD.run' [7, 8] rfl ?_
      refine .fin rfl ?_
      refine W.go 99 rfl ?_
      exact W.again (again2 _ _ _ _ (by omega) ⟨j + 1, _, _, rfl, by omega, rfl, ha, hl, rfl, rfl⟩) (by exact ⟨rfl, rfl, rfl, rfl, rfl, rfl, rfl, congrArg (fun z => some (SV.v (Value.int .i64 z))) hmx, congrArg some (inc64 (by omega)), trivial⟩) (by exact ⟨rfl, trivial⟩)
     ·refine W.split rfl rfl rfl (fun c => absurd c (by decide)) (fun c => ?_)
      refine W.go 99 rfl ?_
      exact W.again (again2 _ _ _ _ (by omega) ⟨j + 1, _, _, rfl, by omega, rfl, ha, hl, rfl, rfl⟩) (by exact ⟨rfl, rfl, rfl, rfl, rfl, rfl, rfl, congrArg (fun z => some (SV.v (Value.int .i64 z))) (show mostW s (exJ s P k j) = mostW s (exJ s P k (j + 1)) by rw [hej, if_neg (by decide), List.append_nil]), congrArg some (inc64 (by omega)), trivial⟩) (by exact ⟨rfl, trivial⟩)
    ·rw [hs] at htj hej
     have hy : topJ s P M (j + 1) = topJ s P M j := by simpa using htj
     have he2 : exJ s P k (j + 1) = exJ s P k j := by simpa using hej
     refine DD.run' [5, 6, 7, 8, 9, 10, 11, 12, 13] rfl ?_
     refine .fin rfl ?_
     refine W.go 99 rfl ?_
     refine W.vf rfl rfl rfl rfl (Vf.idx1 rfl rfl rfl rfl rfl rfl rfl (hjl)) ?_
     refine W.go 99 rfl ?_
     refine W.vf rfl rfl rfl rfl (Vf.load rfl rfl rfl (hcb6)) ?_
     refine W.go 99 rfl ?_
     refine W.asLit 180 (p := false) rfl (by show some (srvB s w) = some false; rw [hs]) ?_
     refine W.go 99 rfl ?_
     exact W.again (again2 _ _ _ _ (by omega) ⟨j + 1, b1, b2, rfl, by omega, rfl, by rw [hy]; exact hb1', by rw [hy]; exact hb2', rfl, rfl⟩) (by exact ⟨rfl, rfl, rfl, rfl, rfl, rfl, rfl, congrArg (fun z => some (SV.v (Value.int .i64 z))) (congrArg (mostW s) he2.symm), congrArg some (inc64 (by omega)), trivial⟩) (by exact ⟨rfl, trivial⟩)
   ·have hje : j = P.length := by simp at e3; omega
    subst hje
    clear again2
    have hta : topJ s P M P.length = P.filter fun w => srvB s w && payW s w == M := by unfold topJ; rw [List.take_length]
    have hxa : exJ s P k P.length = P.filter fun w => srvB s w && !w.contains k := by unfold exJ; rw [List.take_length]
    rw [← hta, hb1', hb2'] at hvk
    rw [← hta, hb2'] at hpk
    rw [← hxa] at hwk
    have hmb := most_bd hok (exJ s P k P.length) (fun v hv => by obtain ⟨_, h1, h2⟩ := hmw v (List.mem_of_mem_take (List.mem_filter.1 hv).1); exact ⟨h1, h2⟩)
    have hwl := worth_le hok hkl
    apply W.cut (fun E B L' => L6 = L' ∧ SubE E [(3, .p 0 0), (7, .v (.slice (some pa') P.length pc)), (9, .v (.int .i64 M)), (11, .v (.slice (some va) P.length vc)), (17, .v (.int .i64 k)), (20, .v (.int .i64 (mostW s (exJ s P k P.length)))), (23, .v (.int .i64 (verdW s k))), (196, .a (cellsS (.v (swA s p)))), (197, .v (.int .i64 k))] ∧ PreB B [some ⟨cellsS (.v (swA s p)), 26⟩])
    rotate_left
    ·intro rest
     cases b2
     ·cases b1
      ·refine W.go 99 rfl ?_
       exact rest _ _ _ ⟨rfl, by exact ⟨rfl, rfl, rfl, rfl, rfl, rfl, congrArg (fun z => some (SV.v (Value.int .i64 z))) hvk.symm, rfl, rfl, trivial⟩, by exact ⟨rfl, trivial⟩⟩
      ·refine W.go 99 rfl ?_
       exact rest _ _ _ ⟨rfl, by exact ⟨rfl, rfl, rfl, rfl, rfl, rfl, congrArg (fun z => some (SV.v (Value.int .i64 z))) hvk.symm, rfl, rfl, trivial⟩, by exact ⟨rfl, trivial⟩⟩
     ·refine W.go 99 rfl ?_
      exact rest _ _ _ ⟨rfl, by exact ⟨rfl, rfl, rfl, rfl, rfl, rfl, congrArg (fun z => some (SV.v (Value.int .i64 z))) hvk.symm, rfl, rfl, trivial⟩, by exact ⟨rfl, trivial⟩⟩
    rintro E B _ ⟨rfl, hE, hB⟩
    refine W.weak hE hB ?_
    have hop : openW s [] [(k : Int)] = 0 := by rw [openW_n ho.e, if_pos (inB_iff.2 (by omega))]
    have hf := Verdict_sp (Post := Post) (W0 := W0) s p k L6 hsw6 hok.sm
    rw [← hX, show VerdW s k = (verdW s k, 0) by unfold VerdW; rw [if_neg (by simp [hop])]; rfl] at hf
    refine W.eff rfl rfl rfl (Ef.call rfl (hf)) ?_
    rintro _ _ _ ⟨_, rfl, rfl, rfl, hd67⟩
    refine W.go 99 rfl ?_
    rename_i L7
    have hf := Worth_sp (Post := Post) (W0 := W0) s p k L7 (hd67.sw hsw6) hok.sm
    rw [← hX, show WorthE s k = (worthW s k, 0) by unfold WorthE; rw [if_neg (by simp [hop])]; rfl] at hf
    refine W.eff rfl rfl rfl (Ef.call rfl (hf)) ?_
    rintro _ _ _ ⟨_, rfl, rfl, rfl, hd78⟩
    rename_i L8
    have hd68 := hd67.trans hd78
    have hvv : (verdW s k == 1) = b2 := by rw [hvk]; cases b2 <;> cases b1 <;> rfl
    have hww : decide (0 < worthW s k) = b2 := by
     cases b2
     ·exact decide_eq_false (mt hpk.1 (by decide))
     ·exact decide_eq_true (hpk.2 rfl)
    have hx : s.wants[k]? = some s.wants[k] := List.getElem?_eq_getElem hkl
    obtain ⟨wad, hwa⟩ := (hd68.sw hsw6).wt.addr hkl
    have hwt := (hd68.sw hsw6).wt
    rw [hwa] at hwt
    generalize s.wants[k] = x at *
    have hpy : L8.cell? ((wad.add (k * 4)).add 3) = some (.int .i64 x.pay) := by rw [add_add]; exact hwt.get hx (j := 3) rfl
    generalize verdW s k = vd at *
    generalize worthW s k = wd at *
    refine W.go 99 rfl ?_
    refine W.asLit 209 (p := false) rfl rfl ?_
    refine W.go 99 rfl ?_
    refine W.asLit 213 (p := false) rfl rfl ?_
    refine W.go 99 rfl ?_
    rw [bne_self_eq_false]
    refine W.asLit 218 (p := false) rfl rfl ?_
    refine W.go 99 rfl ?_
    rw [wrap64_in (M - _) (by omega) (by omega), ← hwk, bne_self_eq_false]
    refine W.asLit 225 (p := false) rfl rfl ?_
    refine W.go 99 rfl ?_
    refine W.asLit 232 (p := false) rfl (by show some (!(decide (0 < wd) == (vd == 1))) = some false; rw [hww, hvv]; simp) ?_
    obtain ⟨qa, qb, qc, qd, qe, qf⟩ := p
    obtain rfl : qc = some wad := hwa
    refine W.go 99 rfl ?_
    refine W.vf rfl rfl rfl rfl (Vf.idx rfl rfl rfl rfl rfl rfl (hkl)) ?_
    refine W.go 99 rfl ?_
    refine W.vf rfl rfl rfl rfl (Vf.load rfl rfl rfl (hpy)) ?_
    refine W.go 99 rfl ?_
    refine W.split rfl rfl rfl (fun h => absurd h (by rw [decide_eq_true_eq]; omega)) (fun _ => ?_)
    refine W.go 99 rfl ?_
    exact W.again (again _ _ _ _ (by omega) ⟨k + 1, rfl, by omega, hd56.trans hd68, rfl, rfl⟩) (by exact ⟨rfl, rfl, rfl, rfl, congrArg some (inc64 (by omega)), trivial⟩) (by exact ⟨rfl, trivial⟩)
  ·refine W.eff rfl rfl rfl (Ef.call rfl (drd L6 (hd56.cell (hdL5.cell hgl)))) ?_
   rintro _ _ _ ⟨_, rfl, rfl, rfl, hdm⟩
   refine W.go 99 rfl ?_
   exact W.retO r rfl ⟨rfl, (hdL5.trans hd56).trans hdm⟩
end Go.Mz

