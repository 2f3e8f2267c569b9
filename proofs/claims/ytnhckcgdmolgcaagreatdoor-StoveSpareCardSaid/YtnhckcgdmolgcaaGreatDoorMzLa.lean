/- Lemmas on which the claim leans. -/
import Derived.Test.YtnhckcgdmolgcaaGreatDoorMzAv
namespace Go.Mz
open Go
end Go.Mz


namespace Go.Mz
open Go
def onlyS (s : St) (l : List Nat) : St := { s with cones := l.filterMap fun i => s.cones[i]? }
section
variable {s : St} {hs : List Int}
end
end Go.Mz


set_option maxRecDepth 100000
namespace Go.Mz
open Go
section
variable {s : St} {hs : List Int}
theorem openE_e (h : Ok s) : openE s hs [] [] = heatsE s hs := by
 unfold openE
 rw [ok_iff.2 h]
 by_cases hh : heatsE s hs = 0
 ·rw [hh]; simp [firstE]
 ·simp [firstE, hh]
theorem openE_0 (h : Ok s) (hh : heatsE s hs = 0) : openE s hs [] [] = 0 := by rw [openE_e h, hh]
theorem openE_d (h : Ok s) (hh : heatsE s hs = 0) {d : Int} (h0 : 0 ≤ d) (h1 : d < s.days) : openE s hs [] [d] = 0 := by
 unfold openE
 rw [ok_iff.2 h, hh]
 have : inB d 0 (s.days - 1) = true := by unfold inB; simp; omega
 simp [firstE, this]
theorem allE_can (h : Ok s) (hh : heatsE s hs = 0) : (AllE s hs).2 = if canS s hs then 0 else 11 := by
 unfold AllE
 rw [if_neg (by rw [openE_0 h hh]; simp)]
 unfold allS canS
 cases plansS s hs allC true with
 | nil => rfl
 | cons x t => rfl
theorem allE_bad (h : Ok s) (hh : heatsE s hs ≠ 0) : (AllE s hs).2 = heatsE s hs := by
 unfold AllE
 rw [openE_e h, if_pos hh]
theorem heatsGo_bad {top rise : Int} : ∀ {l : List Int} {b : Int}, (∀ x ∈ l, 0 ≤ x ∧ x ≤ top) → heatsGo top rise b l = 0 ∨ heatsGo top rise b l = 12
 | [], _, _ => .inl rfl
 | x :: l, b, h => by
  have hx := h x (List.mem_cons_self ..)
  unfold heatsGo
  rw [if_neg (by simp only [Bool.not_eq_true', Bool.not_eq_false, inB_iff]; exact hx)]
  split
  ·exact .inr rfl
  ·exact heatsGo_bad fun y hy => h y (List.mem_cons_of_mem _ hy)
theorem heatsE_bad {l : List Int} (hl : (l.length : Int) = s.days) (h : ∀ x ∈ l, 0 ≤ x ∧ x ≤ s.top) : heatsE s l = 0 ∨ heatsE s l = 12 := by
 unfold heatsE
 rw [if_neg (by simp only [ne_eq, Decidable.not_not, sizedE_0]; omega)]
 exact heatsGo_bad h
theorem with_ok (hk : HOk s hs) {d : Nat} {k : Int} (h0 : 0 ≤ k) (h1 : k ≤ s.top) : ((withS hs d k).length : Int) = s.days ∧ ∀ x ∈ withS hs d k, 0 ≤ x ∧ x ≤ s.top := by
 unfold withS
 refine ⟨by rw [List.length_set]; exact hk.len, fun x hx => ?_⟩
 rcases List.mem_or_eq_of_mem_set hx with hx | rfl
 ·exact hk.r x hx
 ·exact ⟨h0, h1⟩
theorem all_ans (h : Ok s) {l : List Int} (hl : (l.length : Int) = s.days) (hr : ∀ x ∈ l, 0 ≤ x ∧ x ≤ s.top) :
  ((AllE s l).2 = 0 ∧ heatsE s l = 0 ∧ canS s l = true) ∨ ((AllE s l).2 = 11 ∧ heatsE s l = 0 ∧ canS s l = false) ∨ ((AllE s l).2 = 12 ∧ heatsE s l = 12) := by
 rcases heatsE_bad hl hr with e | e
 ·have := allE_can h e
  cases hc : canS s l with
  | true => rw [hc] at this; exact .inl ⟨this, e, rfl⟩
  | false => rw [hc] at this; exact .inr (.inl ⟨this, e, rfl⟩)
 ·have := allE_bad h (hs := l) (by rw [e]; simp)
  exact .inr (.inr ⟨this.trans e, e⟩)
theorem spare_yes (h : Ok s) (hh : heatsE s hs = 0) {d k : Nat} (hd : (d : Int) < s.days) (hk : (k : Int) ≤ s.top) (hb : spareB s hs d k = true) (hn : ∀ j, k < j → (j : Int) ≤ s.top → spareB s hs d j = false) : SpareE s hs (d : Nat) = ((k : Int), 0) := by
 unfold SpareE
 rw [if_neg (by rw [openE_d h hh (by omega) hd]; simp)]
 have : spareS s hs d = some k := by
  unfold spareS
  exact find_down _ k (by omega) hb fun j h1 h2 => hn j h1 (by omega)
 rw [Int.toNat_natCast, this]
theorem spare_no (h : Ok s) (hh : heatsE s hs = 0) {d : Nat} (hd : (d : Int) < s.days) (hn : ∀ j : Nat, (j : Int) ≤ s.top → spareB s hs d j = false) : SpareE s hs (d : Nat) = (0, 11) := by
 unfold SpareE
 rw [if_neg (by rw [openE_d h hh (by omega) hd]; simp)]
 have : spareS s hs d = none := by
  unfold spareS
  have ht := h.t0
  exact find_none _ fun j h1 => hn j (by omega)
 rw [Int.toNat_natCast, this]
end
end Go.Mz


set_option maxRecDepth 100000
namespace Go.Mz
open Go.Conc Go.Proofs
variable {Post : Value → World → Prop} {W0 : World}
theorem SsE_run (na : Option Addr) (nc : Nat) (nums : List Int) (L : LH) (hn : IntsAt L na nums) (hgl : GlOk L) (hl2 : nums.length ≤ 140737488355328)
  (hQ : ∀ v L' w, (v = .bool true ∧ Dim L L') → Sub L' w → Same W0 w → Post v w) :
  FGo Tryz.prog Post W0 (G (Frame.enter Tryz.prog 11 [.slice na nums.length nc].toArray .normal) []) L := by
 refine root_enter (n := 73) (s := 2) Tryz.func11 rfl rfl (by kernel_rfl) rfl rfl hQ fun C hX _ hL0 r => ?_
 have drd : ∀ L2, GlOk L2 → Sp C.X 21 [] L2 (fun v L' => v = .bool true ∧ Dim L2 L') := fun L2 h => by rw [hX]; exact dried_sp L2 h
 refine W.go 99 rfl ?_
 refine W.eff rfl rfl rfl (Ef.call rfl (NewHat_sp na nc nums L hn)) ?_
 rintro _ _ _ ⟨_, rfl, rfl, b, rfl, hb, hle1, hh1⟩
 refine W.go 99 rfl ?_
 rename_i L1
 have hb1 := le_but hb hle1
 refine W.eff rfl rfl rfl (Ef.call rfl (StoveOf_sp b na nc nums 0 2 4 L1 hh1 (by omega) hl2 (by omega) (by omega) (by omega))) ?_
 rintro _ _ _ ⟨_, rfl, rfl, s, p, m, rfl, hs, hm, hle2, hh2, hst2⟩
 refine W.go 99 rfl ?_
 rename_i L2
 have hok := hs.ok
 have o4 := hok.d4
 have o5 := hok.d1
 have t0 := hok.t0
 have t5 := hok.t5
 refine W.eff rfl rfl rfl (Ef.call rfl (HeatsOf_sp s p b na nc nums m L2 hh2 (by omega) hl2 hok)) ?_
 rintro _ _ _ ⟨_, rfl, rfl, t, I3, m2, ht, hm2, hg3⟩
 rename_i L3 _
 have hhk := hok_of ht
 have htl := hhk.len
 obtain ⟨ta, tc, rfl, _⟩ := hg3.g.slice
 obtain ⟨sd3, hb3⟩ := hg3.hat.blk
 have ht3 := (hg3.g.sl_but encI_len hb3 (by decide)).2
 have hst3 : StAt (L3.but b) s p := hst2.le (but_but hg3.le)
 have hh3 := hg3.hat
 have hL3 : Le L (L3.but b) := hb1.trans (but_but (but_trans hle2 hg3.le))
 refine W.go 99 rfl ?_
 rw [wrap64_in _ (by omega) (by omega)]
 have c3 := To_sp (X := C.X) b na nc nums m2 (s.days.toNat - 1) L3 hh3 (by omega) hl2 (by omega)
 rw [show ((s.days.toNat - 1 : Nat) : Int) = s.days - 1 by omega] at c3
 refine W.eff rfl rfl rfl (Ef.call rfl (c3)) ?_
 rintro _ _ _ ⟨_, rfl, rfl, ⟨d, rfl, hd⟩, hk4, hs4⟩
 refine W.go 99 rfl ?_
 rename_i L4
 have f4 : Le (L3.but b) L4 := but_same hk4
 have hgl4 := hgl.le (hL3.trans f4)
 have hask : AskAt L4 s p ta t := ⟨hst3.le f4, ht3.le f4, hgl4, by omega⟩
 refine W.eff rfl rfl rfl (Ef.call rfl (Spare_sp s p ta tc t d L4 hask)) ?_
 rintro _ _ _ ⟨_, rfl, rfl, rfl, hl5⟩
 refine W.go 99 rfl ?_
 rename_i L5
 have hask := hask.le hl5
 have hd5 : Dim L L5 := Dim.of_le ((hL3.trans f4).trans hl5)
 have hdl : d < t.length := by omega
 have hds : (d : Int) < s.days := by omega
 refine W.loop (fun m E B L' => ∃ k : Nat, m = k ∧ (k : Int) ≤ s.top + 1 ∧ Le L5 L' ∧ (∀ j : Nat, k ≤ j → (j : Int) ≤ s.top → spareB s t d j = false) ∧
   E = [(4, .p 0 0), (5, .v (.slice ta t.length tc)), (6, .v (.int .i64 d)), (7, .v (.int .i64 (SpareE s t d).1)), (8, .v (.int .i64 (SpareE s t d).2)), (9, .v (.int .i64 ((k : Int) - 1)))] ∧ B = [some ⟨cellsS (.v (stA s p)), 25⟩])
  ⟨(s.top + 1).toNat, rfl, by omega, Le.refl _, fun j h1 h2 => absurd h1 (by omega), rfl, rfl⟩ (by exact ⟨rfl, rfl, rfl, rfl, rfl, congrArg (fun x => some (SV.v (.int .i64 x))) (show s.top = (((s.top + 1).toNat : Nat) : Int) - 1 by omega), trivial⟩) (by exact ⟨rfl, trivial⟩) ?_
 rintro k _ _ L6 ⟨_, rfl, hk, hl6, hall, rfl, rfl⟩ again
 have hask6 := hask.le hl6
 refine W.go 99 rfl ?_
 refine W.split rfl rfl rfl (fun e3 => W.go 99 rfl ?_) (fun e3 => W.go 99 rfl ?_)
 ·obtain ⟨j, rfl⟩ : ∃ j, k = j + 1 := ⟨k - 1, by simp at e3; omega⟩
  rw [show ((j + 1 : Nat) : Int) - 1 = (j : Int) by omega]
  obtain ⟨w1, w2⟩ := with_ok hhk (d := d) (k := (j : Int)) (by omega) (by omega)
  have hans := all_ans hok w1 w2
  refine W.drawn (by kernel_rfl) _ (Le.refl _) ?_
  refine DD.run' [0, 1, 2, 3] rfl ?_
  refine DD.act 4 rfl rfl rfl rfl rfl (Ef.call rfl ((rWith_sp ta tc d t j L6 hask6.he (by omega) hdl))) ((by rintro _ _ _ ⟨_, rfl, rfl, hg⟩; exact ⟨hg.1, rfl, .inl rfl⟩)) ?_
  rintro _ _ _ ⟨_, rfl, rfl, hg⟩
  rename_i L7 _
  obtain ⟨wa, wc, rfl, -⟩ := hg.slice
  have hw := (hg.at encI_len).2
  refine DD.act 5 rfl rfl rfl rfl rfl (Ef.call rfl ((All_sp s p wa wc (t.set d (j : Int)) L7 ⟨hask6.st.le hg.1, hw, hask6.gl.le hg.1, by rw [List.length_set]; omega⟩))) ((by rintro _ _ _ ⟨_, rfl, rfl, _, rfl, _, _, rfl, hl, _⟩; exact ⟨hg.1.trans hl, rfl, .inl rfl⟩)) ?_
  rintro _ _ _ ⟨_, rfl, rfl, _, rfl, qa, qc, rfl, hl8, _, _⟩
  rename_i L8 _ _
  have hl68 := hg.1.trans hl8
  have hd8 := hd5.trans (Dim.of_le (hl6.trans hl68))
  refine DD.run' [6, 7, 8, 9, 10] rfl ?_
  refine .fin rfl ?_
  unfold withS at hans
  have hsp : spareB s t d j = (heatsE s (t.set d (j : Int)) == 0 && canS s (t.set d (j : Int))) := rfl
  have hnext : spareB s t d j = false → ∀ i : Nat, j ≤ i → (i : Int) ≤ s.top → spareB s t d i = false := fun hf i h1 h2 => by
   by_cases e : i = j
   ·subst e; exact hf
   ·exact hall i (by omega) h2
  rcases hans with ⟨a0, a1, a2⟩ | ⟨a0, a1, a2⟩ | ⟨a0, a1⟩
  ·have hyes : SpareE s t (d : Nat) = ((j : Int), 0) := spare_yes hok ht hds (by omega) (by rw [hsp, a1, a2]; rfl) fun i h1 h2 => hall i (by omega) h2
   rw [a0, hyes]
   refine W.go 99 rfl ?_
   refine W.split rfl rfl rfl (fun c => ?_) (fun c => absurd c (by decide))
   refine W.go 99 rfl ?_
   refine W.split rfl rfl rfl (fun _ => ?_) (fun h => absurd h (by simp))
   refine W.go 99 rfl ?_
   refine W.split rfl rfl rfl (fun _ => ?_) (fun h => absurd h (by simp))
   refine W.go 99 rfl ?_
   refine W.eff rfl rfl rfl (Ef.call rfl (drd L8 (hd8.cell hgl))) ?_
   rintro _ _ _ ⟨_, rfl, rfl, rfl, hdm⟩
   refine W.go 99 rfl ?_
   exact W.retO r rfl ⟨rfl, hd8.trans hdm⟩
  ·rw [a0]
   refine W.go 99 rfl ?_
   refine W.split rfl rfl rfl (fun c => absurd c (by decide)) (fun c => ?_)
   refine W.go 99 rfl ?_
   refine W.split rfl rfl rfl (fun c => absurd c (by decide)) (fun c => ?_)
   refine W.go 99 rfl ?_
   exact W.again (again _ _ _ _ (by omega) ⟨j, rfl, by omega, hl6.trans hl68, hnext (by rw [hsp, a2]; simp), rfl, rfl⟩) (by exact ⟨rfl, rfl, rfl, rfl, rfl, congrArg some (w64 rfl (by omega) (by omega)), trivial⟩) (by exact ⟨rfl, trivial⟩)
  ·rw [a0]
   refine W.go 99 rfl ?_
   refine W.split rfl rfl rfl (fun c => absurd c (by decide)) (fun c => ?_)
   refine W.go 99 rfl ?_
   refine W.split rfl rfl rfl (fun c => ?_) (fun c => absurd c (by decide))
   refine W.go 99 rfl ?_
   refine W.split rfl rfl rfl (fun c => absurd c (by decide)) (fun c => ?_)
   refine W.go 99 rfl ?_
   exact W.again (again _ _ _ _ (by omega) ⟨j, rfl, by omega, hl6.trans hl68, hnext (by rw [hsp, a1]; rfl), rfl, rfl⟩) (by exact ⟨rfl, rfl, rfl, rfl, rfl, congrArg some (w64 rfl (by omega) (by omega)), trivial⟩) (by exact ⟨rfl, trivial⟩)
 ·have hk0 : k = 0 := by simp at e3; omega
  subst hk0
  have hno : SpareE s t (d : Nat) = (0, 11) := spare_no hok ht hds fun i h1 => hall i (by omega) h1
  rw [hno]
  refine W.go 99 rfl ?_
  refine W.split rfl rfl rfl (fun _ => ?_) (fun h => absurd h (by simp))
  refine W.go 99 rfl ?_
  refine W.split rfl rfl rfl (fun _ => ?_) (fun h => absurd h (by simp))
  refine W.go 99 rfl ?_
  refine W.eff rfl rfl rfl (Ef.call rfl (drd L6 (hask6.gl))) ?_
  rintro _ _ _ ⟨_, rfl, rfl, rfl, hdm⟩
  refine W.go 99 rfl ?_
  exact W.retO r rfl ⟨rfl, (hd5.trans (Dim.of_le hl6)).trans hdm⟩
end Go.Mz

