/- Lemmas on which the claim leans. -/
import Derived.Test.YtnhckcgdmolgcaaGreatDoorMzAv
namespace Go.Mz
open Go
theorem fate_step {lift : Int} {c : Cone} {hs : List Int} {p : Option Int} {d : Nat} {sum e day : Int} (hd : d < hs.length) (h : fateL lift c p d sum (hs.drop d) = (e, day)) :
  (hotB lift c p hs[d] = true ∧ e = 1 ∧ day = d) ∨ (hotB lift c p hs[d] = false ∧ c.wet ≤ sum + (hs[d] + lift) ∧ e = 0 ∧ day = d) ∨
  (hotB lift c p hs[d] = false ∧ sum + (hs[d] + lift) < c.wet ∧ ((d + 1 = hs.length ∧ e = 2 ∧ day = d) ∨ (d + 1 < hs.length ∧ (d : Int) < day ∧ fateL lift c (some hs[d]) ((d + 1 : Nat) : Int) (sum + (hs[d] + lift)) (hs.drop (d + 1)) = (e, day)))) := by
 rw [List.drop_eq_getElem_cons hd] at h
 unfold fateL at h
 cases hh : hotB lift c p hs[d] with
 | true =>
  rw [hh, if_pos rfl] at h
  cases h
  exact .inl ⟨rfl, rfl, rfl⟩
 | false =>
  rw [hh, if_neg (by simp)] at h
  by_cases h1 : c.wet ≤ sum + (hs[d] + lift)
  ·rw [if_pos h1] at h
   cases h
   exact .inr (.inl ⟨rfl, h1, rfl, rfl⟩)
  ·rw [if_neg h1] at h
   refine .inr (.inr ⟨rfl, by omega, ?_⟩)
   by_cases h2 : d + 1 < hs.length
   ·refine .inr ⟨h2, ?_, h⟩
    have := (fateL_range (lift := lift) (c := c) (l := hs.drop (d + 1)) (p := some hs[d]) (d := (d : Int) + 1) (sum := sum + (hs[d] + lift))).1 (by rw [List.length_drop]; omega)
    rw [h] at this
    have : (d : Int) + 1 ≤ day := this
    omega
   ·rw [List.drop_of_length_le (by omega)] at h
    simp only [fateL, Prod.mk.injEq] at h
    exact .inl ⟨by omega, h.1.symm, by omega⟩
end Go.Mz


namespace Go.Mz
open Go.Conc
theorem W.asLit {P : Program} {C : Cx P} {n : Nat} {ds : List Deferred} {k : List Item} {E : Env} {B : List (Option Bx)} {L : LH} (s : Nat) {sv : SV} {p : Bool} (hs : get E s = some sv) (hb : boolOf sv = some p) (w : W C n ds k ((s, .lit p) :: E) B L) : W C n ds k E B L :=
 W.bool s hs hb (fun e => by rw [e] at w; exact w) (fun e => by rw [e] at w; exact w)
end Go.Mz


set_option maxRecDepth 100000
namespace Go.Mz
open Go.Conc Go.Proofs
theorem fate_missing {s : St} {hs : List Int} {i : Int} {a : Stand} (h : Ok s) (hh : heatsE s hs = 0) (hi : (s.cones.length : Int) ≤ i) : FateE s hs i a = (0, 0, 3) := by
 have h1 : openE s hs [i] [] = 3 := by
  unfold openE
  rw [ok_iff.2 h, hh]
  have : inB i 0 ((s.cones.length : Int) - 1) = false := by unfold inB; simp; omega
  simp [firstE, this]
 unfold FateE
 rw [h1]; rfl
theorem fate_in {s : St} {hs : List Int} {i : Nat} {a : Stand} {c : Cone} (h : Ok s) (hh : heatsE s hs = 0) (hi : s.cones[i]? = some c) (ha : isStand s a = true) : FateE s hs i a = ((fateS s hs c a).1, (fateS s hs c a).2, 0) := by
 have hl := (List.getElem?_eq_some_iff.1 hi).1
 have h1 : openE s hs [(i : Int)] [] = 0 := by
  unfold openE
  rw [ok_iff.2 h, hh]
  have : inB (i : Int) 0 ((s.cones.length : Int) - 1) = true := by unfold inB; simp; omega
  simp [firstE, this]
 have hc : coneAt s i = c := by unfold coneAt; rw [Int.toNat_natCast, hi]; rfl
 unfold FateE
 rw [if_neg (by rw [h1]; simp), ha, hc]; rfl
variable {Post : Value → World → Prop} {W0 : World}
theorem SdD_run (na : Option Addr) (nc : Nat) (nums : List Int) (L : LH) (hn : IntsAt L na nums) (hgl : GlOk L) (hl2 : nums.length ≤ 140737488355328)
  (hQ : ∀ v L' w, (v = .bool true ∧ Dim L L') → Sub L' w → Same W0 w → Post v w) :
  FGo Tryz.prog Post W0 (G (Frame.enter Tryz.prog 5 [.slice na nums.length nc].toArray .normal) []) L := by
 refine root_enter (n := 192) (s := 2) Tryz.func5 rfl rfl (by kernel_rfl) rfl rfl hQ fun C hX _ hL0 r => ?_
 have drd : ∀ L2, GlOk L2 → Sp C.X 21 [] L2 (fun v L' => v = .bool true ∧ Dim L2 L') := fun L2 h => by rw [hX]; exact dried_sp L2 h
 refine W.go 99 rfl ?_
 refine W.eff rfl rfl rfl (Ef.call rfl (NewHat_sp na nc nums L hn)) ?_
 rintro _ _ _ ⟨_, rfl, rfl, b, rfl, hb, hle1, hh1⟩
 refine W.go 99 rfl ?_
 rename_i L1
 have hb1 := le_but hb hle1
 refine W.eff rfl rfl rfl (Ef.call rfl (StoveOf_sp b na nc nums 0 3 4 L1 hh1 (by omega) hl2 (by omega) (by omega) (by omega))) ?_
 rintro _ _ _ ⟨_, rfl, rfl, s, p, m, rfl, hs, hm, hle2, hh2, hst2⟩
 refine W.go 99 rfl ?_
 rename_i L2
 have hok := hs.ok
 have o1 := hok.s1
 have o2 := hok.c3
 have o3 := hok.s3
 have o4 := hok.d4
 have o5 := hok.d1
 refine W.eff rfl rfl rfl (Ef.call rfl (HeatsOf_sp s p b na nc nums m L2 hh2 (by omega) hl2 hok)) ?_
 rintro _ _ _ ⟨_, rfl, rfl, t, I3, m2, ht, hm2, hg3⟩
 rename_i L3 _
 obtain ⟨ta, tc, rfl, _⟩ := hg3.g.slice
 obtain ⟨sd3, hb3⟩ := hg3.hat.blk
 have ht3 := (hg3.g.sl_but encI_len hb3 (by decide)).2
 have hst3 : StAt (L3.but b) s p := hst2.le (but_but hg3.le)
 have hh3 := hg3.hat
 have hgl3 : GlOk (L3.but b) := hgl.le (hb1.trans (but_but (but_trans hle2 hg3.le)))
 refine W.go 99 rfl ?_
 refine W.weak (E' := [(3, .v (pt b)), (4, .p 0 0), (5, .v (.slice ta t.length tc))]) (B' := [some ⟨cellsS (.v (stA s p)), 25⟩]) (by exact ⟨rfl, rfl, rfl, trivial⟩) (by exact ⟨rfl, trivial⟩) ?_
 refine W.drawn (by kernel_rfl) (L3.but b) (but_le _ _) ?_
 refine DD.run' [0, 2, 3, 4, 5, 6, 8, 9, 10, 11, 14] rfl ?_
 rw [wrap64_in _ (by omega) (by omega), wrap64_in _ (by omega) (by omega)]
 refine DD.act 1 rfl rfl rfl rfl rfl (Ef.call rfl ((To_sp b na nc nums m2 2 L3 hh3 (by omega) hl2 (by omega)))) ((by rintro _ _ _ ⟨_, rfl, rfl, ⟨y, rfl, _⟩, hk, _⟩; exact ⟨but_same hk, rfl, .inl rfl⟩)) ?_
 rintro _ _ _ ⟨_, rfl, rfl, ⟨w, rfl, hw⟩, hk4, hs4⟩
 rename_i L4
 have g4 := hh3.next hk4 hs4
 have f4 : Le (L3.but b) L4 := but_same hk4
 have c2 := To_sp (X := C.X) b na nc nums (m2 + 1) (s.shelves.length - 1) L4 g4 (by omega) hl2 (by omega)
 rw [show ((s.shelves.length - 1 : Nat) : Int) = (s.shelves.length : Int) - 1 by omega] at c2
 refine DD.act 7 rfl rfl rfl rfl rfl (Ef.call rfl (c2)) ((by rintro _ _ _ ⟨_, rfl, rfl, ⟨y, rfl, _⟩, hk, _⟩; exact ⟨but_trans f4 (but_same hk), rfl, .inl rfl⟩)) ?_
 rintro _ _ _ ⟨_, rfl, rfl, ⟨k, rfl, hk⟩, hk5, hs5⟩
 rename_i L5
 have g5 := g4.next hk5 hs5
 have f5 : Le (L3.but b) L5 := but_trans f4 (but_same hk5)
 have c3 := To_sp (X := C.X) b na nc nums (m2 + 2) (s.days.toNat - 1) L5 g5 (by omega) hl2 (by omega)
 rw [show ((s.days.toNat - 1 : Nat) : Int) = s.days - 1 by omega] at c3
 refine DD.act 12 rfl rfl rfl rfl rfl (Ef.call rfl (c3)) ((by rintro _ _ _ ⟨_, rfl, rfl, ⟨y, rfl, _⟩, hk, _⟩; exact ⟨but_trans f5 (but_same hk), rfl, .inl rfl⟩)) ?_
 rintro _ _ _ ⟨_, rfl, rfl, ⟨d0, rfl, hd0⟩, hk6, hs6⟩
 rename_i L6
 have g6 := g5.next hk6 hs6
 have f6 : Le (L3.but b) L6 := but_trans f5 (but_same hk6)
 refine DD.run' [13, 15] rfl ?_
 refine DD.act 16 rfl rfl rfl rfl rfl (Ef.sto rfl) (by rintro _ _ _ ⟨rfl, rfl, rfl⟩; exact ⟨f6, rfl, .inl rfl⟩) ?_
 rintro _ _ L6 ⟨rfl, rfl, rfl⟩
 refine .fin rfl ?_
 have hask : AskAt L6 s p ta t := ⟨hst3.le f6, ht3.le f6, hgl3.le f6, by have := (hok_of ht).len; omega⟩
 have hst6 := hask.st
 have hi6 := hask.he
 have htl := (hok_of ht).len
 have htr := (hok_of ht).r
 have t5 := hok.t5
 have hgl6 := hask.gl
 have hd6 : Dim L L6 := Dim.of_le ((hb1.trans (but_but (but_trans hle2 hg3.le))).trans f6)
 have hisst : isStand s ⟨(k : Int), (d0 : Int)⟩ = true := by unfold isStand inB; simp; omega
 have hdl : d0 < t.length := by omega
 refine W.weak (E' := [(4, .p 0 0), (5, .v (.slice ta t.length tc)), (6, .v (.int .i64 w)), (7, .p 1 0)]) (B' := [some ⟨cellsS (.v (stA s p)), 25⟩, some ⟨[.v (.int .i64 k), .v (.int .i64 d0)], 30⟩]) (by exact ⟨rfl, rfl, rfl, rfl, trivial⟩) (by exact ⟨rfl, rfl, trivial⟩) ?_
 have hF := Fate_sp (X := C.X) s p ta tc t w ⟨k, d0⟩ L6 hask
 by_cases hwn : w < s.cones.length
 ·obtain ⟨c, hcc⟩ : ∃ c, s.cones[w]? = some c := ⟨_, List.getElem?_eq_getElem hwn⟩
  rw [fate_in hok ht hcc hisst] at hF
  generalize hfe : fateS s t c ⟨(k : Int), (d0 : Int)⟩ = ed at hF
  obtain ⟨e, day⟩ := ed
  unfold fateS at hfe
  simp only [Int.toNat_natCast] at hfe
  have hrng := fateL_range (lift := liftOf s (k : Int)) (c := c) (l := t.drop d0) (p := none) (d := (d0 : Int)) (sum := 0)
  rw [hfe] at hrng
  rw [List.length_drop] at hrng
  obtain ⟨r1, r2, r3, r4⟩ := hrng
  have r1 := r1 (by omega)
  simp only at r1 r2 r3 r4
  refine W.go 99 rfl ?_
  refine W.eff rfl rfl rfl (Ef.call rfl (hF)) ?_
  rintro _ _ _ ⟨_, rfl, rfl, rfl, hl7⟩
  refine W.go 99 rfl ?_
  rename_i L7
  obtain ⟨dy, rfl⟩ := Int.eq_ofNat_of_zero_le (show 0 ≤ day by omega)
  have hst7 := hst6.le hl7
  have hi7 := hi6.le hl7
  have hgl7 := hgl6.le hl7
  have hd7 := hd6.trans (Dim.of_le hl7)
  have hkn : k < s.shelves.length := by omega
  obtain ⟨p1, p2, n1, n2⟩ := p
  obtain ⟨ca, hca⟩ := hst7.co.addr hwn
  obtain rfl : p2 = some ca := hca
  obtain ⟨sa, hsa⟩ := hst7.sh.addr hkn
  obtain rfl : p1 = some sa := hsa
  obtain ⟨ta', rfl⟩ := hi7.addr hdl
  have hcr := hok.co c (List.mem_of_getElem? hcc)
  have hlift : liftOf s (k : Int) = s.shelves[k].lift := by unfold liftOf; rw [Int.toNat_natCast, List.getElem?_eq_getElem hkn]; rfl
  have hlr := hok.sh _ (List.getElem_mem hkn)
  refine W.split rfl rfl rfl (fun h => absurd h (by simp; omega)) (fun _ => ?_)
  refine W.go 99 rfl ?_
  refine W.split rfl rfl rfl (fun h => absurd h (by simp)) (fun _ => ?_)
  refine W.go 99 rfl ?_
  refine W.split rfl rfl rfl (fun h => absurd h (by simp; omega)) (fun _ => ?_)
  refine W.go 99 rfl ?_
  refine W.split rfl rfl rfl (fun h => absurd h (by simp; omega)) (fun _ => ?_)
  refine W.go 99 rfl ?_
  refine W.vf rfl rfl rfl rfl (Vf.idx rfl rfl rfl rfl rfl rfl (hwn)) ?_
  refine W.go 99 rfl ?_
  refine W.vf rfl rfl rfl rfl (Vf.loadN rfl rfl rfl (hst7.co.whole hcc rfl)) ?_
  refine W.go 99 rfl ?_
  refine W.loop (fun m E B L' => ∃ (d : Nat) (sum : Int), m = t.length - d ∧ d0 ≤ d ∧ d ≤ dy + 1 ∧ 0 ≤ sum ∧ sum ≤ 8 * d ∧ L7 = L' ∧
    ((d ≤ dy ∧ fateL (liftOf s (k : Int)) c (if d = d0 then none else t[d - 1]?) d sum (t.drop d) = (e, (dy : Int))) ∨ (d = dy + 1 ∧ ((e = 1) ∨ (e = 0 ∧ c.wet ≤ sum) ∨ (e = 2 ∧ sum < c.wet ∧ (dy : Int) = s.days - 1)))) ∧
    E = [(4, .p 0 0), (5, .v (.slice (some ta') t.length tc)), (7, .p 1 0), (8, .v (.int .i64 e)), (9, .v (.int .i64 dy)), (11, .p 2 0), (12, .v (.int .i64 sum)), (13, .v (.int .i64 d))] ∧
    B = [some ⟨cellsS (.v (stA s ⟨some sa, some ca, n1, n2⟩)), 25⟩, some ⟨[.v (.int .i64 k), .v (.int .i64 d0)], 30⟩, some ⟨cellsS (.v (.agg (encCo c).toArray)), 27⟩])
   ⟨d0, 0, rfl, Nat.le_refl _, by omega, by omega, by omega, rfl, .inl ⟨by omega, by rw [if_pos rfl]; exact hfe⟩, rfl, rfl⟩ (by exact ⟨rfl, rfl, rfl, rfl, rfl, rfl, rfl, rfl, trivial⟩) (by exact ⟨rfl, rfl, rfl, trivial⟩) ?_
  rintro _ _ _ _ ⟨d, sum, rfl, g1, g2, g3, g4, rfl, hst, rfl, rfl⟩ again
  refine W.go 99 rfl ?_
  refine W.split rfl rfl rfl (fun e1 => W.go 99 rfl ?_) (fun e1 => W.go 99 rfl ?_)
  ·have hdd : d ≤ dy := by simpa using e1
   have hfd : fateL (liftOf s (k : Int)) c (if d = d0 then none else t[d - 1]?) d sum (t.drop d) = (e, (dy : Int)) := by
    rcases hst with ⟨_, h⟩ | ⟨h, _⟩
    ·exact h
    ·omega
   have hdt : d < t.length := by omega
   have htd := htr _ (List.getElem_mem hdt)
   refine W.drawn (by kernel_rfl) _ (Le.refl _) ?_
   refine DD.run' [0, 1, 4, 5, 6, 7] rfl ?_
   refine DD.vf 2 rfl rfl rfl rfl rfl (Vf.idx1 rfl rfl rfl rfl rfl rfl rfl (hdt)) ?_
   refine DD.vf 3 rfl rfl rfl rfl rfl (Vf.load rfl rfl rfl (hi7.int (List.getElem?_eq_getElem hdt))) ?_
   refine DD.vf 8 rfl rfl rfl rfl rfl (Vf.idx rfl rfl rfl rfl rfl rfl (hkn)) ?_
   refine DD.run' [9] rfl ?_
   refine DD.vf 10 rfl rfl rfl rfl rfl (Vf.load rfl rfl rfl (hst7.sh.fld (List.getElem?_eq_getElem hkn) 0 rfl)) ?_
   refine DD.run' [11, 12] rfl ?_
   refine .fin rfl ?_
   refine W.go 99 rfl ?_
   rw [wrap64_in _ (by omega) (by omega), ← hlift]
   obtain ⟨hb, hhb⟩ : ∃ hb, hotB (liftOf s (k : Int)) c (if d = d0 then none else t[d - 1]?) t[d] = hb := ⟨_, rfl⟩
   have hcut := fate_step hdt hfd
   rw [hhb] at hcut
   apply W.cut (fun E B L' => L7 = L' ∧ SubE E [(4, .p 0 0), (5, .v (.slice (some ta') t.length tc)), (7, .p 1 0), (8, .v (.int .i64 e)), (9, .v (.int .i64 dy)), (11, .p 2 0), (12, .v (.int .i64 sum)), (13, .v (.int .i64 d)), (14, .v (.int .i64 (t[d] + liftOf s (k : Int)))), (15, .lit hb), (138, .lit hb), (141, .v (.bool ((d : Int) == (dy : Int)))), (142, .v (.bool ((d : Int) == (dy : Int))))] ∧
    PreB B [some ⟨cellsS (.v (stA s ⟨some sa, some ca, n1, n2⟩)), 25⟩, some ⟨[.v (.int .i64 k), .v (.int .i64 d0)], 30⟩, some ⟨cellsS (.v (.agg (encCo c).toArray)), 27⟩])
   rotate_left
   ·intro rest
    refine W.split rfl rfl rfl (fun e2 => W.go 99 rfl ?_) (fun e2 => W.go 99 rfl ?_)
    ·have hd0 : d = d0 := by simp at e2; omega
     rw [if_pos hd0] at hhb
     refine W.split rfl rfl rfl (fun e3 => W.go 99 rfl ?_) (fun e3 => W.go 99 rfl ?_)
     ·obtain rfl : true = hb := by rw [← hhb]; unfold hotB; simp at e3 ⊢; omega
      exact rest _ _ _ ⟨rfl, by exact ⟨rfl, rfl, rfl, rfl, rfl, rfl, rfl, rfl, rfl, rfl, rfl, rfl, rfl, trivial⟩, by exact ⟨rfl, rfl, rfl, trivial⟩⟩
     ·have hh : decide (c.cold < t[d] + liftOf s (k : Int)) = hb := by
       rw [← hhb]; unfold hotB; rw [e3]; simp
      rw [hh]
      refine W.asLit 15 rfl rfl ?_
      refine W.asLit 138 rfl rfl ?_
      exact rest _ _ _ ⟨rfl, by exact ⟨rfl, rfl, rfl, rfl, rfl, rfl, rfl, rfl, rfl, rfl, rfl, rfl, rfl, trivial⟩, by exact ⟨rfl, rfl, rfl, trivial⟩⟩
    ·have hd0 : d ≠ d0 := by simp at e2; omega
     rw [if_neg hd0] at hhb
     have hd1 : d - 1 < t.length := by omega
     have htd1 := htr _ (List.getElem_mem hd1)
     rw [List.getElem?_eq_getElem hd1] at hhb
     refine W.drawn (by kernel_rfl) _ (Le.refl _) ?_
     refine DD.run' [0, 1] rfl ?_
     refine DD.split 118 rfl (fun e3 => ?_) (fun e3 => ?_)
     ·obtain rfl : true = hb := by rw [← hhb]; unfold hotB; simp at e3 ⊢; omega
      refine DD.run' [2, 3, 4, 5, 6, 7, 8, 9, 10, 11, 12, 13, 14, 15, 16, 17, 18, 19, 20, 21] rfl ?_
      refine .fin rfl ?_
      refine W.go 99 rfl ?_
      exact rest _ _ _ ⟨rfl, by exact ⟨rfl, rfl, rfl, rfl, rfl, rfl, rfl, rfl, rfl, rfl, rfl, rfl, rfl, trivial⟩, by exact ⟨rfl, rfl, rfl, trivial⟩⟩
     ·refine DD.run' [2, 3, 4, 5, 6, 7, 8, 11, 12, 13, 14] rfl ?_
      rw [wrap64_in _ (by omega) (by omega), wrap64_in _ (by omega) (by omega), show (d : Int) - 1 = ((d - 1 : Nat) : Int) by omega]
      refine DD.vf 9 rfl rfl rfl rfl rfl (Vf.idx1 rfl rfl rfl rfl rfl rfl rfl (hd1)) ?_
      refine DD.vf 10 rfl rfl rfl rfl rfl (Vf.load rfl rfl rfl (hi7.int (List.getElem?_eq_getElem hd1))) ?_
      refine DD.vf 15 rfl rfl rfl rfl rfl (Vf.idx rfl rfl rfl rfl rfl rfl (hkn)) ?_
      refine DD.run' [16] rfl ?_
      refine DD.vf 17 rfl rfl rfl rfl rfl (Vf.load rfl rfl rfl (hst7.sh.fld (List.getElem?_eq_getElem hkn) 0 rfl)) ?_
      refine DD.run' [18] rfl ?_
      rw [wrap64_in _ (by omega) (by omega), ← hlift]
      refine DD.run' [19, 20, 21] rfl ?_
      have hh : decide (t[d - 1] + liftOf s (k : Int) < t[d] + liftOf s (k : Int) - c.jump) = hb := by
       rw [← hhb]; unfold hotB; rw [e3]; simp; omega
      rw [hh]
      refine .fin rfl ?_
      refine W.go 99 rfl ?_
      refine W.asLit 15 rfl rfl ?_
      refine W.asLit 138 rfl rfl ?_
      exact rest _ _ _ ⟨rfl, by exact ⟨rfl, rfl, rfl, rfl, rfl, rfl, rfl, rfl, rfl, rfl, rfl, rfl, rfl, trivial⟩, by exact ⟨rfl, rfl, rfl, trivial⟩⟩
   rintro E B _ ⟨rfl, hE, hB⟩
   refine W.weak hE hB ?_
   have hw' : IntKind.i64.wrap (sum + (t[d] + liftOf s (k : Int))) = sum + (t[d] + liftOf s (k : Int)) := wrap64_in _ (by omega) (by omega)
   rcases hcut with ⟨rfl, rfl, hdy⟩ | ⟨rfl, hwet, rfl, hdy⟩ | ⟨rfl, hwet, hmore⟩
   ·obtain rfl : d = dy := by omega
    refine W.split rfl rfl rfl (fun _ => ?_) (fun h => absurd h (by simp))
    refine W.go 99 rfl ?_
    refine W.split rfl rfl rfl (fun c => absurd c (by decide)) (fun c => ?_)
    refine W.go 99 rfl ?_
    refine W.split rfl rfl rfl (fun h => absurd h (by simp)) (fun _ => ?_)
    refine W.go 99 rfl ?_
    exact W.again (again _ _ _ _ (by omega) ⟨d + 1, sum, rfl, by omega, by omega, by omega, by omega, rfl, .inr ⟨rfl, .inl rfl⟩, rfl, rfl⟩) (by exact ⟨rfl, rfl, rfl, rfl, rfl, rfl, rfl, congrArg some (inc64 (by omega)), trivial⟩) (by exact ⟨rfl, rfl, rfl, trivial⟩)
   ·obtain rfl : d = dy := by omega
    refine W.split rfl rfl rfl (fun _ => ?_) (fun h => absurd h (by simp))
    refine W.go 99 rfl ?_
    refine W.split rfl rfl rfl (fun c => absurd c (by decide)) (fun c => ?_)
    refine W.go 99 rfl ?_
    rw [hw']
    refine W.split rfl rfl rfl (fun h => absurd h (by simp)) (fun _ => ?_)
    refine W.go 99 rfl ?_
    exact W.again (again _ _ _ _ (by omega) ⟨d + 1, sum + (t[d] + liftOf s (k : Int)), rfl, by omega, by omega, by omega, by omega, rfl, .inr ⟨rfl, .inr (.inl ⟨rfl, hwet⟩)⟩, rfl, rfl⟩) (by exact ⟨rfl, rfl, rfl, rfl, rfl, rfl, rfl, congrArg some (inc64 (by omega)), trivial⟩) (by exact ⟨rfl, rfl, rfl, trivial⟩)
   ·rcases hmore with ⟨hd1, rfl, hdy⟩ | ⟨hd1, hdy, hnext⟩
    ·obtain rfl : d = dy := by omega
     refine W.split rfl rfl rfl (fun _ => ?_) (fun h => absurd h (by simp))
     refine W.go 99 rfl ?_
     refine W.split rfl rfl rfl (fun c => absurd c (by decide)) (fun c => ?_)
     refine W.go 99 rfl ?_
     rw [hw']
     refine W.split rfl rfl rfl (fun h => absurd h (by simp)) (fun _ => ?_)
     refine W.go 99 rfl ?_
     exact W.again (again _ _ _ _ (by omega) ⟨d + 1, sum + (t[d] + liftOf s (k : Int)), rfl, by omega, by omega, by omega, by omega, rfl, .inr ⟨rfl, .inr (.inr ⟨rfl, hwet, by omega⟩)⟩, rfl, rfl⟩) (by exact ⟨rfl, rfl, rfl, rfl, rfl, rfl, rfl, congrArg some (inc64 (by omega)), trivial⟩) (by exact ⟨rfl, rfl, rfl, trivial⟩)
    ·refine W.split rfl rfl rfl (fun h => absurd h (by simp; omega)) (fun _ => ?_)
     refine W.go 99 rfl ?_
     refine W.split rfl rfl rfl (fun c => absurd c (by decide)) (fun c => ?_)
     refine W.go 99 rfl ?_
     rw [hw']
     refine W.split rfl rfl rfl (fun _ => ?_) (fun h => absurd h (by simp; omega))
     refine W.go 99 rfl ?_
     refine W.split rfl rfl rfl (fun h => absurd h (by simp; omega)) (fun _ => ?_)
     refine W.go 99 rfl ?_
     have hp : (if d + 1 = d0 then none else t[d + 1 - 1]?) = some t[d] := by rw [if_neg (by omega), show d + 1 - 1 = d by omega, List.getElem?_eq_getElem hdt]
     exact W.again (again _ _ _ _ (by omega) ⟨d + 1, sum + (t[d] + liftOf s (k : Int)), rfl, by omega, by omega, by omega, by omega, rfl, .inl ⟨by omega, by rw [hp]; exact hnext⟩, rfl, rfl⟩) (by exact ⟨rfl, rfl, rfl, rfl, rfl, rfl, rfl, congrArg some (inc64 (by omega)), trivial⟩) (by exact ⟨rfl, rfl, rfl, trivial⟩)
  ·have hdd : dy < d := by simpa using e1
   obtain ⟨hdd, hfin⟩ : d = dy + 1 ∧ ((e = 1) ∨ (e = 0 ∧ c.wet ≤ sum) ∨ (e = 2 ∧ sum < c.wet ∧ (dy : Int) = s.days - 1)) := by
    rcases hst with ⟨h, _⟩ | h
    ·omega
    ·exact h
   rcases hfin with rfl | ⟨rfl, hwet⟩ | ⟨rfl, hwet, hlast⟩
   ·refine W.split rfl rfl rfl (fun c => absurd c (by decide)) (fun c => ?_)
    refine W.go 99 rfl ?_
    refine W.split rfl rfl rfl (fun c => absurd c (by decide)) (fun c => ?_)
    refine W.go 99 rfl ?_
    refine W.split rfl rfl rfl (fun c => ?_) (fun c => absurd c (by decide))
    refine W.go 99 rfl ?_
    refine W.eff rfl rfl rfl (Ef.call rfl (drd L7 hgl7)) ?_
    rintro _ _ _ ⟨_, rfl, rfl, rfl, hdm⟩
    refine W.go 99 rfl ?_
    exact W.retO r rfl ⟨rfl, hd7.trans hdm⟩
   ·refine W.split rfl rfl rfl (fun c => ?_) (fun c => absurd c (by decide))
    refine W.go 99 rfl ?_
    refine W.split rfl rfl rfl (fun _ => ?_) (fun h => absurd h (by simp; omega))
    refine W.go 99 rfl ?_
    refine W.eff rfl rfl rfl (Ef.call rfl (drd L7 hgl7)) ?_
    rintro _ _ _ ⟨_, rfl, rfl, rfl, hdm⟩
    refine W.go 99 rfl ?_
    exact W.retO r rfl ⟨rfl, hd7.trans hdm⟩
   ·refine W.split rfl rfl rfl (fun c => absurd c (by decide)) (fun c => ?_)
    refine W.go 99 rfl ?_
    refine W.split rfl rfl rfl (fun c => ?_) (fun c => absurd c (by decide))
    refine W.go 99 rfl ?_
    refine W.split rfl rfl rfl (fun _ => ?_) (fun h => absurd h (by simp; omega))
    refine W.go 99 rfl ?_
    rw [wrap64_in _ (by omega) (by omega)]
    refine W.split rfl rfl rfl (fun _ => ?_) (fun h => absurd h (by simp; omega))
    refine W.go 99 rfl ?_
    refine W.eff rfl rfl rfl (Ef.call rfl (drd L7 hgl7)) ?_
    rintro _ _ _ ⟨_, rfl, rfl, rfl, hdm⟩
    refine W.go 99 rfl ?_
    exact W.retO r rfl ⟨rfl, hd7.trans hdm⟩
 ·rw [fate_missing hok ht (by omega)] at hF
  refine W.go 99 rfl ?_
  refine W.eff rfl rfl rfl (Ef.call rfl (hF)) ?_
  rintro _ _ _ ⟨_, rfl, rfl, rfl, hl7⟩
  refine W.go 99 rfl ?_
  rename_i L7
  refine W.split rfl rfl rfl (fun _ => ?_) (fun c => absurd c (by simp; omega))
  refine W.go 99 rfl ?_
  refine W.split rfl rfl rfl (fun c => ?_) (fun c => absurd c (by decide))
  refine W.go 99 rfl ?_
  refine W.split rfl rfl rfl (fun c => ?_) (fun c => absurd c (by decide))
  refine W.go 99 rfl ?_
  refine W.split rfl rfl rfl (fun c => ?_) (fun c => absurd c (by decide))
  refine W.go 99 rfl ?_
  refine W.eff rfl rfl rfl (Ef.call rfl (drd L7 (hgl6.le hl7))) ?_
  rintro _ _ _ ⟨_, rfl, rfl, rfl, hdm⟩
  refine W.go 99 rfl ?_
  exact W.retO r rfl ⟨rfl, (hd6.trans (Dim.of_le hl7)).trans hdm⟩
end Go.Mz

