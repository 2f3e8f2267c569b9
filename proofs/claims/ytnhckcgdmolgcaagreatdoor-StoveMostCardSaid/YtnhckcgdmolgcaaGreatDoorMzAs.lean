/- Lemmas on which the claim leans. -/
import Derived.Test.YtnhckcgdmolgcaaGreatDoorMzAr
set_option maxRecDepth 100000
namespace Go.Mz
open Go.Conc Go.Proofs
variable {X : Logic Tryz.prog}
def svT (s : St) (p : Pt) (ha : Option Addr) (hc : Nat) (hs : List Int) (mv : Value) (T : Nat → Value) : Array Value := svO s p ha hc hs (T 0) (T 1) (T 2) mv
theorem svT_get {s : St} {p : Pt} {ha : Option Addr} {hc : Nat} {hs : List Int} {mv : Value} {T : Nat → Value} {i : Nat} (h : i < 3) : (svT s p ha hc hs mv T)[7 + i]? = some (T i) := by
 obtain rfl | rfl | rfl : i = 0 ∨ i = 1 ∨ i = 2 := by omega
 all_goals rfl
theorem svT_put {s : St} {p : Pt} {ha : Option Addr} {hc : Nat} {hs : List Int} {mv v : Value} {T : Nat → Value} {i : Nat} (h : i < 3) : putRow (svT s p ha hc hs mv T) (7 + i) [v] = svT s p ha hc hs mv (fun j => if j = i then v else T j) := by
 obtain rfl | rfl | rfl : i = 0 ∨ i = 1 ∨ i = 2 := by omega
 all_goals rfl
def FinT (s : St) (hs : List Int) (T : Nat → Value) (i : Nat) (F : LH) : Prop := ∀ (j : Nat) (c : Cone), j < i → s.cones[j]? = some c → ∃ ad cap, T j = .slice ad (standsS s hs c).length cap ∧ SlAt F ad 2 encSt (standsS s hs c)
def StoveNew (s : St) (p : Pt) (ha : Option Addr) (hc : Nat) (hs : List Int) (L : LH) (v : Value) (L' : LH) : Prop :=
 ∃ (z : Sd) (mr : Nat) (F : LH), v = pt z.b ∧ z.s = s ∧ z.hs = hs ∧ z.mv = .map (some mr) ∧ Le L F ∧ Le F L' ∧ F mr = none ∧ SvF F z ∧ L' mr = some (.map #[] 0, true)
theorem newStove_sp (s : St) (p : Pt) (ha : Option Addr) (hc : Nat) (hs : List Int) (L : LH) (h : StAt L s p) (hh : IntsAt L ha hs) (hok : Ok s) (hhk : HOk s hs) (hgl : GlOk L) : Sp X 111 [stA s p, .slice ha hs.length hc] L (StoveNew s p ha hc hs L) := by
 have hc3 := hok.c3
 refine Sp.enter (n := 39) Tryz.func111 rfl rfl rfl rfl fun C hX _ hL0 r => ?_
 refine W.go 99 rfl ?_
 refine W.eff rfl rfl rfl (Ef.makeMap) ?_
 rintro _ _ _ ⟨mr, rfl, rfl, hmr, rfl⟩
 refine W.goP [5] 99 rfl ?_
 refine W.pub 12 (.inl ⟨_, rfl⟩) rfl rfl ?_
 intro bz hbz _
 refine W.go 99 rfl ?_
 refine W.pub 5 (.inl ⟨_, rfl⟩) rfl rfl ?_
 intro b5 hb5 _
 have hzm : bz ≠ mr := fun e => by subst e; rw [put_same] at hbz; cases hbz
 have h5z : b5 ≠ bz := fun e => by subst e; rw [put_same] at hb5; cases hb5
 refine W.loopD (fun m ds E B L' => ∃ (i : Nat) (T : Nat → Value) (F : LH), m = s.cones.length - i ∧ i ≤ s.cones.length ∧ Le ((L.put mr (.map #[] 0)).put b5 (.cells #[pt bz] 101)) F ∧ Le F L' ∧ F bz = none ∧
   L' bz = some (.cells (svT s p ha hc hs (.map (some mr)) T) 142, true) ∧ FinT s hs T i F ∧ (∀ j, i ≤ j → T j = .slice none 0 0) ∧ Left L L' ds ∧
   E = [(5, .v (pt b5)), (15, .v (.int .i64 s.cones.length)), (16, .v (.int .i64 i))] ∧ B = [])
  ⟨0, fun _ => .slice none 0 0, (L.put mr (.map #[] 0)).put b5 (.cells #[pt bz] 101), rfl, by omega, Le.refl _, ?_, ?_, ?_, fun j c hj => by omega, fun _ _ => rfl, Left.nil, rfl, rfl⟩ (by exact ⟨rfl, rfl, rfl, trivial⟩) trivial ?_
 ·exact le_put2 (Le.put hbz _) b5 _
 ·rw [put_ne _ _ (Ne.symm h5z)]; exact hbz
 ·rw [put_ne _ _ (Ne.symm h5z)]; exact put_same _ _ _
 rintro _ ds _ _ L1 ⟨i, T, F, rfl, hi, hF0, hF1, hFz, hz, hfin, hnil, hleft, rfl, rfl⟩ again
 refine W.go 99 rfl ?_
 refine W.split rfl rfl rfl (fun e1 => W.go 99 rfl ?_) (fun e1 => W.go 99 rfl ?_)
 ·have hil : i < s.cones.length := by simpa using e1
  refine W.pub 6 (.inl ⟨_, rfl⟩) rfl rfl ?_
  intro b6 hb6 _
  obtain ⟨c, hcc⟩ : ∃ c, s.cones[i]? = some c := ⟨_, List.getElem?_eq_getElem hil⟩
  have hl6 := Le.put hb6 (.cells #[.int .i64 (i : Int)] 3)
  have hF2 := hF1.trans hl6
  have hLF : Le L F := (Le.put hmr _).trans ((Le.put (none_of_le (Le.put hbz _) hb5) _).trans hF0)
  have hbzL : L bz = none := none_of_le hLF hFz
  have h5F : F b5 = some (.cells #[pt bz] 101, true) := hF0 _ _ (put_same _ _ _)
  have hz6 : bz ≠ b6 := fun e => by subst e; rw [hz] at hb6; cases hb6
  have h56 : b5 ≠ b6 := fun e => by subst e; rw [hF1 _ _ h5F] at hb6; cases hb6
  refine W.vf rfl rfl rfl rfl (Vf.load rfl rfl rfl (cell_of (hF2 _ _ h5F) rfl)) ?_
  refine W.go 99 rfl ?_
  refine W.vf rfl rfl rfl rfl (Vf.load rfl rfl rfl (cell_of (put_same _ _ _) rfl)) ?_
  refine W.go 99 rfl ?_
  have hr := dry_sp (X := C.X) bz i (L1.put b6 (.cells #[.int .i64 (i : Int)] 3))
  refine W.eff rfl rfl rfl (Ef.call rfl (hr)) ?_
  rintro _ _ _ ⟨_, rfl, rfl, b1, b2, rfl, hb1, hb2, hne, rfl⟩
  refine W.go 99 rfl ?_
  generalize hL3 : ((L1.put b6 (.cells #[.int .i64 (i : Int)] 3)).put b1 (.cells #[.pointer (some ⟨bz, 0, none⟩)] 101)).put b2 (.cells #[.int .i64 (i : Int)] 3) = L3
  have hl3 : Le (L1.put b6 (.cells #[.int .i64 (i : Int)] 3)) L3 := by
   rw [← hL3]; exact (Le.put hb1 _).trans (Le.put (by rw [put_ne _ _ hne]; exact hb2) _)
  have k1 : L3 b1 = some (.cells #[.pointer (some ⟨bz, 0, none⟩)] 101, true) := by rw [← hL3, put_ne _ _ hne.symm]; exact put_same _ _ _
  have k2 : L3 b2 = some (.cells #[.int .i64 (i : Int)] 3, true) := by rw [← hL3]; exact put_same _ _ _
  have hz3 := hl3 _ _ (hl6 _ _ hz)
  have n1 : b1 ≠ bz := fun e => by subst e; rw [hl6 _ _ hz] at hb1; cases hb1
  have n2 : b2 ≠ bz := fun e => by subst e; rw [hl6 _ _ hz] at hb2; cases hb2
  have hF3 := hF2.trans hl3
  have hFb : Le F (L3.but bz) := fun b x hx => by rw [but_get (fun e => by subst e; rw [hFz] at hx; cases hx)]; exact hF3 _ _ hx
  have h6b : L3.but bz b6 = some (.cells #[.int .i64 (i : Int)] 3, true) := by rw [but_get hz6.symm]; exact hl3 _ _ (put_same _ _ _)
  have hTi : T i = .slice none 0 0 := hnil i (Nat.le_refl _)
  have hT0 : (fun j => if j = i then Value.slice none 0 0 else T j) = T := by funext j; split <;> simp_all
  refine W.iter (L3.but bz) (but_le _ _) (fun pre L' => ∃ v ob, L' bz = some (.cells (svT s p ha hc hs (.map (some mr)) (fun j => if j = i then v else T j)) 142, true) ∧ Own L' 2 30 v pre.length (pre.flatMap encSt) ob ∧ ∀ b, ob = some b → L3.but bz b = none) (fun j L' => False)
   (dry1_it bz b1 b2 i s p ha hc hs c hcc) ⟨_, rfl, rfl, rfl⟩ (by rw [r.ro]) [(21, .v (.func (.func 168) #[] #[.pointer (some ⟨b1, 0, none⟩), .pointer (some ⟨b2, 0, none⟩)])), (5, .v (pt b5)), (6, .v (pt b6))] (by exact ⟨rfl, rfl, rfl, trivial⟩) rfl rfl rfl
   ?_ (fun _ _ _ _ h => h) ?_ ?_ rfl (fun _ => rfl) ?_ ?_ ?_
  ·rintro pre L1 L2 hl ⟨v, ob, g1, g2, g3⟩
   exact ⟨v, ob, hl _ _ g1, g2.le hl, g3⟩
  ·rintro pre L' hl ⟨v, ob, g1, g2, g3⟩
   have hLb : Le L L' := hLF.trans (hFb.trans hl)
   exact ⟨hl.cell (cell_of (by rw [but_get n1]; exact k1) rfl), hl.cell (cell_of (by rw [but_get n2]; exact k2) rfl), ⟨_, _, _, _, ⟨⟨_, g1⟩, h.le hLb, hh.le hLb, hok, hhk⟩⟩, hgl.le hLb⟩
  ·exact ⟨.slice none 0 0, none, by rw [hT0]; exact calm_cells hz3, Own.nil, fun b hb => by cases hb⟩
  ·rintro d l pre x post L' q lb hx hl' ⟨v, ob, g1, g2, g3⟩ hnl hnd hned q1 q2 C' c1 c2 hbeg hcont -
   refine W.go 99 rfl ?_
   refine hbeg _ _ _ fun L2 r1 r0 => ?_
   have r2 : L2 d = some (.deferred (some []), true) := by rw [r0 _ hned.symm]; exact q2
   have hl2 : Le (L3.but bz) L2 := fun b o ho => by rw [r0 _ (fun e => by subst e; rw [hnl] at ho; cases ho)]; exact hl' _ _ ho
   have nlb : l ≠ bz := fun e => by rw [e, g1] at q1; cases q1
   have g1' : L2 bz = some (.cells (svT s p ha hc hs (.map (some mr)) (fun j => if j = i then v else T j)) 142, true) := by rw [r0 _ nlb.symm]; exact g1
   have nlo : ∀ b, ob = some b → b ≠ l := fun b hb e => by
    obtain ⟨cp, cc, _, w2, _⟩ : Own L' 2 30 v pre.length (pre.flatMap encSt) (some b) := hb ▸ g2
    rw [e, q1] at w2; cases w2
   have g2' : Own L2 2 30 v pre.length (pre.flatMap encSt) ob := g2.keep fun b hb => r0 _ (nlo b hb)
   have nbo : ∀ b, ob = some b → b ≠ bz := fun b hb e => by
    obtain ⟨cp, cc, _, w2, _⟩ : Own L2 2 30 v pre.length (pre.flatMap encSt) (some b) := hb ▸ g2'
    rw [e, g1'] at w2; cases w2
   have h5b : L3.but bz b5 = some (.cells #[pt bz] 101, true) := hFb _ _ h5F
   have m5 : b5 ∉ bz :: ob.toList := fun hm => by
    rcases List.mem_cons.1 hm with e | hm
    ·exact h5z e
    ·rw [Option.mem_toList] at hm
     rw [g3 b5 hm] at h5b; cases h5b
   have m6 : b6 ∉ bz :: ob.toList := fun hm => by
    rcases List.mem_cons.1 hm with e | hm
    ·exact hz6.symm e
    ·rw [Option.mem_toList] at hm
     rw [g3 b6 hm] at h6b; cases h6b
   have f5 : (L2.less (bz :: ob.toList)).cell? ⟨b5, 0, none⟩ = some (pt bz) := cell_of (by rw [less_get m5]; exact hl2 _ _ h5b) rfl
   have f6 : (L2.less (bz :: ob.toList)).cell? ⟨b6, 0, none⟩ = some (.int .i64 i) := cell_of (by rw [less_get m6]; exact hl2 _ _ h6b) rfl
   have hi3 : i < 3 := by omega
   have hls : Le (L2.less (bz :: ob.toList)) (L2.less ob.toList) := less_sub fun b hb => List.mem_cons_of_mem _ hb
   refine W.go 99 rfl ?_
   refine W.drawn (by kernel_rfl) (L2.less (bz :: ob.toList)) (less_le _ _) ?_
   refine DD.vf 0 rfl rfl rfl rfl rfl (Vf.load rfl rfl rfl (f5)) ?_
   refine DD.vf 1 rfl rfl rfl rfl rfl (Vf.load rfl rfl rfl (f6)) ?_
   refine DD.vf 2 rfl rfl rfl rfl rfl (Vf.load rfl rfl rfl (f5)) ?_
   refine DD.vf 3 rfl rfl rfl rfl rfl (Vf.load rfl rfl rfl (f6)) ?_
   refine DD.run' [4, 5] rfl ?_
   refine DD.vf 6 rfl rfl rfl rfl rfl (Vf.idxF rfl rfl rfl rfl rfl rfl (hi3)) ?_
   refine DD.run' [8, 9, 11, 12] rfl ?_
   have g7 : L2.cell? ((Addr.add ⟨bz, 0, none⟩ 7).add (i * 1)) = some v := by
    rw [add_of, add_of, Nat.zero_add, Nat.mul_one]
    refine cell_of g1' ((svT_get hi3).trans ?_)
    rw [if_pos rfl]
   refine DD.act 7 rfl rfl rfl rfl rfl (Ef.val rfl (Vf.load rfl rfl rfl g7)) ((by rintro _ _ _ ⟨rfl, rfl, rfl⟩; exact ⟨less_le _ _, rfl, .inl rfl⟩)) ?_
   rintro _ _ _ ⟨rfl, rfl, hq⟩
   obtain rfl := hq.symm
   clear hq
   have hgr : Grow (L2.less ob.toList) 2 30 encSt L2 v pre := ⟨less_le _ _, ob, g2', fun b hb => less_none (by rw [hb]; simp)⟩
   have hlen : pre.length + 1 ≤ 1073741824 := by
    have h1 := stands_len hok hs c
    rw [hx, List.length_append, List.length_cons] at h1
    omega
   refine DD.act 10 rfl rfl rfl rfl rfl (Ef.grow rfl rfl rfl rfl rfl rfl rfl rfl rfl encSt_len (fun x u hu => by simp [encSt] at hu; rcases hu with rfl | rfl <;> rfl) hgr (ls := [x]) (.own rfl rfl rfl rfl) hlen) ((by rintro _ _ _ ⟨_, rfl, rfl, hg, _⟩; exact ⟨hls.trans hg.1, rfl, .inl rfl⟩)) ?_
   rintro _ _ _ ⟨v', rfl, rfl, hg, hdom⟩
   rename_i L4
   obtain ⟨hg1, ob', ho', hn'⟩ := hg
   have mz : bz ∉ ob.toList := fun hm => nbo bz (Option.mem_toList.1 hm) rfl
   have g4 : L4 bz = some (.cells (svT s p ha hc hs (.map (some mr)) (fun j => if j = i then v else T j)) 142, true) := hg1 _ _ (by rw [less_get mz]; exact g1')
   have ho4 : ∀ b, ob' = some b → b ≠ bz := fun b hb e => by
    obtain ⟨cp, cc, _, w2, _⟩ : Own L4 2 30 v' (pre ++ [x]).length ((pre ++ [x]).flatMap encSt) (some b) := hb ▸ ho'
    rw [e, g4] at w2; cases w2
   obtain ⟨av, cv, rfl, hcv⟩ := ho'.slice
   refine DD.vf 13 rfl rfl rfl rfl rfl (Vf.idxF rfl rfl rfl rfl rfl rfl (hi3)) ?_
   have hx13 : (Addr.add ⟨bz, 0, none⟩ 7).add (i * 1) = ⟨bz, 7 + i, none⟩ := by rw [add_of, add_of, Nat.zero_add, Nat.mul_one]
   have hput : ∀ v' : Value, (svT s p ha hc hs (.map (some mr)) (fun j => if j = i then v' else if j = i then v else T j)) = svT s p ha hc hs (.map (some mr)) (fun j => if j = i then v' else T j) := fun v' => by
    congr 1; funext j; split <;> simp_all
   refine DD.act 14 rfl rfl rfl rfl rfl (Ef.stoF (congrArg (fun a => some (SV.v (.pointer (some a)))) hx13) ⟨_, rfl, rfl⟩ rfl g4 rfl (by show 7 + i + 1 ≤ 11; omega) (singles rfl)) ((by rintro _ _ _ ⟨rfl, rfl, rfl⟩; exact ⟨less_put (hls.trans hg1) (List.mem_cons_self ..), rfl, .inl rfl⟩)) ?_
   rintro _ _ _ ⟨rfl, rfl, rfl⟩
   refine .fin rfl ?_
   refine W.go 99 rfl ?_
   have hlo : l ∉ ob.toList := fun hm => nlo l (Option.mem_toList.1 hm) rfl
   have hdo : d ∉ ob.toList := fun hm => by
    obtain ⟨cp, cc, _, w2, _⟩ : Own L2 2 30 v pre.length (pre.flatMap encSt) (some d) := (Option.mem_toList.1 hm) ▸ g2'
    rw [r2] at w2; cases w2
   have hdz : d ≠ bz := fun e => by rw [e, g1'] at r2; cases r2
   have hl4 : Le (L3.but bz) L4 := fun b o ho => hg1 b o (by
    rw [less_get (fun hm => by rw [g3 b (Option.mem_toList.1 hm)] at ho; cases ho)]
    exact hl2 _ _ ho)
   refine hcont _ _ _ _ .nil (by rw [put_ne _ _ nlb]; exact hg1 _ _ (by rw [less_get hlo]; exact r1)) (by rw [put_ne _ _ hdz]; exact hg1 _ _ (by rw [less_get hdo]; exact r2))
    (le_put_none hl4 (by unfold LH.but; rw [if_pos rfl]) _) ⟨_, ob', calm_cells ((put_same _ _ _).trans ?_), (ho'.keep fun b hb => put_ne _ _ (ho4 b hb)).calm, fun b hb => ?_⟩
   ·have e1 := svT_put (s := s) (p := p) (ha := ha) (hc := hc) (hs := hs) (mv := .map (some mr)) (v := .slice av (pre ++ [x]).length cv) (T := fun j => if j = i then v else T j) hi3
    rw [hput] at e1
    exact congrArg (fun c => some (Obj.cells c 142 (0, 0), true)) e1
   ·have := hn' b hb
    unfold LH.less at this
    split at this
    ·rename_i hm; exact g3 b (Option.mem_toList.1 hm)
    ·exact none_of_le hl2 this
  ·rintro d l L' hl' hnl hnd ⟨v, ob, g1, g2, g3⟩ hd
   refine W.go 99 rfl ?_
   have hdz : d ≠ bz := fun e => by rw [e, g1] at hd; cases hd
   have nbo : ∀ b, ob = some b → b ≠ bz := fun b hb e => by
    obtain ⟨cp, cc, _, w2, _⟩ : Own L' 2 30 v (standsS s hs c).length ((standsS s hs c).flatMap encSt) (some b) := hb ▸ g2
    rw [e, g1] at w2; cases w2
   obtain ⟨av, cv, rfl, hcv⟩ := g2.slice
   have hFn : Le F (L'.but bz) := fun b x hx => by
    rw [but_get (fun e => by subst e; rw [hFz] at hx; cases hx)]
    exact hl' _ _ (hFb _ _ hx)
   have h1n : L1 d = none := by
    rw [but_get hdz] at hnd
    exact none_of_le (hl6.trans hl3) hnd
   refine W.again (again _ _ _ _ _ (by omega) ⟨i + 1, (fun j => if j = i then .slice av (standsS s hs c).length cv else T j), L'.but bz, rfl, by omega, hF0.trans hFn, but_le _ _, by unfold LH.but; rw [if_pos rfl], g1, ?_, ?_, ?_, rfl, rfl⟩) ⟨rfl, rfl, congrArg some (inc64 (by omega)), trivial⟩ trivial
   ·intro j cj hj hcj
    by_cases e : j = i
    ·subst e
     rw [hcc] at hcj
     cases hcj
     refine ⟨av, cv, by simp, ?_⟩
     exact (g2.keep (L' := L'.but bz) fun b hb => but_get (nbo b hb)).at encSt_len
    ·obtain ⟨ad, cap, w1, w2⟩ := hfin j cj (by omega) hcj
     exact ⟨ad, cap, by simp only [if_neg e]; exact w1, w2.le hFn⟩
   ·intro j hj
    simp only [if_neg (show j ≠ i by omega)]
    exact hnil j (by omega)
   ·refine Left.cons (hleft.le fun d' hd' => ?_) hd (none_of_le (hLF.trans hF1) h1n) (hleft.new h1n)
    exact hl' _ _ (by rw [but_get (fun e => by rw [e, hz] at hd'; cases hd')]; exact hl3 _ _ (hl6 _ _ hd'))
  ·rintro d l j L' - - - hF -
   exact hF.elim
 ·have hie : i = s.cones.length := by simp at e1; omega
  subst hie
  have hLF : Le L F := (Le.put hmr _).trans ((Le.put (none_of_le (Le.put hbz _) hb5) _).trans hF0)
  have h5F : F b5 = some (.cells #[pt bz] 101, true) := hF0 _ _ (put_same _ _ _)
  have h5m : b5 ≠ mr := fun e => by
   subst e
   rw [put_ne _ _ h5z, put_same] at hb5; cases hb5
  have hmF : F mr = some (.map #[] 0, true) := hF0 _ _ (by rw [put_ne _ _ h5m.symm]; exact put_same _ _ _)
  have hbzL : L bz = none := none_of_le hLF hFz
  refine W.vf rfl rfl rfl rfl (Vf.load rfl rfl rfl (cell_of (hF1 _ _ h5F) rfl)) ?_
  refine W.go 99 rfl ?_
  refine W.out (by rw [r.ro]) (.inr .ret) (WM.drain rfl hleft fun L9 hL9 => WM.ret r rfl rfl ?_)
  refine ⟨⟨bz, s, p, ha, hc, hs, T 0, T 1, T 2, .map (some mr)⟩, mr, (fun b => if b = bz then L1 bz else if b = mr then none else if L b ≠ none then L b else F.calm b), rfl, rfl, rfl, rfl, ?_, ?_, by simp only [if_neg hzm.symm, if_true], ?_, ?_⟩
  ·intro b x hx
   have n1 : b ≠ bz := fun e => by rw [e, hbzL] at hx; cases hx
   have n2 : b ≠ mr := fun e => by rw [e, hmr] at hx; cases hx
   simp only [if_neg n1, if_neg n2, hx]; simp
  ·intro b x hx
   simp only at hx
   split at hx
   ·rename_i e; subst e
    rw [hL9 b (.inr (by rw [hz]; intro e; cases e))]; exact hx
   ·split at hx
    ·cases hx
    ·split at hx
     ·rename_i hb
      rw [hL9 b (.inl hb)]
      exact hF1 _ _ (hLF _ _ hx)
     ·have h1 := hF1 _ _ (calm_le _ _ _ hx)
      rw [hL9 b (.inr (fun e => ?_))]
      ·exact h1
      ·rw [h1] at e
       cases e
       unfold LH.calm at hx
       split at hx <;> simp_all
  ·have hl0 : Le L (fun b => if b = bz then L1 bz else if b = mr then none else if L b ≠ none then L b else F.calm b) := fun b x hx => by
    have n1 : b ≠ bz := fun e => by rw [e, hbzL] at hx; cases hx
    have n2 : b ≠ mr := fun e => by rw [e, hmr] at hx; cases hx
    simp only [if_neg n1, if_neg n2, hx]; simp
   have hcell : ∀ a v, F.cell? a = some v → LH.cell? (fun b => if b = bz then L1 bz else if b = mr then none else if L b ≠ none then L b else F.calm b) a = some v := fun a v ha => by
    have n1 : a.block ≠ bz := fun e => by unfold LH.cell? at ha; rw [e, hFz] at ha; cases ha
    have n2 : a.block ≠ mr := fun e => by unfold LH.cell? at ha; rw [e, hmF] at ha; cases ha
    by_cases hb : L a.block = none
    ·have := calm_cell ha
     unfold LH.cell? at this ⊢
     simp only [if_neg n1, if_neg n2, hb, ne_eq, not_true_eq_false, if_false]
     exact this
    ·unfold LH.cell? at ha ⊢
     simp only [if_neg n1, if_neg n2, ne_eq, hb, not_false_eq_true, if_true]
     cases hx : L a.block with
     | none => exact absurd hx hb
     | some x => rw [hLF _ _ hx] at ha; exact ha
   refine ⟨⟨⟨true, by simp only [if_true]; exact hz⟩, h.le hl0, hh.le hl0, hok, hhk⟩, fun j cj hj => ?_, hgl.le hl0⟩
   have hjl := (List.getElem?_eq_some_iff.1 hj).1
   obtain ⟨ad, cap, w1, w2⟩ := hfin j cj hjl hj
   refine ⟨ad, cap, ?_, fun i' x hx => let ⟨a, e1, e2⟩ := w2 i' x hx; ⟨a, e1, fun jj v hv => hcell _ _ (e2 jj v hv)⟩⟩
   rw [← w1]
   simp only at hjl
   obtain rfl | rfl | rfl : j = 0 ∨ j = 1 ∨ j = 2 := by omega
   all_goals rfl
  ·rw [hL9 mr (.inr (by rw [hF1 _ _ hmF]; intro e; cases e))]
   exact hF1 _ _ hmF
end Go.Mz


set_option maxRecDepth 100000
namespace Go.Mz
open Go.Conc Go.Proofs
variable {X : Logic Tryz.prog}
def openE (s : St) (hs is ds : List Int) : Int :=
 if firstE [checkE s, heatsE s hs] ≠ 0 then firstE [checkE s, heatsE s hs] else if (is.all fun i => inB i 0 ((s.cones.length : Int) - 1)) && ds.all fun d => inB d 0 (s.days - 1) then 0 else 3
structure AskAt (L : LH) (s : St) (p : Pt) (ha : Option Addr) (hs : List Int) : Prop where
 st : StAt L s p
 he : IntsAt L ha hs
 gl : GlOk L
 hn : hs.length ≤ 140737488355328
theorem ints2 {L : LH} {b : Nat} {x y : Int} {t : TypeId} (h : L b = some (.cells #[.int .i64 x, .int .i64 y] t (0, 0), true)) : IntsAt L (some ⟨b, 0, none⟩) [x, y] := fun i z hz => ⟨_, rfl, fun j v hv => by
 rw [add_of, Nat.zero_add]
 refine cell_of h ?_
 match i, hz, j, hv with
 | 0, hz, 0, hv => cases hz; cases hv; rfl
 | 1, hz, 0, hv => cases hz; cases hv; rfl⟩
theorem open_sp (s : St) (p : Pt) (ha a2 a3 : Option Addr) (hc c2 c3 : Nat) (hs is ds : List Int) (L : LH) (h : AskAt L s p ha hs) (h2 : IntsAt L a2 is) (h3 : IntsAt L a3 ds) (hn2 : is.length ≤ 1000000) (hn3 : ds.length ≤ 1000000) :
  Sp X 82 [stA s p, .slice ha hs.length hc, .slice a2 is.length c2, .slice a3 ds.length c3] L (fun v L' =>
   (openE s hs is ds ≠ 0 ∧ v = .tuple #[.pointer none, .int .i64 (openE s hs is ds)] ∧ Le L L') ∨ (openE s hs is ds = 0 ∧ ∃ u, v = .tuple #[u, .int .i64 0] ∧ StoveNew s p ha hc hs L u L')) := by
 refine Sp.enter (n := 57) Tryz.func82 rfl rfl rfl rfl fun C hX _ hL0 r => ?_
 refine W.go 99 rfl ?_
 refine W.drawn (by kernel_rfl) _ (Le.refl _) ?_
 refine DD.run' [0, 2, 3] rfl ?_
 refine DD.act 1 rfl rfl rfl rfl rfl (Ef.call rfl (Check_sp s p L h.st)) (by rintro _ _ _ ⟨_, rfl, rfl, rfl, rfl⟩; exact ⟨Le.refl _, rfl, .inl rfl⟩) ?_
 rintro _ _ _ ⟨_, rfl, rfl, rfl, rfl⟩
 refine DD.act 4 rfl rfl rfl rfl rfl (Ef.call rfl (checkHeats_sp s p ha hc hs L h.he h.hn)) (by rintro _ _ _ ⟨_, rfl, rfl, rfl, rfl⟩; exact ⟨Le.refl _, rfl, .inl rfl⟩) ?_
 rintro _ _ _ ⟨_, rfl, rfl, rfl, rfl⟩
 refine DD.run' [5] rfl ?_
 refine DD.act 6 rfl rfl rfl rfl rfl (Ef.pub 20 (.inr ⟨_, _, _, rfl⟩) rfl rfl (fun b hb _ => Ef.call rfl (first_sp (some ⟨b, 0, none⟩) 2 [checkE s, heatsE s hs] _ (ints2 (put_same _ _ _)) (by simp)))) ((by rintro _ _ _ ⟨b, hb, _, _, rfl, rfl, rfl, rfl⟩; exact ⟨Le.put hb _, rfl, .inl rfl⟩)) ?_
 rintro _ _ _ ⟨b, hb, _, _, rfl, rfl, rfl, rfl⟩
 refine DD.run' [7] rfl ?_
 refine .fin rfl ?_
 refine W.go 99 rfl ?_
 have hl1 : Le L (L.put b (.cells #[.int .i64 (checkE s), .int .i64 (heatsE s hs)] 44)) := Le.put hb _
 generalize hL1 : L.put b (.cells #[.int .i64 (checkE s), .int .i64 (heatsE s hs)] 44) = L1 at hl1
 refine W.split rfl rfl rfl (fun e1 => ?_) (fun e1 => ?_)
 ·refine W.go 99 rfl ?_
  refine W.ret r rfl rfl ?_
  have e1' : firstE [checkE s, heatsE s hs] ≠ 0 := by simpa using e1
  have e2 : openE s hs is ds = firstE [checkE s, heatsE s hs] := by unfold openE; rw [if_pos e1']
  exact .inl ⟨by rw [e2]; exact e1', by rw [e2]; rfl, hl1⟩
 have e1' : ¬ firstE [checkE s, heatsE s hs] ≠ 0 := by simpa using e1
 have e1z : firstE [checkE s, heatsE s hs] = 0 := by simpa using e1
 obtain ⟨hk1, hk2⟩ : checkE s = 0 ∧ heatsE s hs = 0 := by
  unfold firstE at e1z
  split at e1z
  ·contradiction
  ·rename_i n1
   unfold firstE at e1z
   split at e1z
   ·contradiction
   ·rename_i n2
    exact ⟨by simpa using n1, by simpa using n2⟩
 have hok := ok_iff.1 hk1
 have hhk := hok_of hk2
 have hdy := hok.d4
 have hdy1 := hok.d1
 have hop : openE s hs is ds = if (is.all fun i => inB i 0 ((s.cones.length : Int) - 1)) && ds.all fun d => inB d 0 (s.days - 1) then 0 else 3 := by unfold openE; rw [if_neg e1']
 clear hL1
 refine W.goP [28] 99 rfl ?_
 refine W.pub 27 (.inr ⟨_, _, _, rfl⟩) rfl rfl ?_
 intro b27 hb27 _
 refine W.go 99 rfl ?_
 have hl2 := hl1.trans (Le.put hb27 (.cells #[.slice a2 is.length c2, .slice a3 ds.length c3] 28))
 have g27 := put_same L1 b27 (.cells #[.slice a2 is.length c2, .slice a3 ds.length c3] 28)
 generalize hL2 : L1.put b27 (.cells #[.slice a2 is.length c2, .slice a3 ds.length c3] 28) = L2 at hl2 g27
 have hlA : s.cones.length ≤ 140737488355328 := h.st.l2
 refine W.loop (fun m E B L' => ∃ (i : Nat), m = 2 - i ∧ i ≤ 2 ∧ L2 = L' ∧ (1 ≤ i → (is.all fun i => inB i 0 ((s.cones.length : Int) - 1)) = true) ∧ (2 ≤ i → (ds.all fun d => inB d 0 (s.days - 1)) = true) ∧
   E = [(1, .v (.slice ha hs.length hc)), (4, .p 0 0), (27, .v (.slice (some ⟨b27, 0, none⟩) 2 2)), (28, .v (.int .i64 2)), (29, .v (.int .i64 i))] ∧ B = [some ⟨cellsS (.v (stA s p)), 25⟩])
  ⟨0, rfl, by omega, rfl, fun h => by omega, fun h => by omega, rfl, rfl⟩ (by exact ⟨rfl, rfl, rfl, rfl, rfl, trivial⟩) (by exact ⟨rfl, trivial⟩) ?_
 rintro _ _ _ _ ⟨i, rfl, hi, rfl, hd1, hd2, rfl, rfl⟩ again
 refine W.go 99 rfl ?_
 refine W.split rfl rfl rfl (fun e2 => W.go 99 rfl ?_) (fun e2 => W.go 99 rfl ?_)
 ·have hi2 : i < 2 := by simp at e2; omega
  refine W.vf rfl rfl rfl rfl (Vf.idx1 rfl rfl rfl rfl rfl rfl rfl (hi2)) ?_
  obtain ⟨ad, cap, xs, bd, hxs, hbd, hbd0, hcell, hall, hdn⟩ : ∃ (ad : Option Addr) (cap : Nat) (xs : List Int) (bd : Int), IntsAt L2 ad xs ∧ [Value.int .i64 s.cones.length, .int .i64 s.days][i]? = some (.int .i64 bd) ∧ (-140737488355328 ≤ bd ∧ bd ≤ 140737488355328) ∧ L2.cell? ⟨b27, i, none⟩ = some (.slice ad xs.length cap) ∧ xs.length ≤ 1000000 ∧
    ((xs.all fun x => inB x 0 (bd - 1)) = true → (1 ≤ i + 1 → (is.all fun i => inB i 0 ((s.cones.length : Int) - 1)) = true) ∧ (2 ≤ i + 1 → (ds.all fun d => inB d 0 (s.days - 1)) = true)) ∧ ((xs.all fun x => inB x 0 (bd - 1)) = false → openE s hs is ds = 3) := by
   obtain rfl | rfl : i = 0 ∨ i = 1 := by omega
   ·refine ⟨a2, c2, is, s.cones.length, h2.le hl2, rfl, by omega, cell_of g27 rfl, hn2, fun hx => ⟨fun _ => hx, fun h => by omega⟩, fun hx => ?_⟩
    rw [hop, hx]; rfl
   ·refine ⟨a3, c3, ds, s.days, h3.le hl2, rfl, by omega, cell_of g27 rfl, hn3, fun hx => ⟨fun _ => hd1 (Nat.le_refl _), fun _ => hx⟩, fun hx => ?_⟩
    rw [hop, hx, Bool.and_false]; rfl
  obtain ⟨hdn, hbad⟩ := hdn
  have hcell' : L2.cell? (Addr.add ⟨b27, 0, none⟩ i) = some (.slice ad xs.length cap) := by rw [add_of, Nat.zero_add]; exact hcell
  refine W.vf rfl rfl rfl rfl (Vf.load rfl rfl rfl (hcell')) ?_
  refine W.go 99 rfl ?_
  refine W.loop (fun m E B L' => ∃ (j : Nat), m = xs.length - j ∧ j ≤ xs.length ∧ L2 = L' ∧ ((xs.take j).all fun x => inB x 0 (bd - 1)) = true ∧
    E = [(1, .v (.slice ha hs.length hc)), (4, .p 0 0), (11, .v (.int .i64 i)), (27, .v (.slice (some ⟨b27, 0, none⟩) 2 2)), (28, .v (.int .i64 2)), (29, .v (.int .i64 i)), (34, .v (.slice ad xs.length cap)), (35, .v (.int .i64 xs.length)), (36, .v (.int .i64 j))] ∧ B = [some ⟨cellsS (.v (stA s p)), 25⟩])
   ⟨0, rfl, by omega, rfl, rfl, rfl, rfl⟩ (by exact ⟨rfl, rfl, rfl, rfl, rfl, rfl, rfl, rfl, rfl, trivial⟩) (by exact ⟨rfl, trivial⟩) ?_
  rintro _ _ _ _ ⟨j, rfl, hj, rfl, hdj, rfl, rfl⟩ again2
  refine W.go 99 rfl ?_
  refine W.split rfl rfl rfl (fun e3 => W.go 99 rfl ?_) (fun e3 => W.go 99 rfl ?_)
  ·have hjl : j < xs.length := by simpa using e3
   obtain ⟨xa, rfl⟩ := hxs.addr hjl
   have htk : xs.take (j + 1) = xs.take j ++ [xs[j]] := List.take_succ_eq_append_getElem hjl
   refine W.vf rfl rfl rfl rfl (Vf.idx1 rfl rfl rfl rfl rfl rfl rfl (hjl)) ?_
   refine W.vf rfl rfl rfl rfl (Vf.load rfl rfl rfl (hxs.int (List.getElem?_eq_getElem hjl))) ?_
   refine W.go 99 rfl ?_
   refine W.vf rfl rfl rfl rfl (Vf.index rfl rfl rfl Tryz.underlying156 size3 agg3 hi2 hbd) ?_
   refine W.go 99 rfl ?_
   rw [wrap64_in _ (by omega) (by omega)]
   refine W.eff rfl rfl rfl (Ef.call rfl (within_sp _ _ _ _)) ?_
   rintro _ _ _ ⟨_, rfl, rfl, rfl, rfl⟩
   refine W.go 99 rfl ?_
   refine W.split rfl rfl rfl (fun e4 => W.go 99 rfl ?_) (fun e4 => W.go 99 rfl ?_)
   ·refine W.go 99 rfl ?_
    refine W.ret r rfl rfl ?_
    have hf : inB xs[j] 0 (bd - 1) = false := by simpa using e4
    have h3 := hbad (by rw [List.all_eq_false]; exact ⟨xs[j], List.getElem_mem hjl, by rw [hf]; simp⟩)
    exact .inl ⟨by rw [h3]; decide, by rw [h3]; rfl, hl2⟩
   ·have hf : inB xs[j] 0 (bd - 1) = true := by simpa using e4
    exact W.again (again2 _ _ _ _ (by omega) ⟨j + 1, rfl, by omega, rfl, by rw [htk, List.all_append, hdj]; simpa using hf, rfl, rfl⟩) ⟨rfl, rfl, rfl, rfl, rfl, rfl, rfl, rfl, congrArg some (inc64 (by omega)), trivial⟩ ⟨rfl, trivial⟩
  ·have hje : j = xs.length := by simp at e3; omega
   subst hje
   rw [List.take_length] at hdj
   obtain ⟨q1, q2⟩ := hdn hdj
   exact W.again (again _ _ _ _ (by omega) ⟨i + 1, rfl, by omega, rfl, q1, q2, rfl, rfl⟩) ⟨rfl, rfl, rfl, rfl, congrArg some (inc64 (by omega)), trivial⟩ ⟨rfl, trivial⟩
 ·have hie : i = 2 := by simp at e2; omega
  subst hie
  have h0 : openE s hs is ds = 0 := by rw [hop, hd1 (by omega), hd2 (by omega)]; rfl
  have hr := newStove_sp (X := C.X) s p ha hc hs L2 (h.st.le hl2) (h.he.le hl2) hok hhk (h.gl.le hl2)
  refine W.eff rfl rfl rfl (Ef.call rfl hr) ?_
  rintro _ _ _ ⟨v, rfl, rfl, hq⟩
  refine W.go 99 rfl ?_
  refine W.ret r rfl rfl ?_
  obtain ⟨z, mr, F, g1, g2, g3, g4, g5, g6, g7, g8, g9⟩ := hq
  exact .inr ⟨h0, _, rfl, z, mr, F, g1, g2, g3, g4, hl2.trans g5, g6, g7, g8, g9⟩
end Go.Mz


set_option maxRecDepth 100000
namespace Go.Mz
open Go.Conc Go.Proofs
variable {X : Logic Tryz.prog}
theorem ints1 {L : LH} {b : Nat} {x : Int} {t : TypeId} (h : L b = some (.cells #[.int .i64 x] t (0, 0), true)) : IntsAt L (some ⟨b, 0, none⟩) [x] := fun i z hz => ⟨_, rfl, fun j v hv => by
 rw [add_of, Nat.zero_add]
 refine cell_of h ?_
 match i, hz, j, hv with
 | 0, hz, 0, hv => cases hz; cases hv; rfl⟩
theorem ints0 {L : LH} {ad : Option Addr} : IntsAt L ad [] := fun i z hz => by simp at hz
theorem AskAt.le {L L' : LH} {s : St} {p : Pt} {ha : Option Addr} {hs : List Int} (h : AskAt L s p ha hs) (hl : Le L L') : AskAt L' s p ha hs := ⟨h.st.le hl, h.he.le hl, h.gl.le hl, h.hn⟩
def coneAt (s : St) (i : Int) : Cone := (s.cones[i.toNat]?).getD ⟨0, 0, 0, 0⟩
def FateE (s : St) (hs : List Int) (i : Int) (a : Stand) : Int × Int × Int :=
 if openE s hs [i] [] ≠ 0 then (0, 0, openE s hs [i] []) else if isStand s a then ((fateS s hs (coneAt s i) a).1, (fateS s hs (coneAt s i) a).2, 0) else (0, 0, 3)
theorem open_ok {s : St} {hs is ds : List Int} (h : openE s hs is ds = 0) : Ok s ∧ HOk s hs ∧ (∀ i ∈ is, inB i 0 ((s.cones.length : Int) - 1) = true) ∧ ∀ d ∈ ds, inB d 0 (s.days - 1) = true := by
 unfold openE at h
 split at h
 ·contradiction
 ·rename_i h1
  have h1 : firstE [checkE s, heatsE s hs] = 0 := by simpa using h1
  split at h
  ·rename_i h2
   rw [Bool.and_eq_true, List.all_eq_true, List.all_eq_true] at h2
   unfold firstE at h1
   split at h1
   ·contradiction
   ·rename_i n1
    unfold firstE at h1
    split at h1
    ·contradiction
    ·rename_i n2
     exact ⟨ok_iff.1 (by simpa using n1), hok_of (by simpa using n2), h2.1, h2.2⟩
  ·exact absurd h (by decide)
theorem Fate_sp (s : St) (p : Pt) (ha : Option Addr) (hc : Nat) (hs : List Int) (i : Int) (a : Stand) (L : LH) (h : AskAt L s p ha hs) :
  Sp X 28 [stA s p, .slice ha hs.length hc, .int .i64 i, .agg (encSt a).toArray] L (fun v L' => v = .tuple #[.int .i64 (FateE s hs i a).1, .int .i64 (FateE s hs i a).2.1, .int .i64 (FateE s hs i a).2.2] ∧ Le L L') := by
 refine Sp.enter (n := 53) Tryz.func28 rfl rfl rfl rfl fun C hX _ hL0 r => ?_
 refine W.go 99 rfl ?_
 refine W.pub 19 (.inr ⟨_, _, _, rfl⟩) rfl rfl ?_
 intro b hb _
 have hl := Le.put hb (.cells #[.int .i64 i] 3)
 have hr := open_sp (X := C.X) s p ha (some ⟨b, 0, none⟩) none hc 1 0 hs [i] [] _ (h.le hl) (ints1 (put_same _ _ _)) ints0 (by simp) (by simp)
 refine W.eff rfl rfl rfl (Ef.call rfl (hr)) ?_
 rintro _ _ _ ⟨_, rfl, rfl, hq⟩
 rcases hq with ⟨h0, rfl, hle⟩ | ⟨h0, u, rfl, z, mr, F, rfl, rfl, rfl, hmv, hLF, hFL, hFm, hsv, hmr⟩
 ·refine W.go 99 rfl ?_
  refine W.split rfl rfl rfl (fun e1 => W.go 99 rfl ?_) (fun e1 => W.go 99 rfl ?_)
  ·refine W.ret r rfl rfl ?_
   unfold FateE
   rw [if_pos h0]
   exact ⟨rfl, hl.trans hle⟩
  ·simp at e1; exact absurd e1 h0
 ·refine W.go 99 rfl ?_
  rename_i L2
  refine W.split rfl rfl rfl (fun c => absurd c (by decide)) (fun c => ?_)
  refine W.go 99 rfl ?_
  have hv := hsv.le hFL
  obtain ⟨hok, hhk, hin, _⟩ := open_ok h0
  have hii := hin i (List.mem_cons_self ..)
  have hs3 := hok.s3
  have hd4 := hok.d4
  have hd1 := hok.d1
  have hlen := hhk.len
  have hi0 : 0 ≤ i ∧ i.toNat < z.s.cones.length := by unfold inB at hii; simp at hii; omega
  have hFa : FateE z.s z.hs i a = if isStand z.s a then ((fateS z.s z.hs (coneAt z.s i) a).1, (fateS z.s z.hs (coneAt z.s i) a).2, 0) else (0, 0, 3) := by unfold FateE; rw [if_neg (by rw [h0]; simp)]
  rw [wrap64_in _ (by omega) (by omega)]
  refine W.eff rfl rfl rfl (Ef.call rfl (within_sp _ _ _ _)) ?_
  rintro _ _ _ ⟨_, rfl, rfl, rfl, rfl⟩
  refine W.go 99 rfl ?_
  refine W.split rfl rfl rfl (fun e1 => W.go 99 rfl ?_) (fun e1 => W.go 99 rfl ?_)
  ·refine W.ret r rfl rfl ?_
   have hns : isStand z.s a = false := by unfold isStand; simp at e1; rw [e1]; rfl
   rw [hFa, hns]
   exact ⟨rfl, hl.trans (hLF.trans hFL)⟩
  ·rw [wrap64_in _ (by omega) (by omega)]
   refine W.eff rfl rfl rfl (Ef.call rfl (within_sp _ _ _ _)) ?_
   rintro _ _ _ ⟨_, rfl, rfl, rfl, rfl⟩
   refine W.go 99 rfl ?_
   refine W.split rfl rfl rfl (fun e2 => W.go 99 rfl ?_) (fun e2 => W.go 99 rfl ?_)
   ·refine W.ret r rfl rfl ?_
    have hns : isStand z.s a = false := by unfold isStand; simp at e2; rw [e2, Bool.and_false]
    rw [hFa, hns]
    exact ⟨rfl, hl.trans (hLF.trans hFL)⟩
   ·have hst : isStand z.s a = true := by unfold isStand; simp at e1 e2; rw [e1, e2]; rfl
    have hsa : 0 ≤ a.shelf ∧ a.shelf.toNat < z.s.shelves.length ∧ 0 ≤ a.day ∧ a.day.toNat < z.hs.length := by
     unfold isStand inB at hst; simp at hst; omega
    obtain ⟨a1, a2⟩ := a
    obtain ⟨k, rfl⟩ := Int.eq_ofNat_of_zero_le hsa.1
    obtain ⟨d, rfl⟩ := Int.eq_ofNat_of_zero_le hsa.2.2.1
    obtain ⟨i', rfl⟩ := Int.eq_ofNat_of_zero_le hi0.1
    simp only [Int.toNat_natCast] at hsa hi0
    have hce : coneAt z.s i' = z.s.cones[i'] := by unfold coneAt; rw [Int.toNat_natCast, List.getElem?_eq_getElem hi0.2]; rfl
    have hfe := fate_ends (s := z.s) (hs := z.hs) (c := z.s.cones[i']) (k := k) (d := d)
    refine W.eff rfl rfl rfl (Ef.call rfl (fate_sp z.b z.s z.p z.ha z.hc z.hs z.t0 z.t1 z.t2 z.mv _ _ i' k d hsa.2.2.2 (List.getElem?_eq_getElem hi0.2) (List.getElem?_eq_getElem hsa.2.1) L2 hv.sv hv.gl)) ?_
    rintro _ _ _ ⟨_, rfl, rfl, rfl, hle4⟩
    refine W.go 99 rfl ?_
    refine W.eff rfl rfl rfl (tell_ef (fateS z.s z.hs z.s.cones[i'] ⟨k, d⟩) hfe.1 hfe.2 rfl) ?_
    rintro _ _ _ ⟨_, rfl, rfl, rfl, rfl⟩
    refine W.go 99 rfl ?_
    refine W.ret r rfl rfl ?_
    rw [hFa, hst, hce]
    exact ⟨rfl, hl.trans (hLF.trans (hFL.trans hle4))⟩
end Go.Mz


set_option maxRecDepth 100000
namespace Go.Mz
open Go.Conc Go.Proofs
variable {X : Logic Tryz.prog}
def lostB (s : St) (hs : List Int) (i : Nat) : Bool := match s.cones[i]? with | some c => (standsS s hs c).isEmpty | none => false
end Go.Mz


set_option maxRecDepth 100000
namespace Go.Mz
open Go.Conc Go.Proofs
variable {X : Logic Tryz.prog}
def lessC (a b : List Nat) : Bool := decide (a.length < b.length) || (a.length == b.length && decide (cmpL (natI a) (natI b) < 0))
def takeC (b : Option (List Nat)) (l : List Nat) : Option (List Nat) := match b with
 | none => some l
 | some k => if lessC l k then some l else some k
def crowdStep (s : St) (hs : List Int) (b : Option (List Nat)) (m : Nat) : Option (List Nat) := if driesS s hs (fun i => m.testBit i) then b else takeC b (bitsL m)
def crowdS (s : St) (hs : List Int) : Option (List Nat) := (List.range (2 ^ s.cones.length)).foldl (crowdStep s hs) none
theorem bm_self {m : Nat} (h : m < 8) : bm (fun i => m.testBit i) = m := by
 match m, h with
 | 0, _ | 1, _ | 2, _ | 3, _ | 4, _ | 5, _ | 6, _ | 7, _ => decide
theorem bits_ne {m : Nat} (h : m < 8) (h0 : m ≠ 0) : bitsL m ≠ [] := by
 match m, h with
 | 0, _ => contradiction
 | 1, _ | 2, _ | 3, _ | 4, _ | 5, _ | 6, _ | 7, _ => decide
def BestC (L : LH) (b : Option (List Nat)) (v : Value) : Prop := match b with
 | none => v = .slice none 0 0
 | some l => ∃ a cap, v = .slice (some a) (natI l).length cap ∧ IntsAt L (some a) (natI l) ∧ l.length ≤ 3 ∧ (natI l).length ≤ cap
theorem BestC.le {L L' : LH} {b : Option (List Nat)} {v : Value} (hl : Le L L') (h : BestC L b v) : BestC L' b v := by
 cases b with
 | none => exact h
 | some l => obtain ⟨a, cap, h1, h2, h3⟩ := h; exact ⟨a, cap, h1, h2.le hl, h3⟩
theorem grow_none {s : St} (h3 : s.cones.length ≤ 3) (hs : List Int) : ∀ (n : Nat) (b : List Stand), fitsS s hs b = true → grow (fitsS s hs) (List.replicate n [none1]) b ≠ []
 | 0, b, _ => by simp [grow]
 | n + 1, b, h => by
  rw [List.replicate_succ, grow, List.flatMap_cons, List.flatMap_nil, List.append_nil, if_pos (by rw [fits_none h3]; exact h)]
  exact grow_none h3 hs n _ (by rw [fits_none h3]; exact h)
theorem dries_none {s : St} (h : Ok s) {hs : List Int} : driesS s hs (fun _ => false) = true := by
 have e : optsS s hs (fun _ => false) true = List.replicate s.cones.length [none1] := by
  unfold optsS
  rw [List.eq_replicate_iff]
  refine ⟨by simp, fun x hx => ?_⟩
  rw [List.mem_map] at hx
  obtain ⟨y, _, rfl⟩ := hx
  rfl
 unfold driesS plansS
 rw [e]
 have := grow_none h.c3 hs s.cones.length [] (fits_nil h hs)
 cases hh : grow (fitsS s hs) (List.replicate s.cones.length [none1]) [] with
 | nil => exact absurd hh this
 | cons _ _ => rfl
def CrowdE (s : St) (hs : List Int) : List Int × Int :=
 if openE s hs [] [] ≠ 0 then ([], openE s hs [] []) else match crowdS s hs with
 | none => ([], 11)
 | some l => (natI l, 0)
theorem Crowd_sp (s : St) (p : Pt) (ha : Option Addr) (hc : Nat) (hs : List Int) (L : LH) (h : AskAt L s p ha hs) :
  Sp X 50 [stA s p, .slice ha hs.length hc] L (fun v L' => ∃ u, v = .tuple #[u, .int .i64 (CrowdE s hs).2] ∧ NewSl L 1 encI (CrowdE s hs).1 u L') := by
 refine Sp.enter (n := 61) Tryz.func50 rfl rfl rfl rfl fun C hX _ hL0 r => ?_
 refine W.go 99 rfl ?_
 have hr := open_sp (X := C.X) s p ha none none hc 0 0 hs [] [] L h ints0 ints0 (by simp) (by simp)
 refine W.eff rfl rfl rfl (Ef.call rfl (hr)) ?_
 rintro _ _ _ ⟨_, rfl, rfl, hq⟩
 rcases hq with ⟨h0, rfl, hle⟩ | ⟨h0, u, rfl, z, mr, F, rfl, rfl, rfl, hmv, hLF, hFL, hFm, hsv, hmr⟩
 ·refine W.go 99 rfl ?_
  refine W.split rfl rfl rfl (fun e1 => W.go 99 rfl ?_) (fun e1 => W.go 99 rfl ?_)
  ·refine W.ret r rfl rfl ?_
   exact ⟨_, by unfold CrowdE; rw [if_pos h0]; rfl, by unfold CrowdE; rw [if_pos h0]; exact ⟨none, 0, rfl, hle, ints0, Nat.le_refl _⟩⟩
  ·simp at e1; exact absurd e1 h0
 ·rename_i L2
  refine W.go 99 rfl ?_
  refine W.split rfl rfl rfl (fun c => absurd c (by decide)) (fun c => ?_)
  refine W.go 99 rfl ?_
  have hv := hsv.le hFL
  obtain ⟨hok, hhk, _, _⟩ := open_ok h0
  have hc3 := hok.c3
  have hsh : SV.v (.int .i64 (IntKind.i64.wrap (1 * 2 ^ min z.s.cones.length IntKind.i64.bits))) = .v (.int .i64 ((2 ^ z.s.cones.length : Nat) : Int)) := by
   obtain e | e | e | e : z.s.cones.length = 0 ∨ z.s.cones.length = 1 ∨ z.s.cones.length = 2 ∨ z.s.cones.length = 3 := by omega
   all_goals rw [e]; rfl
  rw [hsh]
  generalize hM : 2 ^ z.s.cones.length = M
  have hM8 : M ≤ 8 := by
   rw [← hM]
   obtain e | e | e | e : z.s.cones.length = 0 ∨ z.s.cones.length = 1 ∨ z.s.cones.length = 2 ∨ z.s.cones.length = 3 := by omega
   all_goals rw [e]; decide
  refine W.loop (fun k E B L' => ∃ (m : Nat) (v8 : Value), k = M - m ∧ m ≤ M ∧ Le L2 L' ∧ BestC L' ((List.range m).foldl (crowdStep z.s z.hs) none) v8 ∧
    E = [(6, .v (pt z.b)), (8, .v v8), (23, .v (.int .i64 M)), (24, .v (.int .i64 m))] ∧ B = [])
   ⟨0, .slice none 0 0, rfl, by omega, Le.refl _, rfl, rfl, rfl⟩ (by exact ⟨rfl, rfl, rfl, rfl, trivial⟩) trivial ?_
  rintro _ _ _ L3 ⟨m, v8, rfl, hm, hle3, hbest, rfl, rfl⟩ again
  refine W.go 99 rfl ?_
  refine W.split rfl rfl rfl (fun e1 => W.go 99 rfl ?_) (fun e1 => W.go 99 rfl ?_)
  ·have hml : m < M := by simpa using e1
   have hu8 : IntKind.u8.wrap (m : Int) = m := by
    obtain ⟨j, hj⟩ : ∃ j, j = m := ⟨m, rfl⟩
    have : m < 8 := by omega
    match m, this with
    | 0, _ | 1, _ | 2, _ | 3, _ | 4, _ | 5, _ | 6, _ | 7, _ => decide
   rw [hu8]
   have hm8 : m < 8 := by omega
   refine W.eff rfl rfl rfl (Ef.call rfl (list_sp m hm8 _)) ?_
   rintro _ _ _ ⟨_, rfl, rfl, a10, c10, rfl, hle4, hs10, hcap⟩
   refine W.go 99 rfl ?_
   rw [hu8]
   rename_i L4
   have hd := dries_sp (X := C.X) z (fun i => m.testBit i) L4 (hv.le (hle3.trans hle4))
   rw [bm_self hm8] at hd
   refine W.eff rfl rfl rfl (Ef.call rfl (hd)) ?_
   rintro _ _ _ ⟨_, rfl, rfl, rfl, hle5⟩
   refine W.go 99 rfl ?_
   have hst : (List.range (m + 1)).foldl (crowdStep z.s z.hs) none = crowdStep z.s z.hs ((List.range m).foldl (crowdStep z.s z.hs) none) m := by rw [List.range_succ, List.foldl_append]; rfl
   refine W.split rfl rfl rfl (fun e2 => ?_) (fun e2 => ?_)
   ·refine W.go 99 rfl ?_
    exact W.again (again _ _ _ _ (by omega) ⟨m + 1, v8, rfl, by omega, hle3.trans (hle4.trans hle5), by rw [hst, crowdStep, if_pos e2]; exact hbest.le (hle4.trans hle5), rfl, rfl⟩) ⟨rfl, rfl, rfl, congrArg some (inc64 (by omega)), trivial⟩ trivial
   ·have hm0 : m ≠ 0 := fun e => by
     subst e
     rw [show (fun i => Nat.testBit 0 i) = (fun _ => false) by funext i; simp, dries_none hok] at e2
     cases e2
    have hbn := bits_ne hm8 hm0
    have hlb : (bitsL m).length ≤ 3 := by unfold bitsL; exact Nat.le_trans (List.length_filter_le _ _) (by simp)
    have hln : (natI (bitsL m)).length = (bitsL m).length := by simp [natI]
    obtain ⟨ab, rfl⟩ := hs10.addr (i := 0) (by rw [hln]; exact List.length_pos_iff.2 hbn)
    rename_i L5
    have hs5 := hs10.le hle5
    have hst2 : (List.range (m + 1)).foldl (crowdStep z.s z.hs) none = takeC ((List.range m).foldl (crowdStep z.s z.hs) none) (bitsL m) := by rw [hst, crowdStep, if_neg (by rw [e2]; simp)]
    have hb5 := hbest.le (hle4.trans hle5)
    have hle25 := hle3.trans (hle4.trans hle5)
    cases hpre : (List.range m).foldl (crowdStep z.s z.hs) none with
    | none =>
     rw [hpre] at hb5 hst2
     obtain rfl : v8 = .slice none 0 0 := hb5
     refine W.go 99 rfl ?_
     refine W.split rfl rfl rfl (fun c => ?_) (fun c => absurd c (by decide))
     refine W.go 99 rfl ?_
     exact W.again (again _ _ _ _ (by omega) ⟨m + 1, _, rfl, by omega, hle25, by rw [hst2]; exact ⟨ab, c10, rfl, hs5, hlb, hcap⟩, rfl, rfl⟩) ⟨rfl, rfl, rfl, congrArg some (inc64 (by omega)), trivial⟩ trivial
    | some k =>
     rw [hpre] at hb5 hst2
     obtain ⟨a8, c8, rfl, hs8, hk3, hk4⟩ := hb5
     refine W.go 99 rfl ?_
     refine W.split rfl rfl rfl (fun c => absurd c (by simp)) (fun c => ?_)
     refine W.go 99 rfl ?_
     have hkn : (natI k).length = k.length := by simp [natI]
     have yes : lessC (bitsL m) k = true → BestC L5 ((List.range (m + 1)).foldl (crowdStep z.s z.hs) none) (.slice (some ab) (natI (bitsL m)).length c10) := fun hl => by
      rw [hst2, takeC, if_pos hl]; exact ⟨ab, c10, rfl, hs5, hlb, hcap⟩
     have no : lessC (bitsL m) k = false → BestC L5 ((List.range (m + 1)).foldl (crowdStep z.s z.hs) none) (.slice (some a8) (natI k).length c8) := fun hl => by
      rw [hst2, takeC, if_neg (by rw [hl]; simp)]; exact ⟨a8, c8, rfl, hs8, hk3, hk4⟩
     refine W.split rfl rfl rfl (fun e3 => W.go 99 rfl ?_) (fun e3 => W.go 99 rfl ?_)
     ·have hl : (bitsL m).length < k.length := by rw [hln, hkn] at e3; simp at e3; omega
      exact W.again (again _ _ _ _ (by omega) ⟨m + 1, _, rfl, by omega, hle25, yes (by unfold lessC; simp [hl]), rfl, rfl⟩) ⟨rfl, rfl, rfl, congrArg some (inc64 (by omega)), trivial⟩ trivial
     ·have hl : ¬ (bitsL m).length < k.length := by rw [hln, hkn] at e3; simp at e3; omega
      refine W.split rfl rfl rfl (fun e4 => W.go 99 rfl ?_) (fun e4 => W.go 99 rfl ?_)
      ·have hl4 : (bitsL m).length = k.length := by rw [hln, hkn] at e4; simp at e4; omega
       refine W.eff rfl rfl rfl (Ef.call rfl (Compare_sp (some ab) (some a8) c10 c8 (natI (bitsL m)) (natI k) L5 hs5 hs8 (by omega) (by omega))) ?_
       rintro _ _ _ ⟨_, rfl, rfl, rfl, rfl⟩
       refine W.go 99 rfl ?_
       refine W.split rfl rfl rfl (fun e5 => W.go 99 rfl ?_) (fun e5 => W.go 99 rfl ?_)
       ·exact W.again (again _ _ _ _ (by omega) ⟨m + 1, _, rfl, by omega, hle25, yes (by unfold lessC; simp at e5; simp [hl4, e5]), rfl, rfl⟩) ⟨rfl, rfl, rfl, congrArg some (inc64 (by omega)), trivial⟩ trivial
       ·exact W.again (again _ _ _ _ (by omega) ⟨m + 1, _, rfl, by omega, hle25, no (by unfold lessC; simp at e5; simp [hl4, e5]), rfl, rfl⟩) ⟨rfl, rfl, rfl, congrArg some (inc64 (by omega)), trivial⟩ trivial
      ·have hl4 : ¬ (bitsL m).length = k.length := by rw [hln, hkn] at e4; simp at e4; omega
       exact W.again (again _ _ _ _ (by omega) ⟨m + 1, _, rfl, by omega, hle25, no (by unfold lessC; simp [hl, hl4]), rfl, rfl⟩) ⟨rfl, rfl, rfl, congrArg some (inc64 (by omega)), trivial⟩ trivial
  ·have hme : m = M := by simp at e1; omega
   have hcr : (List.range m).foldl (crowdStep z.s z.hs) none = crowdS z.s z.hs := by unfold crowdS; rw [hme, ← hM]
   rw [hcr] at hbest
   cases hpre : crowdS z.s z.hs with
   | none =>
    rw [hpre] at hbest
    obtain rfl : v8 = .slice none 0 0 := hbest
    refine W.go 99 rfl ?_
    refine W.split rfl rfl rfl (fun c => ?_) (fun c => absurd c (by decide))
    refine W.go 99 rfl ?_
    refine W.ret r rfl rfl ?_
    exact ⟨_, by unfold CrowdE; rw [if_neg (by rw [h0]; simp), hpre]; rfl, by unfold CrowdE; rw [if_neg (by rw [h0]; simp), hpre]; exact ⟨none, 0, rfl, hLF.trans (hFL.trans hle3), ints0, Nat.le_refl _⟩⟩
   | some k =>
    rw [hpre] at hbest
    obtain ⟨a8, c8, rfl, hs8, hk3, hcap⟩ := hbest
    refine W.go 99 rfl ?_
    refine W.split rfl rfl rfl (fun c => absurd c (by simp)) (fun c => ?_)
    refine W.go 99 rfl ?_
    refine W.ret r rfl rfl ?_
    exact ⟨_, by unfold CrowdE; rw [if_neg (by rw [h0]; simp), hpre]; rfl, by unfold CrowdE; rw [if_neg (by rw [h0]; simp), hpre]; exact ⟨some a8, c8, rfl, hLF.trans (hFL.trans hle3), hs8, hcap⟩⟩
end Go.Mz


set_option maxRecDepth 100000
namespace Go.Mz
open Go.Conc Go.Proofs
variable {X : Logic Tryz.prog}
theorem grow_mem {fit : List Stand → Bool} : ∀ {os : List (List Stand)} {b x : List Stand}, x ∈ grow fit os b → ∃ t, x = b ++ t ∧ t.length = os.length ∧ ∀ (i : Nat) (o : List Stand) (a : Stand), os[i]? = some o → t[i]? = some a → a ∈ o
 | [], b, x, h => by
  rw [grow, List.mem_singleton] at h
  exact ⟨[], by simp [h], rfl, fun i o a h1 _ => by simp at h1⟩
 | o :: os, b, x, h => by
  rw [grow, List.mem_flatMap] at h
  obtain ⟨a, ha, h⟩ := h
  split at h
  ·obtain ⟨t, h1, h2, h3⟩ := grow_mem h
   refine ⟨a :: t, by rw [h1]; simp, by simp [h2], fun i o' a' g1 g2 => ?_⟩
   cases i with
   | zero => simp at g1 g2; subst g1 g2; exact ha
   | succ i => exact h3 i o' a' (by simpa using g1) (by simpa using g2)
  ·cases h
theorem grow_ne {s : St} (h3 : s.cones.length ≤ 3) (hs : List Int) : ∀ (os : List (List Stand)) (b : List Stand), fitsS s hs b = true → (∀ o ∈ os, none1 ∈ o) → grow (fitsS s hs) os b ≠ []
 | [], b, _, _ => by simp [grow]
 | o :: os, b, h, ho => by
  intro e
  rw [grow, List.flatMap_eq_nil_iff] at e
  have := e none1 (ho o (List.mem_cons_self ..))
  rw [if_pos (by rw [fits_none h3]; exact h)] at this
  exact grow_ne h3 hs os _ (by rw [fits_none h3]; exact h) (fun o' h' => ho o' (List.mem_cons_of_mem _ h')) this
theorem plan_len {s : St} {hs : List Int} {so : Nat → Bool} {each : Bool} {x : List Stand} (h : x ∈ plansS s hs so each) : x.length = s.cones.length := by
 obtain ⟨t, h1, h2, _⟩ := grow_mem h
 rw [h1, List.nil_append, h2, opts_len]
theorem plans_ne {s : St} (h : Ok s) (hs : List Int) (so : Nat → Bool) : plansS s hs so false ≠ [] := by
 refine grow_ne h.c3 hs _ _ (fits_nil h hs) fun o ho => ?_
 unfold optsS at ho
 rw [List.mem_map] at ho
 obtain ⟨y, _, rfl⟩ := ho
 simp [optS]
def lstO (f : List Stand → Int) (o : Option (List Stand)) : List Value := match o with
 | none => List.replicate 7 (.int .i64 0) ++ [.bool false]
 | some y => encP y ++ [.int .i64 (f y), .bool true]
theorem lstO_some (f : List Stand → Int) (y : List Stand) : lstO f (some y) = encP y ++ [.int .i64 (f y), .bool true] := rfl
theorem enc6 {l : List Stand} (h : l.length ≤ 3) : ∃ x0 x1 x2 x3 x4 x5 : Int, encP l = [.int .i64 x0, .int .i64 x1, .int .i64 x2, .int .i64 x3, .int .i64 x4, .int .i64 x5] := by
 obtain ⟨a, b, c, e⟩ := pad3 h
 exact ⟨a.shelf, a.day, b.shelf, b.day, c.shelf, c.day, by unfold encP; rw [e]; rfl⟩
theorem take_sp (b : Nat) (f : List Stand → Int) (o : Option (List Stand)) (x : List Stand) (L : LH) (hx : x.length ≤ 3) (ho : ∀ y, o = some y → y.length ≤ 3) (h : L b = some (.cells (lstO f o).toArray 124, true)) :
  Sp X 99 [pt b, .agg (encP x).toArray, .int .i64 (f x)] L (fun v L' => v = .tuple #[] ∧ (∀ b', b' ≠ b → L' b' = L b') ∧ L' b = some (.cells (lstO f (takeLess f o x)).toArray 124, true)) := by
 obtain ⟨x0, x1, x2, x3, x4, x5, ex⟩ := enc6 hx
 cases o with
 | none =>
  have := take_raw (X := X) b 0 0 0 0 0 0 0 x0 x1 x2 x3 x4 x5 (f x) false L h
  rw [ex]
  refine this.mono ?_ (fun _ _ h => h)
  rintro v L' ⟨h1, h2, h3⟩
  refine ⟨h1, h2, h3.trans ?_⟩
  rw [show takeLess f none x = some x from rfl, lstO_some, ex]; rfl
 | some y =>
  obtain ⟨y0, y1, y2, y3, y4, y5, ey⟩ := enc6 (ho y rfl)
  unfold lstO at h
  simp only at h
  rw [ey] at h
  have := take_raw (X := X) b y0 y1 y2 y3 y4 y5 (f y) x0 x1 x2 x3 x4 x5 (f x) true L h
  rw [ex]
  refine this.mono ?_ (fun _ _ h => h)
  rintro v L' ⟨h1, h2, h3⟩
  refine ⟨h1, h2, h3.trans ?_⟩
  by_cases hlt : f x < f y
  ·rw [if_pos (by simpa using hlt), show takeLess f (some y) x = some x from if_pos hlt]
   rw [lstO_some, ex]; rfl
  ·rw [if_neg (by simpa using hlt), show takeLess f (some y) x = some y from if_neg hlt]
   rw [lstO_some, ey]; rfl
theorem firstMin_add {α : Type} (f : α → Int) (l : List α) (x : α) : firstMin f (l ++ [x]) = takeLess f (firstMin f l) x := by unfold firstMin; rw [List.foldl_append]; rfl
theorem takeLess_mem {α : Type} {f : α → Int} {b : Option α} {x y : α} (h : takeLess f b x = some y) : y = x ∨ b = some y := by
 unfold takeLess at h
 split at h
 ·cases h; exact .inl rfl
 ·split at h
  ·cases h; exact .inl rfl
  ·exact .inr h
theorem firstMin_mem' {α : Type} {f : α → Int} : ∀ (l : List α) (b : Option α) (y : α), l.foldl (takeLess f) b = some y → y ∈ l ∨ b = some y
 | [], b, y, h => .inr h
 | x :: l, b, y, h => by
  rcases firstMin_mem' l _ y h with h | h
  ·exact .inl (List.mem_cons_of_mem _ h)
  ·rcases takeLess_mem h with rfl | h
   ·exact .inl (List.mem_cons_self ..)
   ·exact .inr h
theorem firstMin_mem {α : Type} {f : α → Int} {l : List α} {y : α} (h : firstMin f l = some y) : y ∈ l := (firstMin_mem' l none y h).resolve_right (by simp)
theorem firstMin_some' {α : Type} {f : α → Int} : ∀ (l : List α) (b : α), ∃ y, l.foldl (takeLess f) (some b) = some y
 | [], b => ⟨b, rfl⟩
 | x :: l, b => by
  rw [List.foldl_cons]
  unfold takeLess
  simp only
  split
  ·exact firstMin_some' l x
  ·exact firstMin_some' l b
theorem firstMin_some {α : Type} {f : α → Int} : ∀ {l : List α}, l ≠ [] → ∃ y, firstMin f l = some y
 | [], h => absurd rfl h
 | x :: l, _ => firstMin_some' l x
theorem calm_map {L : LH} {b : Nat} {es : Array MapEntry} {clk : Nat} {wr : Bool} (h : L b = some (.map es clk, wr)) : L.calm b = some (.map es clk, wr) := by
 unfold LH.calm; rw [h]
def negC (p : List Stand) : Int := - cnt p
theorem lead6 {L : LH} {b : Nat} {x0 x1 x2 x3 x4 x5 : Value} {t : TypeId} {ws : List Value} (h : L b = some (.cells ([x0, x1, x2, x3, x4, x5] ++ ws).toArray t (0, 0), true)) : cellsAt L ⟨b, 0, none⟩ 6 [x0, x1, x2, x3, x4, x5] :=
 ⟨rfl, fun i v hv => by
  rw [add_of, Nat.zero_add]
  refine cell_of h ?_
  rw [List.getElem?_toArray, List.getElem?_append_left (List.getElem?_eq_some_iff.1 hv).1]
  exact hv⟩
def MostE (s : St) (hs : List Int) : List Stand × Int × Int := if openE s hs [] [] ≠ 0 then ([], 0, openE s hs [] []) else (mostS s hs, cnt (mostS s hs), 0)
theorem Most_sp (s : St) (p : Pt) (ha : Option Addr) (hc : Nat) (hs : List Int) (L : LH) (h : AskAt L s p ha hs) :
  Sp X 41 [stA s p, .slice ha hs.length hc] L (fun v L' => ∃ u, v = .tuple #[u, .int .i64 (MostE s hs).2.1, .int .i64 (MostE s hs).2.2] ∧ NewSl L 2 encSt (MostE s hs).1 u L') := by
 refine Sp.enter (n := 38) Tryz.func41 rfl rfl rfl rfl fun C hX _ hL0 r => ?_
 refine W.go 99 rfl ?_
 have hr := open_sp (X := C.X) s p ha none none hc 0 0 hs [] [] L h ints0 ints0 (by simp) (by simp)
 refine W.eff rfl rfl rfl (Ef.call rfl (hr)) ?_
 rintro _ _ _ ⟨_, rfl, rfl, hq⟩
 rcases hq with ⟨h0, rfl, hle⟩ | ⟨h0, u, rfl, z, mr, F, rfl, rfl, rfl, hmv, hLF, hFL, hFm, hsv, hmr⟩
 ·refine W.go 99 rfl ?_
  refine W.split rfl rfl rfl (fun e1 => W.go 99 rfl ?_) (fun e1 => W.go 99 rfl ?_)
  ·refine W.ret r rfl rfl ?_
   exact ⟨_, by unfold MostE; rw [if_pos h0]; rfl, by unfold MostE; rw [if_pos h0]; exact ⟨none, 0, rfl, hle, fun i x hx => by simp at hx, Nat.le_refl _⟩⟩
  ·simp at e1; exact absurd e1 h0
 ·rename_i L2
  refine W.goP [8] 99 rfl ?_
  refine W.pub 7 (.inl ⟨_, rfl⟩) rfl rfl ?_
  intro b7 hb7 _
  refine W.go 99 rfl ?_
  refine W.split rfl rfl rfl (fun c => absurd c (by decide)) (fun c => ?_)
  refine W.go 99 rfl ?_
  refine W.pub 9 (.inl ⟨_, rfl⟩) rfl rfl ?_
  intro b9 hb9 _
  have h79 : b9 ≠ b7 := fun e => by subst e; rw [put_same] at hb9; cases hb9
  have hmL : L2 mr ≠ none := by rw [hmr]; simp
  have h7m : b7 ≠ mr := fun e => by subst e; exact hmL hb7
  have h9L : L2 b9 = none := by rw [put_ne _ _ h79] at hb9; exact hb9
  have h9m : b9 ≠ mr := fun e => by subst e; exact hmL h9L
  have hl24 : Le L2 ((L2.put b7 (.cells #[pt z.b] 101)).put b9 (.cells (lstO negC none).toArray 124)) := (Le.put hb7 _).trans (Le.put hb9 _)
  have g7 : ((L2.put b7 (.cells #[pt z.b] 101)).put b9 (.cells (lstO negC none).toArray 124)) b7 = some (.cells #[pt z.b] 101, true) := (put_ne _ _ h79.symm).trans (put_same _ _ _)
  have g9 : ((L2.put b7 (.cells #[pt z.b] 101)).put b9 (.cells (lstO negC none).toArray 124)) b9 = some (.cells (lstO negC none).toArray 124, true) := put_same _ _ _
  generalize hL4 : (L2.put b7 (.cells #[pt z.b] 101)).put b9 (.cells (lstO negC none).toArray 124) = L4 at hl24 g7 g9
  have hF4 := hFL.trans hl24
  change W C _ _ _ _ _ ((L2.put b7 (.cells #[pt z.b] 101)).put b9 (.cells (lstO negC none).toArray 124))
  rw [hL4]
  clear hL4
  refine W.drawn (by kernel_rfl) _ (Le.refl _) ?_
  refine DD.vf 0 rfl rfl rfl rfl rfl (Vf.load rfl rfl rfl (cell_of g7 rfl)) ?_
  refine DD.vf 1 rfl rfl rfl rfl rfl (Vf.load rfl rfl rfl (cell_of g7 rfl)) ?_
  refine DD.act 2 rfl rfl rfl rfl rfl (Ef.call rfl (full_sp z L4 (hsv.le hF4))) (by rintro _ _ _ ⟨_, rfl, rfl, rfl, rfl⟩; exact ⟨Le.refl _, rfl, .inl rfl⟩) ?_
  rintro _ _ _ ⟨_, rfl, rfl, rfl, rfl⟩
  refine DD.act 3 rfl rfl rfl rfl rfl (Ef.call rfl (plans_sp z.b (fullC z.s.cones.length) false L4)) ((by rintro _ _ _ ⟨_, _, rfl, _, _, _, _, hl, _⟩; exact ⟨hl, rfl, .inl rfl⟩)) ?_
  rintro _ _ _ ⟨_, rfl, rfl, bs, be, bo, rfl, hl45, k1, k2, k3⟩
  refine .fin rfl ?_
  refine W.go 99 rfl ?_
  rename_i L5
  have hF5 := hF4.trans hl45
  obtain ⟨hok, hhk, _, _⟩ := open_ok h0
  have hc3 := hok.c3
  have g75 := hl45 _ _ g7
  have g95 := hl45 _ _ g9
  have hm5 := hl45 _ _ (hl24 _ _ hmr)
  have hFb : Le F (L5.less [mr, b9]) := le_less hF5 (by simp [hFm, none_of_le hFL h9L])
  have hnb : ∀ (b : Nat) (v : Value), L5.cell? ⟨b, 0, none⟩ = some v → v ≠ .int .i64 0 → (L5.less [mr, b9]).cell? ⟨b, 0, none⟩ = some v := fun b v hb hv => less_cell hb (by
   simp only [List.mem_cons, List.not_mem_nil, or_false, not_or]
   constructor
   ·intro e; subst e; unfold LH.cell? at hb; rw [hm5] at hb; cases hb
   ·intro e; subst e; rw [cell_of g95 (v := .int .i64 0) rfl] at hb; exact hv (Option.some.inj hb).symm)
  refine W.iter (L5.less [mr, b9]) (less_le _ _) (fun pre L' => ∃ es clk, L' mr = some (.map es clk, true) ∧ MemoOk z.s.cones.length es ∧ L' b9 = some (.cells (lstO negC (firstMin negC pre)).toArray 124, true)) (fun j L' => False)
   (plans1_it z bs be bo false (fullC z.s.cones.length)) ⟨_, rfl, rfl, rfl⟩ (by rw [r.ro]) [(23, .v (.func (.func 132) #[] #[pt bs, pt be, pt bo])), (7, .v (pt b7)), (9, .v (pt b9))] (by exact ⟨rfl, rfl, rfl, trivial⟩) rfl rfl rfl
   ?_ (fun _ _ _ _ h => h) ?_ ?_ rfl (fun _ => rfl) ?_ ?_ ?_
  ·rintro pre L1 L2 hl ⟨es, clk, q1, q2, q3⟩
   exact ⟨es, clk, hl _ _ q1, q2, hl _ _ q3⟩
  ·rintro pre L' hl -
   exact ⟨hl.cell (hnb _ _ k1 (by simp)), hl.cell (hnb _ _ k2 (by simp)), hl.cell (hnb _ _ k3 (by simp)), hsv.le (hFb.trans hl)⟩
  ·exact ⟨#[], 0, calm_map hm5, fun e he => by simp at he, calm_cells g95⟩
  ·rintro d l pre x post L' q lb hx hl' ⟨es, clk, q1, q2, q3⟩ hnl hnd hned u1 u2 C' c1 c2 hbeg hcont -
   have hxl : x.length = z.s.cones.length := plan_len (s := z.s) (hs := z.hs) (so := fullC z.s.cones.length) (each := false) (by rw [hx]; simp)
   obtain ⟨x0, x1, x2, x3, x4, x5, ex⟩ := enc6 (l := x) (by omega)
   simp only [encPl]
   rw [ex]
   refine W.go 99 rfl ?_
   refine hbeg _ _ _ fun L6 r1 r0 => ?_
   have nml : mr ≠ l := fun e => by rw [e, u1] at q1; cases q1
   have n9l : b9 ≠ l := fun e => by rw [e, u1] at q3; cases q3
   have q1' := (r0 _ nml).trans q1
   have q3' := (r0 _ n9l).trans q3
   have r2 := (r0 _ hned.symm).trans u2
   have nmd : mr ≠ d := fun e => by rw [e, u2] at q1; cases q1
   have n9d : b9 ≠ d := fun e => by rw [e, u2] at q3; cases q3
   have hl6 : Le (L5.less [mr, b9]) L6 := fun b o ho => (r0 _ (fun e => by subst e; rw [hnl] at ho; cases ho)).trans (hl' _ _ ho)
   have hv6 := hsv.le (hFb.trans hl6)
   have g76 : L6 b7 = some (.cells #[pt z.b] 101, true) := hl6 _ _ (by rw [less_get (by simp [h7m, h79.symm])]; exact g75)
   have hcn := cones_sp (X := C'.X) z x mr es clk L6 hv6 hxl hmv q1' q2
   rw [ex] at hcn
   have hcb := cnt_le x
   refine W.go 99 rfl ?_
   refine W.drawn (by kernel_rfl) (L6.less [mr, b9]) (less_le _ _) ?_
   refine DD.run' [0, 2] rfl ?_
   refine DD.vf 1 rfl rfl rfl rfl rfl (Vf.load rfl rfl rfl (less_cell (cell_of g76 rfl) (by simp [h7m, h79.symm]))) ?_
   refine DD.act 3 rfl rfl rfl rfl rfl (Ef.call rfl hcn) ((by rintro _ _ _ ⟨_, _, rfl, rfl, hk, _⟩; exact ⟨fun b o ho => hk b o (fun e => by subst e; rw [less_none (by simp)] at ho; cases ho) (less_le _ _ _ _ ho), rfl, .inl rfl⟩)) ?_
   rintro _ _ _ ⟨_, rfl, rfl, rfl, hk7, es', clk', q17, q27⟩
   rename_i L7
   refine DD.run' [4] rfl ?_
   rw [wrap64_in _ (by omega) (by omega), show 0 - cnt x = negC x by unfold negC; omega]
   have q37 := hk7 _ _ h9m q3'
   have htk := take_sp (X := C'.X) b9 negC (firstMin negC pre) x L7 (by omega) (fun y hy => by
    have := plan_len (s := z.s) (hs := z.hs) (so := fullC z.s.cones.length) (each := false) (x := y) (by rw [hx]; exact List.mem_append_left _ (firstMin_mem hy))
    omega) q37
   rw [ex] at htk
   have hL7 : Le (L6.less [mr, b9]) L7 := fun b o ho => hk7 b o (fun e => by subst e; rw [less_none (by simp)] at ho; cases ho) (less_le _ _ _ _ ho)
   refine DD.act 5 rfl rfl rfl rfl rfl (Ef.call rfl htk) ((by rintro _ _ _ ⟨_, _, rfl, rfl, hk, _⟩; exact ⟨fun b o ho => (hk b (fun e => by subst e; rw [less_none (by simp)] at ho; cases ho)).trans (hL7 _ _ ho), rfl, .inl rfl⟩)) ?_
   rintro _ _ _ ⟨_, rfl, rfl, rfl, hk8, q38⟩
   refine .fin rfl ?_
   refine W.go 99 rfl ?_
   rename_i L8
   refine hcont _ _ _ _ .nil ((hk8 _ n9l.symm).trans (hk7 _ _ nml.symm r1)) ((hk8 _ n9d.symm).trans (hk7 _ _ nmd.symm r2)) (fun b o ho => ?_) ⟨es', clk', calm_map ((hk8 _ h9m.symm).trans q17), q27, ?_⟩
   ·have n1 : b ≠ mr := fun e => by subst e; rw [less_none (by simp)] at ho; cases ho
    have n2 : b ≠ b9 := fun e => by subst e; rw [less_none (by simp)] at ho; cases ho
    exact (hk8 _ n2).trans (hk7 _ _ n1 (hl6 _ _ ho))
   ·rw [firstMin_add]; exact calm_cells q38
  ·rintro d l L' hl' hnl hnd ⟨es, clk, q1, q2, q3⟩ hd
   obtain ⟨y, hy⟩ := firstMin_some (f := negC) (plans_ne hok z.hs (fullC z.s.cones.length))
   have hyl : y.length = z.s.cones.length := plan_len (firstMin_mem hy)
   have hcb := cnt_le y
   obtain ⟨x0, x1, x2, x3, x4, x5, ey⟩ := enc6 (l := y) (by omega)
   rw [hy, lstO_some, ey] at q3
   have g7' : L' b7 = some (.cells #[pt z.b] 101, true) := hl' _ _ (by rw [less_get (by simp [h7m, h79.symm])]; exact g75)
   have hpl := planL_sp (X := C.X) z y L' (hsv.le (hFb.trans hl')) hyl
   rw [ey] at hpl
   refine W.go 99 rfl ?_
   refine W.drawn (by kernel_rfl) _ (Le.refl _) ?_
   refine DD.vf 0 rfl rfl rfl rfl rfl (Vf.load rfl rfl rfl (cell_of g7' rfl)) ?_
   refine DD.run' [1] rfl ?_
   refine DD.vf 2 rfl rfl rfl rfl rfl (Vf.loadN rfl rfl rfl (lead6 q3)) ?_
   refine DD.run' [4] rfl ?_
   refine DD.vf 5 rfl rfl rfl rfl rfl (Vf.load rfl rfl rfl (cell_of q3 rfl)) ?_
   refine DD.run' [6] rfl ?_
   rw [wrap64_in _ (by unfold negC; omega) (by unfold negC; omega), show 0 - negC y = cnt y by unfold negC; omega]
   refine DD.act 3 rfl rfl rfl rfl rfl (Ef.call rfl hpl) ((by rintro _ _ _ ⟨_, _, rfl, _, _, rfl, hl, _⟩; exact ⟨hl, rfl, .inl rfl⟩)) ?_
   rintro _ _ _ ⟨_, rfl, rfl, ad, cap, rfl, hl9, hs9, hcap⟩
   refine DD.run' [7, 8, 9] rfl ?_
   refine .fin rfl ?_
   refine W.go 99 rfl ?_
   rename_i L9
   have hd9 := hl9 _ _ hd
   refine W.out (by rw [r.ro]) (.inr .ret) (WM.collected rfl hd9 (WM.ret r rfl rfl ?_))
   have hmE : MostE z.s z.hs = (y, cnt y, 0) := by
    unfold MostE mostS
    rw [if_neg (by rw [h0]; simp), ← plans_full]
    change ((firstMin negC _).getD [], cnt ((firstMin negC _).getD []), (0 : Int)) = _
    rw [hy]; rfl
   rw [hmE]
   exact ⟨_, rfl, ad, cap, rfl, le_put_none (hLF.trans (hFb.trans (hl'.trans hl9))) (none_of_le (hLF.trans hFb) hnd) _, hs9.putD _ hd9, hcap⟩
  ·rintro d l j L' - - - hF -
   exact hF.elim
end Go.Mz


set_option maxRecDepth 100000
namespace Go.Mz
open Go.Conc Go.Proofs
variable {X : Logic Tryz.prog}
theorem calm_sl {α : Type} {enc : α → List Value} {k : Nat} {L : LH} {ad : Option Addr} {l : List α} (h : SlAt L ad k enc l) : SlAt L.calm ad k enc l := fun i x hx => let ⟨a, h1, h2⟩ := h i x hx; ⟨a, h1, fun j v hv => calm_cell (h2 j v hv)⟩
def AllE (s : St) (hs : List Int) : List Stand × Int := if openE s hs [] [] ≠ 0 then ([], openE s hs [] []) else match allS s hs with
 | none => ([], 11)
 | some y => (y, 0)
theorem All_sp (s : St) (p : Pt) (ha : Option Addr) (hc : Nat) (hs : List Int) (L : LH) (h : AskAt L s p ha hs) :
  Sp X 45 [stA s p, .slice ha hs.length hc] L (fun v L' => ∃ u, v = .tuple #[u, .int .i64 (AllE s hs).2] ∧ NewSl L 2 encSt (AllE s hs).1 u L') := by
 refine Sp.enter (n := 26) Tryz.func45 rfl rfl rfl rfl fun C hX _ hL0 r => ?_
 refine W.go 99 rfl ?_
 have hr := open_sp (X := C.X) s p ha none none hc 0 0 hs [] [] L h ints0 ints0 (by simp) (by simp)
 refine W.eff rfl rfl rfl (Ef.call rfl (hr)) ?_
 rintro _ _ _ ⟨_, rfl, rfl, hq⟩
 rcases hq with ⟨h0, rfl, hle⟩ | ⟨h0, u, rfl, z, mr, F, rfl, rfl, rfl, hmv, hLF, hFL, hFm, hsv, hmr⟩
 ·refine W.go 99 rfl ?_
  refine W.split rfl rfl rfl (fun e1 => W.go 99 rfl ?_) (fun e1 => W.go 99 rfl ?_)
  ·refine W.ret r rfl rfl ?_
   exact ⟨_, by unfold AllE; rw [if_pos h0]; rfl, by unfold AllE; rw [if_pos h0]; exact ⟨none, 0, rfl, hle, fun i x hx => by simp at hx, Nat.le_refl _⟩⟩
  ·simp at e1; exact absurd e1 h0
 ·rename_i L2
  refine W.goP [7] 99 rfl ?_
  refine W.pub 6 (.inl ⟨_, rfl⟩) rfl rfl ?_
  intro b6 hb6 _
  refine W.pub 4 (.inl ⟨_, rfl⟩) rfl rfl ?_
  intro b4 hb4 _
  refine W.pub 5 (.inl ⟨_, rfl⟩) rfl rfl ?_
  intro b5 hb5 _
  have h46 : b4 ≠ b6 := fun e => by subst e; rw [put_same] at hb4; cases hb4
  have h54 : b5 ≠ b4 := fun e => by subst e; rw [put_same] at hb5; cases hb5
  have h56 : b5 ≠ b6 := fun e => by subst e; rw [put_ne _ _ h46.symm, put_same] at hb5; cases hb5
  have hb4L : L2 b4 = none := by rw [put_ne _ _ h46] at hb4; exact hb4
  have hb5L : L2 b5 = none := by rw [put_ne _ _ h54, put_ne _ _ h56] at hb5; exact hb5
  refine W.go 99 rfl ?_
  refine W.split rfl rfl rfl (fun c => absurd c (by decide)) (fun c => ?_)
  refine W.go 99 rfl ?_
  have hl24 : Le L2 (((L2.put b6 (.cells #[pt z.b] 101)).put b4 (.cells #[.slice none 0 0] 41)).put b5 (.cells #[.int .i64 0] 44)) := (Le.put hb6 _).trans ((Le.put hb4 _).trans (Le.put hb5 _))
  have g6 : (((L2.put b6 (.cells #[pt z.b] 101)).put b4 (.cells #[.slice none 0 0] 41)).put b5 (.cells #[.int .i64 0] 44)) b6 = some (.cells #[pt z.b] 101, true) := (put_ne _ _ h56.symm).trans ((put_ne _ _ h46.symm).trans (put_same _ _ _))
  have g4 : (((L2.put b6 (.cells #[pt z.b] 101)).put b4 (.cells #[.slice none 0 0] 41)).put b5 (.cells #[.int .i64 0] 44)) b4 = some (.cells #[.slice none 0 0] 41, true) := (put_ne _ _ h54.symm).trans (put_same _ _ _)
  have g5 : (((L2.put b6 (.cells #[pt z.b] 101)).put b4 (.cells #[.slice none 0 0] 41)).put b5 (.cells #[.int .i64 0] 44)) b5 = some (.cells #[.int .i64 0] 44, true) := put_same _ _ _
  generalize hL4 : ((L2.put b6 (.cells #[pt z.b] 101)).put b4 (.cells #[.slice none 0 0] 41)).put b5 (.cells #[.int .i64 0] 44) = L4 at hl24 g6 g4 g5
  change W C _ _ _ _ _ (((L2.put b6 (.cells #[pt z.b] 101)).put b4 (.cells #[.slice none 0 0] 41)).put b5 (.cells #[.int .i64 0] 44))
  rw [hL4]
  clear hL4
  have hF4 := hFL.trans hl24
  refine W.drawn (by kernel_rfl) _ (Le.refl _) ?_
  refine DD.vf 0 rfl rfl rfl rfl rfl (Vf.load rfl rfl rfl (cell_of g6 rfl)) ?_
  refine DD.vf 1 rfl rfl rfl rfl rfl (Vf.load rfl rfl rfl (cell_of g6 rfl)) ?_
  refine DD.act 2 rfl rfl rfl rfl rfl (Ef.call rfl (full_sp z L4 (hsv.le hF4))) (by rintro _ _ _ ⟨_, rfl, rfl, rfl, rfl⟩; exact ⟨Le.refl _, rfl, .inl rfl⟩) ?_
  rintro _ _ _ ⟨_, rfl, rfl, rfl, rfl⟩
  refine DD.act 3 rfl rfl rfl rfl rfl (Ef.call rfl (plans_sp z.b (fullC z.s.cones.length) true L4)) ((by rintro _ _ _ ⟨_, _, rfl, _, _, _, _, hl, _⟩; exact ⟨hl, rfl, .inl rfl⟩)) ?_
  rintro _ _ _ ⟨_, rfl, rfl, bs, be, bo, rfl, hl45, k1, k2, k3⟩
  refine .fin rfl ?_
  refine W.go 99 rfl ?_
  rename_i L5
  have hF5 := hF4.trans hl45
  obtain ⟨hok, hhk, _, _⟩ := open_ok h0
  have hc3 := hok.c3
  have g65 := hl45 _ _ g6
  have g45 := hl45 _ _ g4
  have g55 := hl45 _ _ g5
  have hFb : Le F (L5.less [b4, b5]) := le_less hF5 (by simp [none_of_le hFL hb4L, none_of_le hFL hb5L])
  have hnb : ∀ (b : Nat) (v : Value), L5.cell? ⟨b, 0, none⟩ = some v → v ≠ .int .i64 0 → v ≠ .slice none 0 0 → (L5.less [b4, b5]).cell? ⟨b, 0, none⟩ = some v := fun b v hb hv hv2 => less_cell hb (by
   simp only [List.mem_cons, List.not_mem_nil, or_false, not_or]
   constructor
   ·intro e; subst e; rw [cell_of g45 (v := .slice none 0 0) rfl] at hb; exact hv2 (Option.some.inj hb).symm
   ·intro e; subst e; rw [cell_of g55 (v := .int .i64 0) rfl] at hb; exact hv (Option.some.inj hb).symm)
  refine W.iter (L5.less [b4, b5]) (less_le _ _) (fun pre L' => pre = [] ∧ L' b4 = some (.cells #[.slice none 0 0] 41, true) ∧ L' b5 = some (.cells #[.int .i64 0] 44, true))
   (fun j L' => j = .ret ∧ ∃ y ad cap, allS z.s z.hs = some y ∧ L' b4 = some (.cells #[.slice ad y.length cap] 41, true) ∧ L' b5 = some (.cells #[.int .i64 0] 44, true) ∧ SlAt L' ad 2 encSt y ∧ y.length ≤ cap)
   (plans1_it z bs be bo true (fullC z.s.cones.length)) ⟨_, rfl, rfl, rfl⟩ (by rw [r.ro]) [(21, .v (.func (.func 132) #[] #[pt bs, pt be, pt bo])), (4, .v (pt b4)), (5, .v (pt b5)), (6, .v (pt b6))] (by exact ⟨rfl, rfl, rfl, rfl, trivial⟩) rfl rfl rfl
   ?_ ?_ ?_ ?_ rfl (fun _ => rfl) ?_ ?_ ?_
  ·rintro pre L1 L2 hl ⟨e, q2, q3⟩
   exact ⟨e, hl _ _ q2, hl _ _ q3⟩
  ·rintro j L1 L2 hl ⟨e, y, ad, cap, q1, q2, q3, q4, q5⟩
   exact ⟨e, y, ad, cap, q1, hl _ _ q2, hl _ _ q3, q4.le hl, q5⟩
  ·rintro pre L' hl -
   exact ⟨hl.cell (hnb _ _ k1 (by simp) (by simp)), hl.cell (hnb _ _ k2 (by simp) (by simp)), hl.cell (hnb _ _ k3 (by simp) (by simp)), hsv.le (hFb.trans hl)⟩
  ·exact ⟨rfl, calm_cells g45, calm_cells g55⟩
  ·rintro d l pre x post L' q lb hx hl' ⟨rfl, q2, q3⟩ hnl hnd hned u1 u2 C' c1 c2 hbeg - hbrk
   have hxl : x.length = z.s.cones.length := plan_len (s := z.s) (hs := z.hs) (so := fullC z.s.cones.length) (each := true) (by rw [hx]; simp)
   have hall : allS z.s z.hs = some x := by unfold allS; rw [← plans_full, hx]; rfl
   obtain ⟨x0, x1, x2, x3, x4, x5, ex⟩ := enc6 (l := x) (by omega)
   simp only [encPl]
   rw [ex]
   refine W.go 99 rfl ?_
   refine hbeg _ _ _ fun L6 r1 r0 => ?_
   have n4l : b4 ≠ l := fun e => by rw [e, u1] at q2; cases q2
   have n5l : b5 ≠ l := fun e => by rw [e, u1] at q3; cases q3
   have q2' := (r0 _ n4l).trans q2
   have q3' := (r0 _ n5l).trans q3
   have r2 := (r0 _ hned.symm).trans u2
   have n4d : b4 ≠ d := fun e => by rw [e, u2] at q2; cases q2
   have n5d : b5 ≠ d := fun e => by rw [e, u2] at q3; cases q3
   have hl6 : Le (L5.less [b4, b5]) L6 := fun b o ho => (r0 _ (fun e => by subst e; rw [hnl] at ho; cases ho)).trans (hl' _ _ ho)
   have hv6 := hsv.le (hFb.trans hl6)
   have g66 : L6 b6 = some (.cells #[pt z.b] 101, true) := hl6 _ _ (by rw [less_get (by simp [h46.symm, h56.symm])]; exact g65)
   have hFl6 : Le F (L6.less [b4, b5]) := le_less (hFb.trans hl6) (by simp [none_of_le hFL hb4L, none_of_le hFL hb5L])
   have hpl := (planL_sp (X := C'.X) z x (L6.less [b4, b5]) (hsv.le hFl6) hxl).frame (less_le L6 [b4, b5])
   rw [ex] at hpl
   refine W.go 99 rfl ?_
   refine W.vf rfl rfl rfl rfl (Vf.load rfl rfl rfl (cell_of g66 rfl)) ?_
   refine W.go 99 rfl ?_
   refine W.eff rfl rfl rfl (Ef.call rfl (hpl)) ?_
   rintro _ _ _ ⟨_, rfl, rfl, L1', ⟨ad, cap, rfl, hl1', hs7, hcap⟩, hpost⟩
   refine W.go 99 rfl ?_
   rename_i L7
   have hl7 : Le L6 L7 := fun b o ho => by
    by_cases hb : (L6.less [b4, b5]) b = none
    ·exact hpost.keep b o hb ho
    ·have : (L6.less [b4, b5]) b = some o := by
      cases hx : (L6.less [b4, b5]) b with
      | none => exact absurd hx hb
      | some y => rw [less_le _ _ _ _ hx] at ho; exact ho
     exact hpost.le _ _ (hl1' _ _ this)
   have hn1 : ∀ b, b ∈ [b4, b5] → L6 b ≠ none → L1' b = none := fun b hb hL => by
    cases hx : L1' b with
    | none => rfl
    | some y =>
     rcases hpost.fresh b (by rw [hx]; simp) with e | e
     ·exact absurd (less_none hb) e
     ·exact absurd e hL
   have hn4 := hn1 b4 (by simp) (by rw [q2']; simp)
   have hn5 := hn1 b5 (by simp) (by rw [q3']; simp)
   refine W.eff0 rfl rfl (Ef.stoF rfl ⟨_, rfl, rfl⟩ rfl (hl7 _ _ q2') rfl (Nat.le_refl _) (singles rfl)) ?_
   rintro _ _ _ ⟨rfl, rfl, rfl⟩
   refine W.go 99 rfl ?_
   refine W.eff0 rfl rfl (Ef.stoF rfl ⟨_, rfl, rfl⟩ rfl ((put_ne _ _ h54).trans (hl7 _ _ q3')) rfl (Nat.le_refl _) (singles rfl)) ?_
   rintro _ _ _ ⟨rfl, rfl, rfl⟩
   refine W.go 99 rfl ?_
   refine hbrk _ _ _ _ _ .ret ((put_ne _ _ n5l.symm).trans ((put_ne _ _ n4l.symm).trans (hl7 _ _ r1))) ((put_ne _ _ n5d.symm).trans ((put_ne _ _ n4d.symm).trans (hl7 _ _ r2)))
    (le_put_none (le_put_none (hl6.trans hl7) (less_none (by simp)) _) (less_none (by simp)) _) ⟨rfl, x, ad, cap, hall, calm_cells ((put_ne _ _ h54.symm).trans (put_same _ _ _)), calm_cells (put_same _ _ _), calm_sl (hs7.le (le_put_none (le_put_none hpost.le hn4 _) hn5 _)), hcap⟩
  ·rintro d l L' hl' hnl hnd ⟨hp, q2, q3⟩ hd
   have hall : allS z.s z.hs = none := by unfold allS; rw [← plans_full, hp]; rfl
   have n4d : b4 ≠ d := fun e => by rw [e, hd] at q2; cases q2
   have n5d : b5 ≠ d := fun e => by rw [e, hd] at q3; cases q3
   refine W.go 99 rfl ?_
   refine W.eff0 rfl rfl (Ef.stoF rfl ⟨_, rfl, rfl⟩ rfl q2 rfl (Nat.le_refl _) (singles rfl)) ?_
   rintro _ _ _ ⟨rfl, rfl, rfl⟩
   refine W.go 99 rfl ?_
   refine W.eff0 rfl rfl (Ef.stoF rfl ⟨_, rfl, rfl⟩ rfl ((put_ne _ _ h54).trans q3) rfl (Nat.le_refl _) (singles rfl)) ?_
   rintro _ _ _ ⟨rfl, rfl, rfl⟩
   refine W.go 99 rfl ?_
   refine W.out (by rw [r.ro]) (.inr .ret) (WM.collected rfl ((put_ne _ _ n5d.symm).trans ((put_ne _ _ n4d.symm).trans hd))
    (WM.ret2 r rfl rfl rfl (load1F agg41 (cell_of ((put_ne _ _ n4d).trans ((put_ne _ _ h54.symm).trans (put_same _ _ _))) rfl)) (load1F agg44 (cell_of ((put_ne _ _ n5d).trans (put_same _ _ _)) rfl)) ?_))
   have e : AllE z.s z.hs = ([], 11) := by unfold AllE; rw [if_neg (by rw [h0]; simp), hall]
   rw [e]
   exact ⟨_, rfl, none, 0, rfl, le_put_none (le_put_none (le_put_none (hLF.trans (hFb.trans hl')) (none_of_le (hLF.trans hFL) hb4L) _) (none_of_le (hLF.trans hFL) hb5L) _) (none_of_le (hLF.trans hFb) hnd) _, fun i x hx => by simp at hx, Nat.le_refl _⟩
  ·rintro d l j L' hl' hnl hnd ⟨rfl, y, ad, cap, q1, q2, q3, q4, q5⟩ hd
   have n4d : b4 ≠ d := fun e => by rw [e, hd] at q2; cases q2
   have n5d : b5 ≠ d := fun e => by rw [e, hd] at q3; cases q3
   refine W.out (by rw [r.ro]) (.inr .ret) (WM.collected rfl hd
    (WM.ret2 r rfl rfl rfl (load1F agg41 (cell_of ((put_ne _ _ n4d).trans q2) rfl)) (load1F agg44 (cell_of ((put_ne _ _ n5d).trans q3) rfl)) ?_))
   have e : AllE z.s z.hs = (y, 0) := by unfold AllE; rw [if_neg (by rw [h0]; simp), q1]
   rw [e]
   exact ⟨_, rfl, ad, cap, rfl, le_put_none (hLF.trans (hFb.trans hl')) (none_of_le (hLF.trans hFb) hnd) _, q4.putD _ hd, q5⟩
end Go.Mz


set_option maxRecDepth 100000
namespace Go.Mz
open Go.Conc Go.Proofs
variable {X : Logic Tryz.prog}
def SoonE (s : St) (hs : List Int) : List Stand × Int × Int := if openE s hs [] [] ≠ 0 then ([], 0, openE s hs [] []) else match soonS s hs with
 | none => ([], 0, 11)
 | some y => (y, lastS s hs y, 0)
theorem plan_each {s : St} {hs : List Int} {x : List Stand} (h : x ∈ plansS s hs (fullC s.cones.length) true) {i : Nat} {c : Cone} {a : Stand} (hc : s.cones[i]? = some c) (ha : x[i]? = some a) : a ∈ standsS s hs c := by
 obtain ⟨t, h1, h2, h3⟩ := grow_mem h
 rw [List.nil_append] at h1
 subst h1
 have hi := (List.getElem?_eq_some_iff.1 hc).1
 have e : (optsS s hs (fullC s.cones.length) true)[i]? = some (standsS s hs c) := by
  unfold optsS
  rw [List.getElem?_map, List.getElem?_zipIdx, hc]
  simp [optS, fullC, hi]
 exact h3 i _ a e ha
theorem Soonest_sp (s : St) (p : Pt) (ha : Option Addr) (hc : Nat) (hs : List Int) (L : LH) (h : AskAt L s p ha hs) :
  Sp X 48 [stA s p, .slice ha hs.length hc] L (fun v L' => ∃ u, v = .tuple #[u, .int .i64 (SoonE s hs).2.1, .int .i64 (SoonE s hs).2.2] ∧ NewSl L 2 encSt (SoonE s hs).1 u L') := by
 refine Sp.enter (n := 42) Tryz.func48 rfl rfl rfl rfl fun C hX _ hL0 r => ?_
 refine W.go 99 rfl ?_
 have hr := open_sp (X := C.X) s p ha none none hc 0 0 hs [] [] L h ints0 ints0 (by simp) (by simp)
 refine W.eff rfl rfl rfl (Ef.call rfl (hr)) ?_
 rintro _ _ _ ⟨_, rfl, rfl, hq⟩
 rcases hq with ⟨h0, rfl, hle⟩ | ⟨h0, u, rfl, z, mr, F, rfl, rfl, rfl, hmv, hLF, hFL, hFm, hsv, hmr⟩
 ·refine W.go 99 rfl ?_
  refine W.split rfl rfl rfl (fun e1 => W.go 99 rfl ?_) (fun e1 => W.go 99 rfl ?_)
  ·refine W.ret r rfl rfl ?_
   exact ⟨_, by unfold SoonE; rw [if_pos h0]; rfl, by unfold SoonE; rw [if_pos h0]; exact ⟨none, 0, rfl, hle, fun i x hx => by simp at hx, Nat.le_refl _⟩⟩
  ·simp at e1; exact absurd e1 h0
 ·rename_i L2
  refine W.goP [8] 99 rfl ?_
  refine W.pub 7 (.inl ⟨_, rfl⟩) rfl rfl ?_
  intro b7 hb7 _
  refine W.go 99 rfl ?_
  refine W.split rfl rfl rfl (fun c => absurd c (by decide)) (fun c => ?_)
  refine W.goP [21] 99 rfl ?_
  refine W.pub 9 (.inl ⟨_, rfl⟩) rfl rfl ?_
  intro b9 hb9 _
  refine W.go 99 rfl ?_
  refine W.pub 10 (.inl ⟨_, rfl⟩) rfl rfl ?_
  intro b10 hb10 _
  have h79 : b9 ≠ b7 := fun e => by subst e; rw [put_same] at hb9; cases hb9
  have h9L : L2 b9 = none := by rw [put_ne _ _ h79] at hb9; exact hb9
  have hl10 : Le L2 ((L2.put b7 (.cells #[pt z.b] 101)).put b9 (.cells (lstO (lastS z.s z.hs) none).toArray 124)) := (Le.put hb7 _).trans (Le.put hb9 _)
  have h109 : b10 ≠ b9 := fun e => by subst e; rw [put_same] at hb10; cases hb10
  have h107 : b10 ≠ b7 := fun e => by subst e; rw [put_ne _ _ h109, put_same] at hb10; cases hb10
  have hl24 : Le L2 (((L2.put b7 (.cells #[pt z.b] 101)).put b9 (.cells (lstO (lastS z.s z.hs) none).toArray 124)).put b10 (.cells #[.func (.func 99) #[pt b9] #[]] 130)) := hl10.trans (Le.put hb10 _)
  have g7 : (((L2.put b7 (.cells #[pt z.b] 101)).put b9 (.cells (lstO (lastS z.s z.hs) none).toArray 124)).put b10 (.cells #[.func (.func 99) #[pt b9] #[]] 130)) b7 = some (.cells #[pt z.b] 101, true) := (put_ne _ _ h107.symm).trans ((put_ne _ _ h79.symm).trans (put_same _ _ _))
  have g9 : (((L2.put b7 (.cells #[pt z.b] 101)).put b9 (.cells (lstO (lastS z.s z.hs) none).toArray 124)).put b10 (.cells #[.func (.func 99) #[pt b9] #[]] 130)) b9 = some (.cells (lstO (lastS z.s z.hs) none).toArray 124, true) := (put_ne _ _ h109.symm).trans (put_same _ _ _)
  have g10 : (((L2.put b7 (.cells #[pt z.b] 101)).put b9 (.cells (lstO (lastS z.s z.hs) none).toArray 124)).put b10 (.cells #[.func (.func 99) #[pt b9] #[]] 130)) b10 = some (.cells #[.func (.func 99) #[pt b9] #[]] 130, true) := put_same _ _ _
  generalize hL4 : ((L2.put b7 (.cells #[pt z.b] 101)).put b9 (.cells (lstO (lastS z.s z.hs) none).toArray 124)).put b10 (.cells #[.func (.func 99) #[pt b9] #[]] 130) = L4 at hl24 g7 g9 g10
  change W C _ _ _ _ _ (((L2.put b7 (.cells #[pt z.b] 101)).put b9 (.cells (lstO (lastS z.s z.hs) none).toArray 124)).put b10 (.cells #[.func (.func 99) #[pt b9] #[]] 130))
  rw [hL4]
  clear hL4
  have hF4 := hFL.trans hl24
  refine W.drawn (by kernel_rfl) _ (Le.refl _) ?_
  refine DD.vf 0 rfl rfl rfl rfl rfl (Vf.load rfl rfl rfl (cell_of g7 rfl)) ?_
  refine DD.vf 1 rfl rfl rfl rfl rfl (Vf.load rfl rfl rfl (cell_of g7 rfl)) ?_
  refine DD.act 2 rfl rfl rfl rfl rfl (Ef.call rfl (full_sp z L4 (hsv.le hF4))) (by rintro _ _ _ ⟨_, rfl, rfl, rfl, rfl⟩; exact ⟨Le.refl _, rfl, .inl rfl⟩) ?_
  rintro _ _ _ ⟨_, rfl, rfl, rfl, rfl⟩
  refine DD.act 3 rfl rfl rfl rfl rfl (Ef.call rfl (plans_sp z.b (fullC z.s.cones.length) true L4)) ((by rintro _ _ _ ⟨_, _, rfl, _, _, _, _, hl, _⟩; exact ⟨hl, rfl, .inl rfl⟩)) ?_
  rintro _ _ _ ⟨_, rfl, rfl, bs, be, bo, rfl, hl45, k1, k2, k3⟩
  refine .fin rfl ?_
  refine W.go 99 rfl ?_
  rename_i L5
  have hF5 := hF4.trans hl45
  obtain ⟨hok, hhk, _, _⟩ := open_ok h0
  have hc3 := hok.c3
  have g75 := hl45 _ _ g7
  have g95 := hl45 _ _ g9
  have g105 := hl45 _ _ g10
  have hFb : Le F (L5.less [b9]) := le_less hF5 (by simp [none_of_le hFL h9L])
  have hnb : ∀ (b : Nat) (v : Value), L5.cell? ⟨b, 0, none⟩ = some v → v ≠ .int .i64 0 → (L5.less [b9]).cell? ⟨b, 0, none⟩ = some v := fun b v hb hv => less_cell hb (by
   simp only [List.mem_cons, List.not_mem_nil, or_false]
   intro e; subst e; rw [cell_of g95 (v := .int .i64 0) rfl] at hb; exact hv (Option.some.inj hb).symm)
  refine W.iter (L5.less [b9]) (less_le _ _) (fun pre L' => L' b9 = some (.cells (lstO (lastS z.s z.hs) (firstMin (lastS z.s z.hs) pre)).toArray 124, true)) (fun j L' => False)
   (plans1_it z bs be bo true (fullC z.s.cones.length)) ⟨_, rfl, rfl, rfl⟩ (by rw [r.ro]) [(25, .v (.func (.func 132) #[] #[pt bs, pt be, pt bo])), (7, .v (pt b7)), (9, .v (pt b9)), (10, .v (pt b10))] (by exact ⟨rfl, rfl, rfl, rfl, trivial⟩) rfl rfl rfl
   (fun pre L1 L2 hl q => hl _ _ q) (fun _ _ _ _ h => h) ?_ (calm_cells g95) rfl (fun _ => rfl) ?_ ?_ ?_
  ·rintro pre L' hl -
   exact ⟨hl.cell (hnb _ _ k1 (by simp)), hl.cell (hnb _ _ k2 (by simp)), hl.cell (hnb _ _ k3 (by simp)), hsv.le (hFb.trans hl)⟩
  ·rintro d l pre x post L' q lb hx hl' q3 hnl hnd hned u1 u2 C' c1 c2 hbeg hcont -
   have hxm : x ∈ plansS z.s z.hs (fullC z.s.cones.length) true := by rw [hx]; simp
   have hxl : x.length = z.s.cones.length := plan_len hxm
   obtain ⟨x0, x1, x2, x3, x4, x5, ex⟩ := enc6 (l := x) (by omega)
   simp only [encPl]
   rw [ex]
   refine W.go 99 rfl ?_
   refine hbeg _ _ _ fun L6 r1 r0 => ?_
   have n9l : b9 ≠ l := fun e => by rw [e, u1] at q3; cases q3
   have q3' := (r0 _ n9l).trans q3
   have r2 := (r0 _ hned.symm).trans u2
   have n9d : b9 ≠ d := fun e => by rw [e, u2] at q3; cases q3
   have hl6 : Le (L5.less [b9]) L6 := fun b o ho => (r0 _ (fun e => by subst e; rw [hnl] at ho; cases ho)).trans (hl' _ _ ho)
   have hv6 := hsv.le (hFb.trans hl6)
   have g76 : L6 b7 = some (.cells #[pt z.b] 101, true) := hl6 _ _ (by rw [less_get (by simp [h79.symm])]; exact g75)
   have g106 : L6 b10 = some (.cells #[.func (.func 99) #[pt b9] #[]] 130, true) := hl6 _ _ (by rw [less_get (by simp [h109])]; exact g105)
   have hdn := done_sp (X := C'.X) z x L6 hv6 hxl (fun i c a h1 h2 => plan_each hxm h1 h2)
   rw [ex] at hdn
   refine W.go 99 rfl ?_
   refine W.drawn (by kernel_rfl) (L6.less [b9]) (less_le _ _) ?_
   refine DD.run' [1, 3] rfl ?_
   refine DD.vf 0 rfl rfl rfl rfl rfl (Vf.load rfl rfl rfl (less_cell (cell_of g106 rfl) (by simp [h109]))) ?_
   refine DD.vf 2 rfl rfl rfl rfl rfl (Vf.load rfl rfl rfl (less_cell (cell_of g76 rfl) (by simp [h79.symm]))) ?_
   refine DD.act 4 rfl rfl rfl rfl rfl (Ef.call rfl hdn) ((by rintro _ _ _ ⟨_, _, rfl, rfl, hl⟩; exact ⟨(less_le _ _).trans hl, rfl, .inl rfl⟩)) ?_
   rintro _ _ _ ⟨_, rfl, rfl, rfl, hl7⟩
   rename_i L7
   have htk := take_sp (X := C'.X) b9 (lastS z.s z.hs) (firstMin (lastS z.s z.hs) pre) x L7 (by omega) (fun y hy => by
    have := plan_len (s := z.s) (hs := z.hs) (so := fullC z.s.cones.length) (each := true) (x := y) (by rw [hx]; exact List.mem_append_left _ (firstMin_mem hy))
    omega) (hl7 _ _ q3')
   rw [ex] at htk
   refine DD.act 5 rfl rfl rfl rfl rfl (Ef.callS rfl rfl rfl (Sp.toV (f1 := [pt b9]) (f2 := []) htk)) ((by rintro _ _ _ ⟨_, _, rfl, rfl, hk, _⟩; exact ⟨fun b o ho => (hk b (fun e => by subst e; rw [less_none (by simp)] at ho; cases ho)).trans (hl7 _ _ (less_le _ _ _ _ ho)), rfl, .inl rfl⟩)) ?_
   rintro _ _ _ ⟨_, rfl, rfl, rfl, hk8, q38⟩
   refine .fin rfl ?_
   refine W.go 99 rfl ?_
   rename_i L8
   refine hcont _ _ _ _ .nil ((hk8 _ n9l.symm).trans (hl7 _ _ r1)) ((hk8 _ n9d.symm).trans (hl7 _ _ r2)) (fun b o ho => ?_) ?_
   ·have n2 : b ≠ b9 := fun e => by subst e; rw [less_none (by simp)] at ho; cases ho
    exact (hk8 _ n2).trans (hl7 _ _ (hl6 _ _ ho))
   ·rw [firstMin_add]; exact calm_cells q38
  ·rintro d l L' hl' hnl hnd q3 hd
   have g7' : L' b7 = some (.cells #[pt z.b] 101, true) := hl' _ _ (by rw [less_get (by simp [h79.symm])]; exact g75)
   have hdL : L d = none := none_of_le (hLF.trans hFb) hnd
   have hLL := hLF.trans (hFb.trans hl')
   have hso : soonS z.s z.hs = firstMin (lastS z.s z.hs) (plansS z.s z.hs (fullC z.s.cones.length) true) := by unfold soonS; rw [plans_full]
   cases hy : firstMin (lastS z.s z.hs) (plansS z.s z.hs (fullC z.s.cones.length) true) with
   | none =>
    rw [hy] at q3 hso
    refine W.go 99 rfl ?_
    refine W.vf rfl rfl rfl rfl (Vf.load rfl rfl rfl (cell_of q3 rfl)) ?_
    refine W.go 99 rfl ?_
    refine W.split rfl rfl rfl (fun c => ?_) (fun c => absurd c (by decide))
    refine W.go 99 rfl ?_
    refine W.out (by rw [r.ro]) (.inr .ret) (WM.collected rfl hd (WM.ret r rfl rfl ?_))
    have e : SoonE z.s z.hs = ([], 0, 11) := by unfold SoonE; rw [if_neg (by rw [h0]; simp), hso]
    rw [e]
    exact ⟨_, rfl, none, 0, rfl, le_put_none hLL hdL _, fun i x hx => by simp at hx, Nat.le_refl _⟩
   | some y =>
    have hyl : y.length = z.s.cones.length := plan_len (firstMin_mem hy)
    obtain ⟨x0, x1, x2, x3, x4, x5, ey⟩ := enc6 (l := y) (by omega)
    rw [hy, lstO_some, ey] at q3
    rw [hy] at hso
    have hpl := planL_sp (X := C.X) z y L' (hsv.le (hFb.trans hl')) hyl
    rw [ey] at hpl
    refine W.go 99 rfl ?_
    refine W.vf rfl rfl rfl rfl (Vf.load rfl rfl rfl (cell_of q3 rfl)) ?_
    refine W.go 99 rfl ?_
    refine W.split rfl rfl rfl (fun c => absurd c (by decide)) (fun c => ?_)
    refine W.go 99 rfl ?_
    refine W.drawn (by kernel_rfl) _ (Le.refl _) ?_
    refine DD.vf 0 rfl rfl rfl rfl rfl (Vf.load rfl rfl rfl (cell_of g7' rfl)) ?_
    refine DD.run' [1] rfl ?_
    refine DD.vf 2 rfl rfl rfl rfl rfl (Vf.loadN rfl rfl rfl (lead6 q3)) ?_
    refine DD.run' [4] rfl ?_
    refine DD.vf 5 rfl rfl rfl rfl rfl (Vf.load rfl rfl rfl (cell_of q3 rfl)) ?_
    refine DD.act 3 rfl rfl rfl rfl rfl (Ef.call rfl hpl) ((by rintro _ _ _ ⟨_, _, rfl, _, _, rfl, hl, _⟩; exact ⟨hl, rfl, .inl rfl⟩)) ?_
    rintro _ _ _ ⟨_, rfl, rfl, ad, cap, rfl, hl9, hs9, hcap⟩
    refine DD.run' [6, 7, 8] rfl ?_
    refine .fin rfl ?_
    refine W.go 99 rfl ?_
    rename_i L9
    have hd9 := hl9 _ _ hd
    refine W.out (by rw [r.ro]) (.inr .ret) (WM.collected rfl hd9 (WM.ret r rfl rfl ?_))
    have e : SoonE z.s z.hs = (y, lastS z.s z.hs y, 0) := by unfold SoonE; rw [if_neg (by rw [h0]; simp), hso]
    rw [e]
    exact ⟨_, rfl, ad, cap, rfl, le_put_none (hLL.trans hl9) hdL _, hs9.putD _ hd9, hcap⟩
  ·rintro d l j L' - - - hF -
   exact hF.elim
end Go.Mz


set_option maxRecDepth 100000
namespace Go.Mz
open Go.Conc Go.Proofs
variable {X : Logic Tryz.prog}
theorem CloneI_own (ad : Option Addr) (c : Nat) (l : List Int) (L : LH) (h : SlAt L ad 1 encI l) (hn : l.length ≤ 1000000) (hne : l ≠ []) : Sp X 109 [.slice ad l.length c] L (fun v L' => Grow L 1 3 encI L' v l) := by
 refine Sp.enter (n := 8) Tryz.func109 rfl rfl rfl rfl fun C hX _ hL0 r => ?_
 refine W.go 99 rfl ?_
 refine W.split rfl rfl rfl (fun d1 => W.go 99 rfl ?_) (fun d1 => W.go 99 rfl ?_)
 ·have e : ad = none := by cases ad with | none => rfl | some a => simp at d1
  subst e
  exact absurd h.nil hne
 refine W.pub 5 (.inr ⟨_, _, _, rfl⟩) rfl rfl ?_
 intro b hb _
 refine W.eff rfl rfl rfl (Ef.grow rfl rfl rfl rfl rfl rfl rfl rfl rfl encI_len encI_sg (Grow.new (Le.put hb _) (put_same _ _ _) hb) (ls := l) (.sl (h.le (Le.put hb _)) encI_len rfl) (by simp; omega)) ?_
 rintro _ _ _ ⟨v', rfl, rfl, hg', _⟩
 refine W.go 99 rfl ?_
 refine W.ret r rfl rfl ?_
 exact hg'
theorem flat_I (l : List Int) : l.flatMap encI = l.map (Value.int .i64) := by
 induction l with
 | nil => rfl
 | cons x l ih => rw [List.flatMap_cons, ih]; rfl
theorem Own.set {L : LH} {e : TypeId} {v : Value} {l : List Int} {b d : Nat} {x : Int} (h : Own L 1 e v l.length (l.flatMap encI) (some b)) (hd : d < l.length) :
  ∃ c, L b = some (.cells c e (0, 0), true) ∧ d + 1 ≤ c.size ∧ Own (L.put b (.cells (putRow c d [.int .i64 x]) e)) 1 e v (l.set d x).length ((l.set d x).flatMap encI) (some b) := by
 obtain ⟨cap, c, h1, h2, h3, h4, h5, h6⟩ := h
 refine ⟨c, h2, by omega, cap, putRow c d [.int .i64 x], ?_, put_same _ _ _, by rw [putRow_size]; exact h3, by rw [List.length_set]; exact h4, ?_, ?_⟩
 ·rw [List.length_set]; exact h1
 ·rw [flat_I, List.length_map, Nat.mul_one]
 ·intro i y hy
  rw [flat_I, List.map_set] at hy
  rw [putRow_get]
  rw [flat_I] at h6
  by_cases e : i = d
  ·subst e
   rw [List.getElem?_set_self (by simpa using hd)] at hy
   cases hy
   rw [if_neg (by omega), dif_pos ⟨by simp, by omega⟩]
   simp
  ·rw [List.getElem?_set_ne (Ne.symm e)] at hy
   have := h6 i y hy
   split
   ·exact this
   ·rw [dif_neg (by simp; omega)]; exact this
def spareB (s : St) (hs : List Int) (d : Nat) (k : Nat) : Bool := heatsE s (withS hs d k) == 0 && canS s (withS hs d k)
theorem find_down {f : Nat → Bool} : ∀ (m k : Nat), k < m → f k = true → (∀ j, k < j → j < m → f j = false) → (List.range m).reverse.find? f = some k
 | m + 1, k, hk, hf, hn => by
  rw [List.range_succ, List.reverse_append]
  simp only [List.reverse_singleton, List.singleton_append, List.find?_cons]
  by_cases e : k = m
  ·subst e; rw [hf]
  ·rw [hn m (by omega) (by omega)]
   exact find_down m k (by omega) hf fun j h1 h2 => hn j h1 (by omega)
theorem find_none {f : Nat → Bool} (m : Nat) (h : ∀ j, j < m → f j = false) : (List.range m).reverse.find? f = none := by
 rw [List.find?_eq_none]
 intro x hx
 rw [List.mem_reverse, List.mem_range] at hx
 rw [h x hx]; simp
def SpareE (s : St) (hs : List Int) (d : Int) : Int × Int := if openE s hs [] [d] ≠ 0 then (0, openE s hs [] [d]) else match spareS s hs d.toNat with
 | none => (0, 11)
 | some h => (h, 0)
theorem Spare_sp (s : St) (p : Pt) (ha : Option Addr) (hc : Nat) (hs : List Int) (d : Int) (L : LH) (h : AskAt L s p ha hs) :
  Sp X 55 [stA s p, .slice ha hs.length hc, .int .i64 d] L (fun v L' => v = .tuple #[.int .i64 (SpareE s hs d).1, .int .i64 (SpareE s hs d).2] ∧ Le L L') := by
 refine Sp.enter (n := 48) Tryz.func55 rfl rfl rfl rfl fun C hX _ hL0 r => ?_
 refine W.go 99 rfl ?_
 refine W.pub 17 (.inr ⟨_, _, _, rfl⟩) rfl rfl ?_
 intro b hb _
 have hl := Le.put hb (.cells #[.int .i64 d] 3)
 have hr := open_sp (X := C.X) s p ha none (some ⟨b, 0, none⟩) hc 0 1 hs [] [d] _ (h.le hl) ints0 (ints1 (put_same _ _ _)) (by simp) (by simp)
 refine W.eff rfl rfl rfl (Ef.call rfl (hr)) ?_
 rintro _ _ _ ⟨_, rfl, rfl, hq⟩
 rcases hq with ⟨h0, rfl, hle⟩ | ⟨h0, u, rfl, z, mr, F, rfl, rfl, rfl, hmv, hLF, hFL, hFm, hsv, hmr⟩
 ·refine W.go 99 rfl ?_
  refine W.split rfl rfl rfl (fun e1 => W.go 99 rfl ?_) (fun e1 => W.go 99 rfl ?_)
  ·refine W.ret r rfl rfl ?_
   unfold SpareE
   rw [if_pos h0]
   exact ⟨rfl, hl.trans hle⟩
  ·simp at e1; exact absurd e1 h0
 ·rename_i L2
  refine W.go 99 rfl ?_
  refine W.split rfl rfl rfl (fun c => absurd c (by decide)) (fun c => ?_)
  refine W.go 99 rfl ?_
  have hv := hsv.le hFL
  obtain ⟨hok, hhk, _, hdd⟩ := open_ok h0
  have hdi := hdd d (List.mem_cons_self ..)
  have hlen := hhk.len
  have hd4 := hok.d4
  have hd1 := hok.d1
  have hL2 : Le L L2 := hl.trans (hLF.trans hFL)
  obtain ⟨dn, rfl⟩ : ∃ dn : Nat, d = dn := Int.eq_ofNat_of_zero_le (by unfold inB at hdi; simp at hdi; omega)
  have hdn : dn < z.hs.length := by unfold inB at hdi; simp at hdi; omega
  have hcl := CloneI_own (X := C.X) ha hc z.hs L2 (h.he.le hL2) (by omega) (fun e => by rw [e] at hdn; simp at hdn)
  refine W.eff rfl rfl rfl (Ef.call rfl (hcl)) ?_
  rintro _ _ _ ⟨_, rfl, rfl, hg⟩
  refine W.go 99 rfl ?_
  rename_i L3 v10
  obtain ⟨hl23, ob, hown, hfr⟩ := hg
  cases ob with
  | none => obtain ⟨_, e, _⟩ := hown; omega
  | some bo =>
  have hbo := hfr bo rfl
  obtain ⟨cp, cc, rfl, _⟩ := id hown
  have ht0 := hok.t0
  have ht5 := hok.t5
  have hcapL : z.hs.length ≤ 4 := by omega
  obtain ⟨n0, hn0⟩ : ∃ n0 : Nat, z.s.top = (n0 : Int) - 1 := ⟨(z.s.top + 1).toNat, by omega⟩
  refine W.loop (fun m E B L' => ∃ (n : Nat) (x : Int), n = m ∧ n ≤ n0 ∧ Le L2 L' ∧ Own L' 1 3 (.slice (some ⟨bo, 0, none⟩) z.hs.length cp) (z.hs.set dn x).length ((z.hs.set dn x).flatMap encI) (some bo) ∧ (∀ k, n ≤ k → k < n0 → spareB z.s z.hs dn k = false) ∧
    E = [(2, .v (.int .i64 (dn : Int))), (3, .p 0 0), (10, .v (.slice (some ⟨bo, 0, none⟩) z.hs.length cp)), (11, .v (.int .i64 ((n : Int) - 1)))] ∧ B = [some ⟨cellsS (.v (stA z.s p)), 25⟩])
   ⟨n0, z.hs[dn], rfl, by omega, hl23, ?_, fun k _ _ => by omega, rfl, rfl⟩ (by rw [hn0]; exact ⟨rfl, rfl, rfl, rfl, trivial⟩) (by exact ⟨rfl, trivial⟩) ?_
  ·rw [List.set_getElem_self]; exact hown
  rintro _ _ _ L4 ⟨n, x, rfl, hn, hle4, hown4, hno, rfl, rfl⟩ again
  refine W.go 99 rfl ?_
  refine W.split rfl rfl rfl (fun e1 => W.go 99 rfl ?_) (fun e1 => W.go 99 rfl ?_)
  ·have hn1 : 1 ≤ n := by simp at e1; omega
   obtain ⟨k, rfl⟩ : ∃ k, n = k + 1 := ⟨n - 1, by omega⟩
   have hk1 : ((k + 1 : Nat) : Int) - 1 = (k : Int) := by omega
   rw [hk1]
   obtain ⟨c4, hc4, hcd, hown5⟩ := hown4.set (d := dn) (x := (k : Int)) (by rw [List.length_set]; exact hdn)
   rw [List.set_set] at hown5
   refine W.vf rfl rfl rfl rfl (Vf.idx1 rfl rfl rfl rfl rfl rfl rfl (hdn)) ?_
   have hx13 : (Addr.add ⟨bo, 0, none⟩ dn) = ⟨bo, dn, none⟩ := by rw [add_of, Nat.zero_add]
   refine W.eff0 rfl rfl (Ef.stoF (congrArg (fun a => some (SV.v (.pointer (some a)))) hx13) ⟨_, rfl, rfl⟩ rfl hc4 rfl hcd (singles rfl)) ?_
   rintro _ _ _ ⟨rfl, rfl, rfl⟩
   refine W.go 99 rfl ?_
   have hneq : ∀ b' o, L2 b' = some o → b' ≠ bo := fun b' o ho e => by rw [e, hbo] at ho; cases ho
   have hle5 : Le L2 (L4.put bo (.cells (putRow c4 dn [.int .i64 (k : Int)]) 3)) := le_put_none hle4 hbo _
   generalize hL5 : L4.put bo (.cells (putRow c4 dn [.int .i64 (k : Int)]) 3) = L5 at hle5 hown5
   change W C _ _ _ _ _ (L4.put bo (.cells (putRow c4 dn [.int .i64 (k : Int)]) 3))
   rw [hL5]
   clear hL5
   have hws : (withS z.hs dn k).length = z.hs.length := by unfold withS; rw [List.length_set]
   have hat : IntsAt L5 (some ⟨bo, 0, none⟩) (withS z.hs dn k) := hown5.at encI_len
   have hch := checkHeats_sp (X := C.X) z.s p (some ⟨bo, 0, none⟩) cp (withS z.hs dn k) L5 hat (by omega)
   rw [hws] at hch
   refine W.eff rfl rfl rfl (Ef.call rfl (hch)) ?_
   rintro _ _ _ ⟨_, rfl, rfl, rfl, rfl⟩
   refine W.go 99 rfl ?_
   have hk2 : SV.v (.int .i64 (IntKind.i64.wrap ((k : Int) - 1))) = .v (.int .i64 ((k : Int) - 1)) := w64 rfl (by omega) (by omega)
   refine W.split rfl rfl rfl (fun e2 => W.go 99 rfl ?_) (fun e2 => W.go 99 rfl ?_)
   ·have hf : spareB z.s z.hs dn k = false := by
     unfold spareB
     simp at e2
     simp [e2]
    exact W.again (again _ _ _ _ (by omega) ⟨k, (k : Int), rfl, by omega, hle5, hown5, (fun j h1 h2 => by
     by_cases e : j = k
     ·subst e; exact hf
     ·exact hno j (by omega) h2), rfl, rfl⟩) ⟨rfl, rfl, rfl, congrArg some hk2, trivial⟩ ⟨rfl, trivial⟩
   ·have hh0 : heatsE z.s (withS z.hs dn k) = 0 := by simpa using e2
    have hns := newStove_sp (X := C.X) z.s p (some ⟨bo, 0, none⟩) cp (withS z.hs dn k) L5 (h.st.le (hL2.trans hle5)) hat hok (hok_of hh0) (h.gl.le (hL2.trans hle5))
    rw [hws] at hns
    refine W.eff rfl rfl rfl (Ef.call rfl (hns)) ?_
    rintro _ _ _ ⟨_, rfl, rfl, z2, mr2, F2, rfl, hz2, hz3, hmv2, hLF2, hFL2, hFm2, hsv2, hmr2⟩
    refine W.go 99 rfl ?_
    rename_i L6
    have hv6 := hsv2.le hFL2
    have hle56 := hLF2.trans hFL2
    refine W.eff rfl rfl rfl (Ef.call rfl (full_sp z2 L6 hv6)) ?_
    rintro _ _ _ ⟨_, rfl, rfl, rfl, rfl⟩
    refine W.go 99 rfl ?_
    refine W.eff rfl rfl rfl (Ef.call rfl (dries_sp z2 (fullC z2.s.cones.length) L6 hv6)) ?_
    rintro _ _ _ ⟨_, rfl, rfl, rfl, hle7⟩
    refine W.go 99 rfl ?_
    have hcan : driesS z2.s z2.hs (fullC z2.s.cones.length) = canS z.s (withS z.hs dn k) := by
     unfold driesS canS
     rw [plans_full, hz2, hz3]
    refine W.split rfl rfl rfl (fun e3 => W.go 99 rfl ?_) (fun e3 => W.go 99 rfl ?_)
    ·refine W.ret r rfl rfl ?_
     have hf : spareB z.s z.hs dn k = true := by
      unfold spareB
      rw [hh0, ← hcan, e3]; rfl
     have hsp : spareS z.s z.hs dn = some k := by
      unfold spareS
      rw [hn0, show ((n0 : Int) - 1 + 1).toNat = n0 by omega]
      exact find_down n0 k (by omega) hf fun j h1 h2 => hno j (by omega) h2
     have e : SpareE z.s z.hs dn = ((k : Int), 0) := by unfold SpareE; rw [if_neg (by rw [h0]; simp), Int.toNat_natCast, hsp]
     rw [e]
     exact ⟨rfl, hL2.trans (hle5.trans (hle56.trans hle7))⟩
    ·have hf : spareB z.s z.hs dn k = false := by
      unfold spareB
      rw [← hcan, e3, Bool.and_false]
     exact W.again (again _ _ _ _ (by omega) ⟨k, (k : Int), rfl, by omega, hle5.trans (hle56.trans hle7), hown5.le (hle56.trans hle7), (fun j h1 h2 => by
      by_cases e : j = k
      ·subst e; exact hf
      ·exact hno j (by omega) h2), rfl, rfl⟩) ⟨rfl, rfl, rfl, congrArg some hk2, trivial⟩ ⟨rfl, trivial⟩
  ·have hn00 : n = 0 := by simp at e1; omega
   subst hn00
   refine W.ret r rfl rfl ?_
   have hsp : spareS z.s z.hs dn = none := by
    unfold spareS
    rw [hn0, show ((n0 : Int) - 1 + 1).toNat = n0 by omega]
    exact find_none n0 fun j h1 => hno j (by omega) h1
   have e : SpareE z.s z.hs dn = (0, 11) := by unfold SpareE; rw [if_neg (by rw [h0]; simp), Int.toNat_natCast, hsp]
   rw [e]
   exact ⟨rfl, hL2.trans hle4⟩
end Go.Mz

