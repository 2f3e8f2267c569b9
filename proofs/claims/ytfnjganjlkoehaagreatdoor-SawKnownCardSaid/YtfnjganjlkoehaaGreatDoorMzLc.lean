/- Lemmas on which the claim leans. -/
import Derived.Test.YtfnjganjlkoehaaGreatDoorMzLb
set_option maxRecDepth 100000
namespace Go.Mz
open Go.Conc Go.Proofs
variable {Post : Value → World → Prop} {W0 : World}
theorem ne_of2 {K : LH} {b q : Nat} {x : Obj × Bool} (h1 : K b = some x) (h2 : K q = none) : b ≠ q := fun e => by subst e; rw [h1] at h2; cases h2
theorem djA {A B Lj Lk : LH} {b : Nat} {y : Obj × Bool} (h : Le A Lj) (po : Mz.Post noL Lj B Lk) (hb : B b = some y) : A b = none := by
 cases ha : A b with
 | none => rfl
 | some x =>
  rcases po.fresh b (by rw [hb]; exact fun e => by cases e) with g | g
  ·exact absurd rfl g
  ·rw [h _ _ ha] at g; cases g
theorem djB {A B Lj Lk : LH} {b : Nat} {y : Obj × Bool} (h : Le A Lj) (po : Mz.Post noL Lj B Lk) (ha : A b = some y) : B b = none := by
 cases hb : B b with
 | none => rfl
 | some x => rw [djA h po hb] at ha; cases ha
theorem addS_sp {X : Logic Tryz.prog} (s : Sw) (x : Want) (e : Int) (he : (AddW s x).2 = e) (p : Wp) (L : LH) (h : SwAt L s p) (hn : Sm s) : Sp X 58 [swA s p, .agg (encWt x).toArray] L (fun v L' => ∃ p', v = .tuple #[swA (AddW s x).1 p', .int .i64 e] ∧ Le L L') :=
 (Add_sp s p x L h hn).mono (fun _ _ ⟨p', hv, _, hl⟩ => ⟨p', by rw [hv, he], hl⟩) (fun _ _ h => h)
theorem sm1 : Sm shop1 := ⟨by decide, by decide, by decide, by decide⟩
theorem sm2 : Sm shop2 := ⟨by decide, by decide, by decide, by decide⟩
theorem sm3 : Sm shop3 := ⟨by decide, by decide, by decide, by decide⟩
theorem sm4 : Sm shop4 := ⟨by decide, by decide, by decide, by decide⟩
theorem sm5 : Sm shop5 := ⟨by decide, by decide, by decide, by decide⟩
theorem KnF_run (L : LH) (hgl : GlOk L)
  (hQ : ∀ v L' w, (v = .bool true ∧ Dim L L') → Sub L' w → Same W0 w → Post v w) :
  FGo Tryz.prog Post W0 (G (Frame.enter Tryz.prog 19 [].toArray .normal) []) L := by
 refine root_enter (n := 395) (s := 0) Tryz.func19 rfl rfl (by kernel_rfl) rfl rfl hQ fun C hX _ hL0 rt => ?_
 have drd : ∀ L2, GlOk L2 → Sp C.X 21 [] L2 (fun v L' => v = .bool true ∧ Dim L2 L') := fun L2 h => by rw [hX]; exact cut_sp L2 h
 refine W.go 99 rfl ?_
 refine W.eff rfl rfl rfl (Ef.call rfl ((shop2_sp 2 noL).frame (noL_le L))) ?_
 rintro _ _ _ ⟨u1, rfl, rfl, G1, ⟨p1, F1, R1, e1, d1⟩, po1⟩
 refine W.go 99 rfl ?_
 rename_i L1
 refine W.eff rfl rfl rfl (Ef.call rfl ((shop2_sp 2 noL).frame (noL_le L1))) ?_
 rintro _ _ _ ⟨u2, rfl, rfl, G2, ⟨p2, F2, R2, e2, d2⟩, po2⟩
 refine W.go 99 rfl ?_
 rename_i L2
 refine W.eff rfl rfl rfl (Ef.call rfl ((shop2_sp 2 noL).frame (noL_le L2))) ?_
 rintro _ _ _ ⟨u3, rfl, rfl, G3, ⟨p3, F3, R3, e3, d3⟩, po3⟩
 refine W.go 99 rfl ?_
 rename_i L3
 refine W.eff rfl rfl rfl (Ef.call rfl ((shop2_sp 2 noL).frame (noL_le L3))) ?_
 rintro _ _ _ ⟨u4, rfl, rfl, G4, ⟨p4, F4, R4, e4, d4⟩, po4⟩
 refine W.go 99 rfl ?_
 rename_i L4
 refine W.eff rfl rfl rfl (Ef.call rfl ((shop2_sp 2 noL).frame (noL_le L4))) ?_
 rintro _ _ _ ⟨u5, rfl, rfl, G5, ⟨p5, F5, R5, e5, d5⟩, po5⟩
 refine W.go 99 rfl ?_
 rename_i L5
 subst e1 e2 e3 e4 e5
 have l01 := po1.all (noL_le _) (noL_le _)
 have l12 := po2.all (noL_le _) (noL_le _)
 have l23 := po3.all (noL_le _) (noL_le _)
 have l34 := po4.all (noL_le _) (noL_le _)
 have l45 := po5.all (noL_le _) (noL_le _)
 obtain ⟨b2, hb2⟩ := d2.lo.blk (by have := congrArg List.length d2.re; simp at this; rw [this]; decide)
 obtain ⟨b4, hb4⟩ := d4.wt.blk (by decide)
 obtain ⟨b5, hb5⟩ := d5.wt.blk (by decide)
 obtain ⟨p2a, p2b, p2c, p2d, p2e, p2f⟩ := p2
 obtain ⟨p4a, p4b, p4c, p4d, p4e, p4f⟩ := p4
 obtain ⟨p5a, p5b, p5c, p5d, p5e, p5f⟩ := p5
 dsimp only at hb2 hb4 hb5
 subst hb2 hb4 hb5
 refine W.pub 1 (.inl ⟨_, rfl⟩) rfl rfl ?_
 intro g1 hg1 _
 refine W.pub 3 (.inl ⟨_, rfl⟩) rfl rfl ?_
 intro g3 hg3 _
 refine W.weak (E' := [(1, .v (pt g1)), (2, .p 1 0), (3, .v (pt g3)), (4, .p 3 0), (5, .p 4 0)]) (B' := [none, some ⟨cellsS (.v (swA (shopW 2) ⟨some ⟨b2, 0, none⟩, p2b, p2c, p2d, p2e, p2f⟩)), 26⟩, none, some ⟨cellsS (.v (swA (shopW 2) ⟨p4a, p4b, some ⟨b4, 0, none⟩, p4d, p4e, p4f⟩)), 26⟩, some ⟨cellsS (.v (swA (shopW 2) ⟨p5a, p5b, some ⟨b5, 0, none⟩, p5d, p5e, p5f⟩)), 26⟩]) (by exact ⟨rfl, rfl, rfl, rfl, rfl, trivial⟩) (by exact ⟨rfl, rfl, rfl, rfl, rfl, trivial⟩) ?_
 change W C _ _ _ _ _ ((L5.put g1 (.cells ([(shopW 2, p1)].flatMap encSP).toArray 26)).put g3 (.cells ([(shopW 2, p3)].flatMap encSP).toArray 26))
 replace hg3 : (L5.put g1 (.cells ([(shopW 2, p1)].flatMap encSP).toArray 26)) g3 = none := hg3
 have q1 := Le.put hg1 (.cells ([(shopW 2, p1)].flatMap encSP).toArray 26)
 have q3 := Le.put hg3 (.cells ([(shopW 2, p3)].flatMap encSP).toArray 26)
 have n31 : g3 ≠ g1 := fun e => by subst e; rw [put_same] at hg3; cases hg3
 have kg1 := (put_ne (L5.put g1 (.cells ([(shopW 2, p1)].flatMap encSP).toArray 26)) (.cells ([(shopW 2, p3)].flatMap encSP).toArray 26) n31.symm).trans (put_same _ _ _)
 have kg3 := put_same (L5.put g1 (.cells ([(shopW 2, p1)].flatMap encSP).toArray 26)) g3 (.cells ([(shopW 2, p3)].flatMap encSP).toArray 26)
 have z3 : L5 g3 = none := by rw [put_ne _ _ n31] at hg3; exact hg3
 have qH := q1.trans q3
 have eH : ∀ t, t ≠ g1 → t ≠ g3 → ((L5.put g1 (.cells ([(shopW 2, p1)].flatMap encSP).toArray 26)).put g3 (.cells ([(shopW 2, p3)].flatMap encSP).toArray 26)) t = L5 t := fun t h1 h3 => by rw [put_ne _ _ h3, put_ne _ _ h1]
 generalize ((L5.put g1 (.cells ([(shopW 2, p1)].flatMap encSP).toArray 26)).put g3 (.cells ([(shopW 2, p3)].flatMap encSP).toArray 26)) = H at qH kg1 kg3 eH ⊢
 have h15 : Le G1 L5 := po1.le.trans (l12.trans (l23.trans (l34.trans l45)))
 have h25 : Le G2 L5 := po2.le.trans (l23.trans (l34.trans l45))
 have h35 : Le G3 L5 := po3.le.trans (l34.trans l45)
 have h45 : Le G4 L5 := po4.le.trans l45
 have h55 : Le G5 L5 := po5.le
 obtain ⟨_, cap2, c2, v2, i2, k2, s2, -⟩ := d2.lo.setN encRw_len (d := 0) (by have := congrArg List.length d2.re; simp at this; rw [this]; decide) ((none, 0, 0), [])
 obtain ⟨hh, -, -⟩ := Value.slice.inj v2
 cases hh
 obtain ⟨_, cap4, c4, v4, i4, k4, s4, w4⟩ := d4.wt.setKind (w := 0) rfl (-1)
 obtain ⟨hh, -, -⟩ := Value.slice.inj v4
 cases hh
 obtain ⟨_, cap5, c5, v5, i5, k5, s5, w5⟩ := d5.wt.setAmount (w := 1) rfl 3
 obtain ⟨hh, -, -⟩ := Value.slice.inj v5
 cases hh
 have n2g : ∀ {g : Nat} {G : LH} {x : Obj × Bool} {b : Nat}, Le G L5 → G b = some x → L5 g = none → b ≠ g := fun {g G x b} h1 h2 h3 e => by subst e; rw [h1 _ _ h2] at h3; cases h3
 refine W.go 99 rfl ?_
 refine W.drawn (by kernel_rfl) noL (noL_le _) ?_
 refine DD.run' [0, 1, 2, 3, 4, 5, 6, 7] rfl ?_
 refine DD.act 8 rfl rfl rfl rfl rfl (Ef.stoF (off := 0) rfl ⟨_, rfl, rfl⟩ rfl kg1 rfl (show 1 ≤ 4 by decide) (singles rfl)) ((by rintro _ _ _ ⟨rfl, rfl, rfl⟩; exact ⟨noL_le _, rfl, .inl rfl⟩)) ?_
 rintro _ _ _ ⟨rfl, rfl, rfl⟩
 have m2 := n2g h25 k2 hg1
 have kH2 := (put_ne H (.cells (putRow ([(shopW 2, p1)].flatMap encSP).toArray 0 [.slice none 0 0]) 26) m2).trans ((eH _ m2 (n2g h25 k2 z3)).trans (h25 _ _ k2))
 refine DD.vf 9 rfl rfl rfl rfl rfl (Vf.idx1 rfl rfl rfl rfl rfl rfl rfl ((show 0 < 2 by decide))) ?_
 refine DD.act 10 rfl rfl rfl rfl rfl (Ef.pub 38 (.inr ⟨_, _, _, rfl⟩) rfl rfl (fun q hq _ => Ef.stoF (b := b2) (off := 0) rfl ⟨_, rfl, rfl⟩ rfl ((put_ne _ _ (ne_of2 kH2 hq)).trans kH2) rfl s2 (singles rfl))) (by rintro _ _ _ ⟨q, hq, _, rfl, rfl, rfl⟩; exact ⟨noL_le _, rfl, .inl rfl⟩) ?_
 rintro _ _ _ ⟨q, hq, _, rfl, rfl, rfl⟩
 have m4 := n2g h45 k4 hg1
 have m5 := n2g h55 k5 hg1
 have m43 := n2g h45 k4 z3
 have m53 := n2g h55 k5 z3
 have m23 := n2g h25 k2 z3
 have m54 : b5 ≠ b4 := fun e => by
  subst e
  have h1 : L4 b5 ≠ none := by rw [po4.le _ _ k4]; exact fun e => by cases e
  rcases po5.fresh b5 (by rw [k5]; exact fun e => by cases e) with h | h
  ·exact h rfl
  ·exact h1 h
 have m42 : b4 ≠ b2 := fun e => by subst e; have h1 := h45 _ _ k4; rw [h25 _ _ k2] at h1; cases h1
 have m52 : b5 ≠ b2 := fun e => by subst e; have h1 := h55 _ _ k5; rw [h25 _ _ k2] at h1; cases h1
 have kq : ∀ {t : Nat} {x : Obj × Bool}, H t = some x → t ≠ g1 → t ≠ q := fun {t x} h h1 => ne_of2 ((put_ne H (.cells (putRow ([(shopW 2, p1)].flatMap encSP).toArray 0 [.slice none 0 0]) 26) h1).trans h) hq
 have kH3 := kg3
 have kH4 := (eH _ m4 m43).trans (h45 _ _ k4)
 have kH5 := (eH _ m5 m53).trans (h55 _ _ k5)
 have r3 := kq kH3 n31
 have r4 := kq kH4 m4
 have r5 := kq kH5 m5
 have r2 := kq ((eH _ m2 m23).trans (h25 _ _ k2)) m2
 refine DD.run' [11] rfl ?_
 refine DD.act 12 rfl rfl rfl rfl rfl (Ef.stoF (off := 2) rfl ⟨_, rfl, rfl⟩ rfl ((put_ne _ _ m23.symm).trans ((put_ne _ _ r3).trans ((put_ne _ _ n31).trans kH3))) rfl (show 3 ≤ 4 by decide) (singles rfl)) ((by rintro _ _ _ ⟨rfl, rfl, rfl⟩; exact ⟨noL_le _, rfl, .inl rfl⟩)) ?_
 rintro _ _ _ ⟨rfl, rfl, rfl⟩
 refine DD.vf 13 rfl rfl rfl rfl rfl (Vf.idx rfl rfl rfl rfl rfl rfl ((show 0 < 4 by decide))) ?_
 refine DD.run' [14] rfl ?_
 refine DD.act 15 rfl rfl rfl rfl rfl (Ef.stoF (b := b4) (off := 1) rfl ⟨_, rfl, rfl⟩ rfl ((put_ne _ _ m43).trans ((put_ne _ _ m42).trans ((put_ne _ _ r4).trans ((put_ne _ _ m4).trans kH4)))) rfl s4 (singles rfl)) ((by rintro _ _ _ ⟨rfl, rfl, rfl⟩; exact ⟨noL_le _, rfl, .inl rfl⟩)) ?_
 rintro _ _ _ ⟨rfl, rfl, rfl⟩
 refine DD.vf 16 rfl rfl rfl rfl rfl (Vf.idx rfl rfl rfl rfl rfl rfl ((show 1 < 4 by decide))) ?_
 refine DD.run' [17] rfl ?_
 refine DD.act 18 rfl rfl rfl rfl rfl (Ef.stoF (b := b5) (off := 6) rfl ⟨_, rfl, rfl⟩ rfl ((put_ne _ _ m54).trans ((put_ne _ _ m53).trans ((put_ne _ _ m52).trans ((put_ne _ _ r5).trans ((put_ne _ _ m5).trans kH5))))) rfl s5 (singles rfl)) ((by rintro _ _ _ ⟨rfl, rfl, rfl⟩; exact ⟨noL_le _, rfl, .inl rfl⟩)) ?_
 rintro _ _ _ ⟨rfl, rfl, rfl⟩
 refine .fin rfl ?_
 change W C _ _ _ _ _ ((((((H.put g1 (.cells (encSP (shop1, ⟨none, p1.sa, p1.wa, 0, p1.sc, p1.wc⟩)).toArray 26)).put q (.cells (([2, 3, 5] : List Int).flatMap encI).toArray 3)).put b2 (.cells (putRow c2 0 [.slice (some ⟨q, 0, none⟩) 3 3]) 23)).put g3 (.cells (encSP (shop3, p3)).toArray 26)).put b4 (.cells (putRow c4 1 [.int .i64 (-1)]) 28)).put b5 (.cells (putRow c5 6 [.int .i64 3]) 28))
 have sw : ∃ Z, Z = ((((((H.put g1 (.cells (encSP (shop1, ⟨none, p1.sa, p1.wa, 0, p1.sc, p1.wc⟩)).toArray 26)).put q (.cells (([2, 3, 5] : List Int).flatMap encI).toArray 3)).put b2 (.cells (putRow c2 0 [.slice (some ⟨q, 0, none⟩) 3 3]) 23)).put g3 (.cells (encSP (shop3, p3)).toArray 26)).put b4 (.cells (putRow c4 1 [.int .i64 (-1)]) 28)).put b5 (.cells (putRow c5 6 [.int .i64 3]) 28)) ∧
   SlAt Z (some ⟨g1, 0, none⟩) 4 encSP [(shop1, ⟨none, p1.sa, p1.wa, 0, p1.sc, p1.wc⟩)] ∧ SlAt Z (some ⟨g3, 0, none⟩) 4 encSP [(shop3, p3)] ∧
   SwAt Z shop1 ⟨none, p1.sa, p1.wa, 0, p1.sc, p1.wc⟩ ∧ SwAt Z shop2 ⟨some ⟨b2, 0, none⟩, p2b, p2c, p2d, p2e, p2f⟩ ∧ SwAt Z shop3 p3 ∧ SwAt Z shop4 ⟨p4a, p4b, some ⟨b4, 0, none⟩, p4d, p4e, p4f⟩ ∧ SwAt Z shop5 ⟨p5a, p5b, some ⟨b5, 0, none⟩, p5d, p5e, p5f⟩ ∧ Le L Z := by
  refine ⟨_, rfl, ?_⟩
  generalize hZ : ((((((H.put g1 (.cells (encSP (shop1, ⟨none, p1.sa, p1.wa, 0, p1.sc, p1.wc⟩)).toArray 26)).put q (.cells (([2, 3, 5] : List Int).flatMap encI).toArray 3)).put b2 (.cells (putRow c2 0 [.slice (some ⟨q, 0, none⟩) 3 3]) 23)).put g3 (.cells (encSP (shop3, p3)).toArray 26)).put b4 (.cells (putRow c4 1 [.int .i64 (-1)]) 28)).put b5 (.cells (putRow c5 6 [.int .i64 3]) 28)) = Z
  have rg : g1 ≠ q := ne_of2 (put_same H g1 (.cells (putRow ([(shopW 2, p1)].flatMap encSP).toArray 0 [.slice none 0 0]) 26)) hq
  have zq : Z q = some (.cells (([2, 3, 5] : List Int).flatMap encI).toArray 3 (0, 0), true) := by rw [← hZ, put_ne _ _ r5.symm, put_ne _ _ r4.symm, put_ne _ _ r3.symm, put_ne _ _ r2.symm]; exact put_same _ _ _
  have z1 : Z g1 = some (.cells (encSP (shop1, ⟨none, p1.sa, p1.wa, 0, p1.sc, p1.wc⟩)).toArray 26 (0, 0), true) := by rw [← hZ, put_ne _ _ m5.symm, put_ne _ _ m4.symm, put_ne _ _ n31.symm, put_ne _ _ m2.symm, put_ne _ _ rg]; exact put_same _ _ _
  have z2 : Z b2 = some (.cells (putRow c2 0 [.slice (some ⟨q, 0, none⟩) 3 3]) 23 (0, 0), true) := by rw [← hZ, put_ne _ _ m52.symm, put_ne _ _ m42.symm, put_ne _ _ m23]; exact put_same _ _ _
  have z3 : Z g3 = some (.cells (encSP (shop3, p3)).toArray 26 (0, 0), true) := by rw [← hZ, put_ne _ _ m53.symm, put_ne _ _ m43.symm]; exact put_same _ _ _
  have z4 : Z b4 = some (.cells (putRow c4 1 [.int .i64 (-1)]) 28 (0, 0), true) := by rw [← hZ, put_ne _ _ m54.symm]; exact put_same _ _ _
  have z5 : Z b5 = some (.cells (putRow c5 6 [.int .i64 3]) 28 (0, 0), true) := by rw [← hZ]; exact put_same _ _ _
  have eZ : ∀ {t : Nat} {x : Obj × Bool}, L5 t = some x → t ≠ b2 → t ≠ b4 → t ≠ b5 → Z t = some x := fun {t x} h h2 h4 h5 => by
   have a1 : t ≠ g1 := ne_of2 h hg1
   have a3 : t ≠ g3 := ne_of2 h ‹L5 g3 = none›
   have aH : H t = some x := (eH _ a1 a3).trans h
   have aq := kq aH a1
   rw [← hZ, put_ne _ _ h5, put_ne _ _ h4, put_ne _ _ a3, put_ne _ _ h2, put_ne _ _ aq, put_ne _ _ a1]
   exact aH
  have leZ : ∀ {G : LH}, Le G L5 → G b2 = none → G b4 = none → G b5 = none → Le G Z := fun {G} h h2 h4 h5 t x hx => eZ (h _ _ hx) (ne_of2 hx h2) (ne_of2 hx h4) (ne_of2 hx h5)
  have hG1 : Le G1 Z := leZ h15 (djA po1.le po2 k2) (djA (po1.le.trans (l12.trans l23)) po4 k4) (djA (po1.le.trans (l12.trans (l23.trans l34))) po5 k5)
  have hG3 : Le G3 Z := leZ h35 (djB po2.le po3 k2) (djA po3.le po4 k4) (djA (po3.le.trans l34) po5 k5)
  have hLZ : Le L Z := leZ (l01.trans (l12.trans (l23.trans (l34.trans l45)))) (djA l01 po2 k2) (djA (l01.trans (l12.trans l23)) po4 k4) (djA (l01.trans (l12.trans (l23.trans l34))) po5 k5)
  have s1 := d1.at_.1.le hG1
  have s3 := d3.at_.1.le hG3
  refine ⟨sl_block (e := 26) encSP_len z1, sl_block (e := 26) encSP_len z3, ⟨⟨[], rfl, SlAt.empty, fun x hx => by cases hx⟩, s1.st, s1.wt, s1.cap⟩, ?_, ⟨s3.lo, s3.st, s3.wt, s3.cap⟩, ?_, ?_, hLZ⟩
  ·have q2 : G2 q = none := by
    cases h : G2 q with
    | none => rfl
    | some x =>
     have a1 : q ≠ g1 := rg.symm
     have a3 : q ≠ g3 := ne_of2 (h25 _ _ h) ‹L5 g3 = none›
     exact absurd rfl (kq ((eH _ a1 a3).trans (h25 _ _ h)) a1)
   have hq2 := Le.put q2 (.cells (([2, 3, 5] : List Int).flatMap encI).toArray 3)
   obtain ⟨_, _, c2', v2', _, k2', _, lo'⟩ := (d2.lo.le hq2).setN encRw_len (d := 0) (by have := congrArg List.length d2.re; simp at this; rw [this]; decide) ((some ⟨q, 0, none⟩, 3, 3), [2, 3, 5])
   obtain ⟨hh, -, -⟩ := Value.slice.inj v2'
   cases hh
   have hc : c2' = c2 := by
    rw [put_ne _ _ r2, k2] at k2'
    cases k2'; rfl
   subst hc
   have st' := (d2.st.le hq2).other k2' (by decide) i2 (.cells (putRow c2' (0 * 1) (encRw ((some ⟨q, 0, none⟩, 3, 3), ([2, 3, 5] : List Int)))) 23)
   have wt' := (d2.wt.le hq2).other k2' (by decide) i2 (.cells (putRow c2' (0 * 1) (encRw ((some ⟨q, 0, none⟩, 3, 3), ([2, 3, 5] : List Int)))) 23)
   have hA : Le ((G2.put q (.cells (([2, 3, 5] : List Int).flatMap encI).toArray 3)).put b2 (.cells (putRow c2' (0 * 1) (encRw ((some ⟨q, 0, none⟩, 3, 3), ([2, 3, 5] : List Int)))) 23)) Z := fun t x hx => by
    by_cases e2 : t = b2
    ·subst e2; rw [put_same] at hx; cases hx; exact z2
    ·rw [put_ne _ _ e2] at hx
     by_cases eq : t = q
     ·subst eq; rw [put_same] at hx; cases hx; exact zq
     ·rw [put_ne _ _ eq] at hx
      exact eZ (h25 _ _ hx) e2 (ne_of2 hx (djA (po2.le.trans l23) po4 k4)) (ne_of2 hx (djA (po2.le.trans (l23.trans l34)) po5 k5))
   refine SwAt.le ⟨⟨_, ?_, (lo'.at encRw_len).2, fun x hx => ?_⟩, (st'.at encI_len).2, (wt'.at encWt_len).2, d2.wl⟩ hA
   ·rw [List.map_set, d2.re]; rfl
   ·rcases List.mem_or_eq_of_mem_set hx with h | rfl
    ·exact (d2.rk x h).le lo'.1
    ·exact ⟨sl_block encI_len ((put_ne _ _ r2.symm).trans (put_same _ _ _)), rfl, Nat.le_refl 3⟩
  ·have lo' := d4.lo.other k4 (by decide) i4 (.cells (putRow c4 (0 * 4 + 1) [.int .i64 (-1)]) 28)
   have st' := d4.st.other k4 (by decide) i4 (.cells (putRow c4 (0 * 4 + 1) [.int .i64 (-1)]) 28)
   have hA : Le (G4.put b4 (.cells (putRow c4 (0 * 4 + 1) [.int .i64 (-1)]) 28)) Z := fun t x hx => by
    by_cases e2 : t = b4
    ·subst e2; rw [put_same] at hx; cases hx; exact z4
    ·rw [put_ne _ _ e2] at hx
     exact eZ (h45 _ _ hx) (ne_of2 hx (djB (po2.le.trans l23) po4 k2)) e2 (ne_of2 hx (djA po4.le po5 k5))
   exact SwAt.le ⟨⟨R4, d4.re, (lo'.at encRw_len).2, fun x hx => (d4.rk x hx).le lo'.1⟩, (st'.at encI_len).2, (w4.at encWt_len).2, d4.wl⟩ hA
  ·have lo' := d5.lo.other k5 (by decide) i5 (.cells (putRow c5 (1 * 4 + 2) [.int .i64 3]) 28)
   have st' := d5.st.other k5 (by decide) i5 (.cells (putRow c5 (1 * 4 + 2) [.int .i64 3]) 28)
   have hA : Le (G5.put b5 (.cells (putRow c5 (1 * 4 + 2) [.int .i64 3]) 28)) Z := fun t x hx => by
    by_cases e2 : t = b5
    ·subst e2; rw [put_same] at hx; cases hx; exact z5
    ·rw [put_ne _ _ e2] at hx
     exact eZ (h55 _ _ hx) (ne_of2 hx (djB (po2.le.trans (l23.trans l34)) po5 k2)) (ne_of2 hx (djB po4.le po5 k4)) e2
   exact SwAt.le ⟨⟨R5, d5.re, (lo'.at encRw_len).2, fun x hx => (d5.rk x hx).le lo'.1⟩, (st'.at encI_len).2, (w5.at encWt_len).2, d5.wl⟩ hA
 obtain ⟨Z, eZ, kg1', kg3', sw1, sw2, sw3, sw4, sw5, hLZ⟩ := sw
 rw [← eZ]
 clear eZ d1 d2 d3 d4 d5 po1 po2 po3 po4 po5 l01 l12 l23 l34 l45 h15 h25 h35 h45 h55 hg1 hg3 q1 q3 qH eH kg1 kg3 n2g kq hq kH2 kH3 kH4 kH5 w4 w5 k2 k4 k5
 refine W.weak (E' := [(1, .v (pt g1)), (2, .p 1 0), (3, .v (pt g3)), (4, .p 3 0), (5, .p 4 0)]) (B' := [none, some ⟨cellsS (.v (swA (shopW 2) ⟨some ⟨b2, 0, none⟩, p2b, p2c, p2d, p2e, p2f⟩)), 26⟩, none, some ⟨cellsS (.v (swA (shopW 2) ⟨p4a, p4b, some ⟨b4, 0, none⟩, p4d, p4e, p4f⟩)), 26⟩, some ⟨cellsS (.v (swA (shopW 2) ⟨p5a, p5b, some ⟨b5, 0, none⟩, p5d, p5e, p5f⟩)), 26⟩]) (by exact ⟨rfl, rfl, rfl, rfl, rfl, trivial⟩) (by exact ⟨rfl, rfl, rfl, rfl, rfl, trivial⟩) ?_
 obtain ⟨f1, f2, f3, f4, f5, f6, f7, f8, f9⟩ := known1
 have n2 := shop_sm 2
 have n1 := shop_sm 1
 refine W.go 99 rfl ?_
 have gl : ∀ {K : LH}, Dim L K → GlOk K := fun h => h.cell hgl
 have d := Dim.of_le hLZ
 refine W.eff rfl rfl rfl (Ef.call rfl (drd Z (gl d))) ?_
 rintro _ _ _ ⟨_, rfl, rfl, rfl, e0⟩
 refine W.go 99 rfl ?_
 rename_i K1
 have e := e0
 have d := d.trans e
 have kg1' := e.sl kg1'
 have kg3' := e.sl kg3'
 have sw1 := e.sw sw1
 have sw2 := e.sw sw2
 have sw3 := e.sw sw3
 have sw4 := e.sw sw4
 have sw5 := e.sw sw5
 clear e0
 refine W.asLit 48 (p := false) rfl rfl ?_
 refine W.go 99 rfl ?_
 refine W.eff rfl rfl rfl (Ef.call rfl (shop_sp 2 K1)) ?_
 rintro _ _ _ ⟨_, rfl, rfl, p2, rfl, hl, hs⟩
 refine W.go 99 rfl ?_
 rename_i K2
 have e := Dim.of_le hl
 have d := d.trans e
 have kg1' := e.sl kg1'
 have kg3' := e.sl kg3'
 have sw1 := e.sw sw1
 have sw2 := e.sw sw2
 have sw3 := e.sw sw3
 have sw4 := e.sw sw4
 have sw5 := e.sw sw5
 clear hl
 have hf := Check_sp (X := C.X) (shopW 2) p2 K2 hs n2
 rw [f1] at hf
 refine W.eff rfl rfl rfl (Ef.call rfl (hf)) ?_
 rintro _ _ _ ⟨_, rfl, rfl, rfl, rfl⟩
 refine W.go 99 rfl ?_
 clear hf
 refine W.asLit 53 (p := false) rfl rfl ?_
 refine W.go 99 rfl ?_
 refine W.vf rfl rfl rfl rfl (Vf.loadN rfl rfl rfl ((kg1'.whole (i := 0) rfl rfl))) ?_
 refine W.go 99 rfl ?_
 have hf := Check_sp (X := C.X) shop1 ⟨none, p1.sa, p1.wa, 0, p1.sc, p1.wc⟩ K2 sw1 sm1
 rw [f2] at hf
 refine W.eff rfl rfl rfl (Ef.call rfl (hf)) ?_
 rintro _ _ _ ⟨_, rfl, rfl, rfl, rfl⟩
 refine W.go 99 rfl ?_
 clear hf
 refine W.asLit 58 (p := false) rfl rfl ?_
 refine W.go 99 rfl ?_
 have hf := Check_sp (X := C.X) shop2 ⟨some ⟨b2, 0, none⟩, p2b, p2c, p2d, p2e, p2f⟩ K2 sw2 sm2
 rw [f3] at hf
 refine W.eff rfl rfl rfl (Ef.call rfl (hf)) ?_
 rintro _ _ _ ⟨_, rfl, rfl, rfl, rfl⟩
 refine W.go 99 rfl ?_
 clear hf
 refine W.asLit 63 (p := false) rfl rfl ?_
 refine W.go 99 rfl ?_
 refine W.vf rfl rfl rfl rfl (Vf.loadN rfl rfl rfl ((kg3'.whole (i := 0) rfl rfl))) ?_
 refine W.go 99 rfl ?_
 have hf := Check_sp (X := C.X) shop3 p3 K2 sw3 sm3
 rw [f4] at hf
 refine W.eff rfl rfl rfl (Ef.call rfl (hf)) ?_
 rintro _ _ _ ⟨_, rfl, rfl, rfl, rfl⟩
 refine W.go 99 rfl ?_
 clear hf
 refine W.asLit 68 (p := false) rfl rfl ?_
 refine W.go 99 rfl ?_
 have hf := Check_sp (X := C.X) shop4 ⟨p4a, p4b, some ⟨b4, 0, none⟩, p4d, p4e, p4f⟩ K2 sw4 sm4
 rw [f5] at hf
 refine W.eff rfl rfl rfl (Ef.call rfl (hf)) ?_
 rintro _ _ _ ⟨_, rfl, rfl, rfl, rfl⟩
 refine W.go 99 rfl ?_
 clear hf
 refine W.asLit 73 (p := false) rfl rfl ?_
 refine W.go 99 rfl ?_
 have hf := Check_sp (X := C.X) shop5 ⟨p5a, p5b, some ⟨b5, 0, none⟩, p5d, p5e, p5f⟩ K2 sw5 sm5
 rw [f6] at hf
 refine W.eff rfl rfl rfl (Ef.call rfl (hf)) ?_
 rintro _ _ _ ⟨_, rfl, rfl, rfl, rfl⟩
 refine W.go 99 rfl ?_
 clear hf
 refine W.split rfl rfl rfl (fun c => absurd c (by decide)) (fun c => ?_)
 refine W.go 1 rfl ?_
 clear kg1' kg3' sw1 sw2 sw3 sw4 sw5 f1 f2 f3 f4 f5 f6
 refine W.weak (E' := []) (B' := []) (by exact trivial) (by exact trivial) ?_
 refine W.go 99 rfl ?_
 refine W.eff rfl rfl rfl (Ef.call rfl (shop_sp 2 K2)) ?_
 rintro _ _ _ ⟨_, rfl, rfl, p3, rfl, hl, hs⟩
 refine W.go 99 rfl ?_
 rename_i K3
 have e := Dim.of_le hl
 have d := d.trans e
 clear hl
 have hf := Slices_sp (X := C.X) (shopW 2) p3 0 10 K3 hs n2
 rw [f7] at hf
 refine W.eff rfl rfl rfl (Ef.call rfl (hf)) ?_
 rintro _ _ _ ⟨_, rfl, rfl, rfl, hl⟩
 refine W.go 99 rfl ?_
 clear hf hs
 rename_i K4
 have e := Dim.of_le hl
 have d := d.trans e
 refine W.eff rfl rfl rfl (Ef.call rfl (shop_sp 2 K4)) ?_
 rintro _ _ _ ⟨_, rfl, rfl, p5, rfl, hl, hs⟩
 refine W.go 99 rfl ?_
 rename_i K5
 have e := Dim.of_le hl
 have d := d.trans e
 clear hl
 have hf := Slices_sp (X := C.X) (shopW 2) p5 0 11 K5 hs n2
 rw [f8] at hf
 refine W.eff rfl rfl rfl (Ef.call rfl (hf)) ?_
 rintro _ _ _ ⟨_, rfl, rfl, rfl, hl⟩
 refine W.go 99 rfl ?_
 clear hf hs
 rename_i K6
 have e := Dim.of_le hl
 have d := d.trans e
 refine W.eff rfl rfl rfl (Ef.call rfl (shop_sp 2 K6)) ?_
 rintro _ _ _ ⟨_, rfl, rfl, p7, rfl, hl, hs⟩
 refine W.go 99 rfl ?_
 rename_i K7
 have e := Dim.of_le hl
 have d := d.trans e
 clear hl
 have hf := Slices_sp (X := C.X) (shopW 2) p7 0 0 K7 hs n2
 rw [f9] at hf
 refine W.eff rfl rfl rfl (Ef.call rfl (hf)) ?_
 rintro _ _ _ ⟨_, rfl, rfl, rfl, hl⟩
 refine W.go 99 rfl ?_
 clear hf hs
 rename_i K8
 have e := Dim.of_le hl
 have d := d.trans e
 refine W.asLit 95 (p := false) rfl rfl ?_
 refine W.go 99 rfl ?_
 refine W.asLit 99 (p := false) rfl rfl ?_
 refine W.go 99 rfl ?_
 refine W.asLit 103 (p := false) rfl rfl ?_
 refine W.go 99 rfl ?_
 refine W.asLit 107 (p := false) rfl rfl ?_
 refine W.go 99 rfl ?_
 refine W.split rfl rfl rfl (fun c => absurd c (by decide)) (fun c => ?_)
 refine W.go 1 rfl ?_
 refine W.weak (E' := []) (B' := []) (by exact trivial) (by exact trivial) ?_
 refine W.go 99 rfl ?_
 obtain ⟨f1, f2, f3, f4, f5⟩ := known2
 refine W.eff rfl rfl rfl (Ef.call rfl (shop_sp 2 K8)) ?_
 rintro _ _ _ ⟨_, rfl, rfl, p9, rfl, hl, hs⟩
 refine W.go 99 rfl ?_
 rename_i K9
 have e := Dim.of_le hl
 have d := d.trans e
 clear hl
 refine W.pub 113 (.inr ⟨_, _, _, rfl⟩) rfl rfl ?_
 intro b113 hb _
 change W C _ _ _ _ _ (K9.put b113 (.cells (([0, 1, 2, 3] : List Int).flatMap encI).toArray 3))
 have q : Le K9 (K9.put b113 (.cells (([0, 1, 2, 3] : List Int).flatMap encI).toArray 3)) := Le.put hb _
 have kb113 := sl_block (L := (K9.put b113 (.cells (([0, 1, 2, 3] : List Int).flatMap encI).toArray 3))) (e := 3) encI_len (put_same _ _ _)
 clear hb
 generalize (K9.put b113 (.cells (([0, 1, 2, 3] : List Int).flatMap encI).toArray 3)) = K10 at q kb113 ⊢
 have e := Dim.of_le q
 have d := d.trans e
 have hs := e.sw hs
 clear q
 refine W.pub 114 (.inr ⟨_, _, _, rfl⟩) rfl rfl ?_
 intro b114 hb _
 change W C _ _ _ _ _ (K10.put b114 (.cells (([0, 2] : List Int).flatMap encI).toArray 3))
 have q : Le K10 (K10.put b114 (.cells (([0, 2] : List Int).flatMap encI).toArray 3)) := Le.put hb _
 have kb114 := sl_block (L := (K10.put b114 (.cells (([0, 2] : List Int).flatMap encI).toArray 3))) (e := 3) encI_len (put_same _ _ _)
 clear hb
 generalize (K10.put b114 (.cells (([0, 2] : List Int).flatMap encI).toArray 3)) = K11 at q kb114 ⊢
 have e := Dim.of_le q
 have d := d.trans e
 have hs := e.sw hs
 have kb113 := e.sl kb113
 clear q
 have hf := Right_sp (X := C.X) (shopW 2) p9 (some ⟨b113, 0, none⟩) (some ⟨b114, 0, none⟩) 4 2 [0, 1, 2, 3] [0, 2] K11 hs n2 (gl d) kb113 kb114 (by decide) (by decide)
 rw [f1] at hf
 refine W.eff rfl rfl rfl (Ef.call rfl (hf)) ?_
 rintro _ _ _ ⟨_, rfl, rfl, rfl, hl⟩
 refine W.go 99 rfl ?_
 clear hf hs kb114
 rename_i K12
 have e := Dim.of_le hl
 have d := d.trans e
 have kb113 := e.sl kb113
 refine W.asLit 117 (p := false) rfl rfl ?_
 refine W.go 99 rfl ?_
 refine W.eff rfl rfl rfl (Ef.call rfl (shop_sp 2 K12)) ?_
 rintro _ _ _ ⟨_, rfl, rfl, p13, rfl, hl, hs⟩
 refine W.go 99 rfl ?_
 rename_i K13
 have e := Dim.of_le hl
 have d := d.trans e
 have kb113 := e.sl kb113
 clear hl
 refine W.pub 120 (.inr ⟨_, _, _, rfl⟩) rfl rfl ?_
 intro b120 hb _
 change W C _ _ _ _ _ (K13.put b120 (.cells (([0, 1] : List Int).flatMap encI).toArray 3))
 have q : Le K13 (K13.put b120 (.cells (([0, 1] : List Int).flatMap encI).toArray 3)) := Le.put hb _
 have kb120 := sl_block (L := (K13.put b120 (.cells (([0, 1] : List Int).flatMap encI).toArray 3))) (e := 3) encI_len (put_same _ _ _)
 clear hb
 generalize (K13.put b120 (.cells (([0, 1] : List Int).flatMap encI).toArray 3)) = K14 at q kb120 ⊢
 have e := Dim.of_le q
 have d := d.trans e
 have kb113 := e.sl kb113
 have hs := e.sw hs
 clear q
 have hf := Right_sp (X := C.X) (shopW 2) p13 (some ⟨b113, 0, none⟩) (some ⟨b120, 0, none⟩) 4 2 [0, 1, 2, 3] [0, 1] K14 hs n2 (gl d) kb113 kb120 (by decide) (by decide)
 rw [f2] at hf
 refine W.eff rfl rfl rfl (Ef.call rfl (hf)) ?_
 rintro _ _ _ ⟨_, rfl, rfl, rfl, hl⟩
 refine W.go 99 rfl ?_
 clear hf hs kb120
 rename_i K15
 have e := Dim.of_le hl
 have d := d.trans e
 have kb113 := e.sl kb113
 refine W.asLit 124 (p := false) rfl rfl ?_
 refine W.go 99 rfl ?_
 refine W.eff rfl rfl rfl (Ef.call rfl (shop_sp 2 K15)) ?_
 rintro _ _ _ ⟨_, rfl, rfl, p16, rfl, hl, hs⟩
 refine W.go 99 rfl ?_
 rename_i K16
 have e := Dim.of_le hl
 have d := d.trans e
 have kb113 := e.sl kb113
 clear hl
 refine W.pub 127 (.inr ⟨_, _, _, rfl⟩) rfl rfl ?_
 intro b127 hb _
 change W C _ _ _ _ _ (K16.put b127 (.cells (([1, 2] : List Int).flatMap encI).toArray 3))
 have q : Le K16 (K16.put b127 (.cells (([1, 2] : List Int).flatMap encI).toArray 3)) := Le.put hb _
 have kb127 := sl_block (L := (K16.put b127 (.cells (([1, 2] : List Int).flatMap encI).toArray 3))) (e := 3) encI_len (put_same _ _ _)
 clear hb
 generalize (K16.put b127 (.cells (([1, 2] : List Int).flatMap encI).toArray 3)) = K17 at q kb127 ⊢
 have e := Dim.of_le q
 have d := d.trans e
 have kb113 := e.sl kb113
 have hs := e.sw hs
 clear q
 have hf := Right_sp (X := C.X) (shopW 2) p16 (some ⟨b113, 0, none⟩) (some ⟨b127, 0, none⟩) 4 2 [0, 1, 2, 3] [1, 2] K17 hs n2 (gl d) kb113 kb127 (by decide) (by decide)
 rw [f3] at hf
 refine W.eff rfl rfl rfl (Ef.call rfl (hf)) ?_
 rintro _ _ _ ⟨_, rfl, rfl, rfl, hl⟩
 refine W.go 99 rfl ?_
 clear hf hs kb127
 rename_i K18
 have e := Dim.of_le hl
 have d := d.trans e
 have kb113 := e.sl kb113
 refine W.asLit 131 (p := false) rfl rfl ?_
 refine W.go 99 rfl ?_
 refine W.eff rfl rfl rfl (Ef.call rfl (shop_sp 2 K18)) ?_
 rintro _ _ _ ⟨_, rfl, rfl, p19, rfl, hl, hs⟩
 refine W.go 99 rfl ?_
 rename_i K19
 have e := Dim.of_le hl
 have d := d.trans e
 have kb113 := e.sl kb113
 clear hl
 refine W.pub 133 (.inr ⟨_, _, _, rfl⟩) rfl rfl ?_
 intro b133 hb _
 change W C _ _ _ _ _ (K19.put b133 (.cells (([1, 0] : List Int).flatMap encI).toArray 3))
 have q : Le K19 (K19.put b133 (.cells (([1, 0] : List Int).flatMap encI).toArray 3)) := Le.put hb _
 have kb133 := sl_block (L := (K19.put b133 (.cells (([1, 0] : List Int).flatMap encI).toArray 3))) (e := 3) encI_len (put_same _ _ _)
 clear hb
 generalize (K19.put b133 (.cells (([1, 0] : List Int).flatMap encI).toArray 3)) = K20 at q kb133 ⊢
 have e := Dim.of_le q
 have d := d.trans e
 have kb113 := e.sl kb113
 have hs := e.sw hs
 clear q
 refine W.pub 134 (.inr ⟨_, _, _, rfl⟩) rfl rfl ?_
 intro b134 hb _
 change W C _ _ _ _ _ (K20.put b134 (.cells (([0, 2] : List Int).flatMap encI).toArray 3))
 have q : Le K20 (K20.put b134 (.cells (([0, 2] : List Int).flatMap encI).toArray 3)) := Le.put hb _
 have kb134 := sl_block (L := (K20.put b134 (.cells (([0, 2] : List Int).flatMap encI).toArray 3))) (e := 3) encI_len (put_same _ _ _)
 clear hb
 generalize (K20.put b134 (.cells (([0, 2] : List Int).flatMap encI).toArray 3)) = K21 at q kb134 ⊢
 have e := Dim.of_le q
 have d := d.trans e
 have kb113 := e.sl kb113
 have hs := e.sw hs
 have kb133 := e.sl kb133
 clear q
 have hf := Right_sp (X := C.X) (shopW 2) p19 (some ⟨b133, 0, none⟩) (some ⟨b134, 0, none⟩) 2 2 [1, 0] [0, 2] K21 hs n2 (gl d) kb133 kb134 (by decide) (by decide)
 rw [f4] at hf
 refine W.eff rfl rfl rfl (Ef.call rfl (hf)) ?_
 rintro _ _ _ ⟨_, rfl, rfl, rfl, hl⟩
 refine W.go 99 rfl ?_
 clear hf hs kb134
 clear kb133
 rename_i K22
 have e := Dim.of_le hl
 have d := d.trans e
 have kb113 := e.sl kb113
 refine W.asLit 138 (p := false) rfl rfl ?_
 refine W.go 99 rfl ?_
 refine W.eff rfl rfl rfl (Ef.call rfl (shop_sp 2 K22)) ?_
 rintro _ _ _ ⟨_, rfl, rfl, p23, rfl, hl, hs⟩
 refine W.go 99 rfl ?_
 rename_i K23
 have e := Dim.of_le hl
 have d := d.trans e
 have kb113 := e.sl kb113
 clear hl
 refine W.pub 140 (.inr ⟨_, _, _, rfl⟩) rfl rfl ?_
 intro b140 hb _
 change W C _ _ _ _ _ (K23.put b140 (.cells (([0, 4] : List Int).flatMap encI).toArray 3))
 have q : Le K23 (K23.put b140 (.cells (([0, 4] : List Int).flatMap encI).toArray 3)) := Le.put hb _
 have kb140 := sl_block (L := (K23.put b140 (.cells (([0, 4] : List Int).flatMap encI).toArray 3))) (e := 3) encI_len (put_same _ _ _)
 clear hb
 generalize (K23.put b140 (.cells (([0, 4] : List Int).flatMap encI).toArray 3)) = K24 at q kb140 ⊢
 have e := Dim.of_le q
 have d := d.trans e
 have kb113 := e.sl kb113
 have hs := e.sw hs
 clear q
 refine W.pub 141 (.inr ⟨_, _, _, rfl⟩) rfl rfl ?_
 intro b141 hb _
 change W C _ _ _ _ _ (K24.put b141 (.cells (([0, 0] : List Int).flatMap encI).toArray 3))
 have q : Le K24 (K24.put b141 (.cells (([0, 0] : List Int).flatMap encI).toArray 3)) := Le.put hb _
 have kb141 := sl_block (L := (K24.put b141 (.cells (([0, 0] : List Int).flatMap encI).toArray 3))) (e := 3) encI_len (put_same _ _ _)
 clear hb
 generalize (K24.put b141 (.cells (([0, 0] : List Int).flatMap encI).toArray 3)) = K25 at q kb141 ⊢
 have e := Dim.of_le q
 have d := d.trans e
 have kb113 := e.sl kb113
 have hs := e.sw hs
 have kb140 := e.sl kb140
 clear q
 have hf := Right_sp (X := C.X) (shopW 2) p23 (some ⟨b140, 0, none⟩) (some ⟨b141, 0, none⟩) 2 2 [0, 4] [0, 0] K25 hs n2 (gl d) kb140 kb141 (by decide) (by decide)
 rw [f5] at hf
 refine W.eff rfl rfl rfl (Ef.call rfl (hf)) ?_
 rintro _ _ _ ⟨_, rfl, rfl, rfl, hl⟩
 refine W.go 99 rfl ?_
 clear hf hs kb141
 clear kb140
 rename_i K26
 have e := Dim.of_le hl
 have d := d.trans e
 have kb113 := e.sl kb113
 refine W.split rfl rfl rfl (fun c => absurd c (by decide)) (fun c => ?_)
 refine W.go 1 rfl ?_
 refine W.weak (E' := [(12, .v (.slice (some ⟨b113, 0, none⟩) 4 4))]) (B' := []) (by exact ⟨rfl, trivial⟩) (by exact trivial) ?_
 refine W.go 99 rfl ?_
 clear f1 f2 f3 f4 f5
 obtain ⟨f1, f2, f3, f4, f5⟩ := known3
 refine W.eff rfl rfl rfl (Ef.call rfl (shop_sp 2 K26)) ?_
 rintro _ _ _ ⟨_, rfl, rfl, p27, rfl, hl, hs⟩
 refine W.go 99 rfl ?_
 rename_i K27
 have e := Dim.of_le hl
 have d := d.trans e
 have kb113 := e.sl kb113
 clear hl
 refine W.pub 147 (.inr ⟨_, _, _, rfl⟩) rfl rfl ?_
 intro b147 hb _
 change W C _ _ _ _ _ (K27.put b147 (.cells (([1] : List Int).flatMap encI).toArray 3))
 have q : Le K27 (K27.put b147 (.cells (([1] : List Int).flatMap encI).toArray 3)) := Le.put hb _
 have kb147 := sl_block (L := (K27.put b147 (.cells (([1] : List Int).flatMap encI).toArray 3))) (e := 3) encI_len (put_same _ _ _)
 clear hb
 generalize (K27.put b147 (.cells (([1] : List Int).flatMap encI).toArray 3)) = K28 at q kb147 ⊢
 have e := Dim.of_le q
 have d := d.trans e
 have kb113 := e.sl kb113
 have hs := e.sw hs
 clear q
 refine W.pub 148 (.inr ⟨_, _, _, rfl⟩) rfl rfl ?_
 intro b148 hb _
 change W C _ _ _ _ _ (K28.put b148 (.cells (([0, 0] : List Int).flatMap encI).toArray 3))
 have q : Le K28 (K28.put b148 (.cells (([0, 0] : List Int).flatMap encI).toArray 3)) := Le.put hb _
 have kb148 := sl_block (L := (K28.put b148 (.cells (([0, 0] : List Int).flatMap encI).toArray 3))) (e := 3) encI_len (put_same _ _ _)
 clear hb
 generalize (K28.put b148 (.cells (([0, 0] : List Int).flatMap encI).toArray 3)) = K29 at q kb148 ⊢
 have e := Dim.of_le q
 have d := d.trans e
 have kb113 := e.sl kb113
 have hs := e.sw hs
 have kb147 := e.sl kb147
 clear q
 have hf := Left_sp (X := C.X) (shopW 2) p27 (some ⟨b147, 0, none⟩) (some ⟨b148, 0, none⟩) 1 2 [1] [0, 0] K29 hs n2 (gl d) kb147 kb148 (by decide) (by decide)
 rw [f1] at hf
 refine W.eff rfl rfl rfl (Ef.call rfl (hf)) ?_
 rintro _ _ _ ⟨v13, rfl, rfl, a13, c13, rfl, i13, hl⟩
 refine W.go 99 rfl ?_
 clear hf hs kb147 kb148
 rename_i K30
 have e := Dim.of_le hl
 have d := d.trans e
 have kb113 := e.sl kb113
 refine W.eff rfl rfl rfl (Ef.call rfl (shop_sp 2 K30)) ?_
 rintro _ _ _ ⟨_, rfl, rfl, p31, rfl, hl, hs⟩
 refine W.go 99 rfl ?_
 rename_i K31
 have e := Dim.of_le hl
 have d := d.trans e
 have kb113 := e.sl kb113
 have i13 := e.sl i13
 clear hl
 refine W.pub 155 (.inr ⟨_, _, _, rfl⟩) rfl rfl ?_
 intro b155 hb _
 change W C _ _ _ _ _ (K31.put b155 (.cells (([2] : List Int).flatMap encI).toArray 3))
 have q : Le K31 (K31.put b155 (.cells (([2] : List Int).flatMap encI).toArray 3)) := Le.put hb _
 have kb155 := sl_block (L := (K31.put b155 (.cells (([2] : List Int).flatMap encI).toArray 3))) (e := 3) encI_len (put_same _ _ _)
 clear hb
 generalize (K31.put b155 (.cells (([2] : List Int).flatMap encI).toArray 3)) = K32 at q kb155 ⊢
 have e := Dim.of_le q
 have d := d.trans e
 have kb113 := e.sl kb113
 have i13 := e.sl i13
 have hs := e.sw hs
 clear q
 have hf := Crush_sp (X := C.X) (shopW 2) p31 (some ⟨b155, 0, none⟩) 1 [2] K32 hs n2 kb155 (by decide)
 rw [f2] at hf
 refine W.eff rfl rfl rfl (Ef.call rfl (hf)) ?_
 rintro _ _ _ ⟨v14, rfl, rfl, a14, c14, rfl, i14, hl⟩
 refine W.go 99 rfl ?_
 clear hf hs kb155
 rename_i K33
 have e := Dim.of_le hl
 have d := d.trans e
 have kb113 := e.sl kb113
 have i13 := e.sl i13
 refine W.eff rfl rfl rfl (Ef.call rfl (shop_sp 2 K33)) ?_
 rintro _ _ _ ⟨_, rfl, rfl, p34, rfl, hl, hs⟩
 refine W.go 99 rfl ?_
 rename_i K34
 have e := Dim.of_le hl
 have d := d.trans e
 have kb113 := e.sl kb113
 have i13 := e.sl i13
 have i14 := e.sl i14
 clear hl
 refine W.pub 162 (.inr ⟨_, _, _, rfl⟩) rfl rfl ?_
 intro b162 hb _
 change W C _ _ _ _ _ (K34.put b162 (.cells (([2, 3] : List Int).flatMap encI).toArray 3))
 have q : Le K34 (K34.put b162 (.cells (([2, 3] : List Int).flatMap encI).toArray 3)) := Le.put hb _
 have kb162 := sl_block (L := (K34.put b162 (.cells (([2, 3] : List Int).flatMap encI).toArray 3))) (e := 3) encI_len (put_same _ _ _)
 clear hb
 generalize (K34.put b162 (.cells (([2, 3] : List Int).flatMap encI).toArray 3)) = K35 at q kb162 ⊢
 have e := Dim.of_le q
 have d := d.trans e
 have kb113 := e.sl kb113
 have i13 := e.sl i13
 have i14 := e.sl i14
 have hs := e.sw hs
 clear q
 have hf := Crush_sp (X := C.X) (shopW 2) p34 (some ⟨b162, 0, none⟩) 2 [2, 3] K35 hs n2 kb162 (by decide)
 rw [f3] at hf
 refine W.eff rfl rfl rfl (Ef.call rfl (hf)) ?_
 rintro _ _ _ ⟨v15, rfl, rfl, a15, c15, rfl, i15, hl⟩
 refine W.go 99 rfl ?_
 clear hf hs kb162
 rename_i K36
 have e := Dim.of_le hl
 have d := d.trans e
 have kb113 := e.sl kb113
 have i13 := e.sl i13
 have i14 := e.sl i14
 refine W.eff rfl rfl rfl (Ef.call rfl (shop_sp 2 K36)) ?_
 rintro _ _ _ ⟨_, rfl, rfl, p37, rfl, hl, hs⟩
 refine W.go 99 rfl ?_
 rename_i K37
 have e := Dim.of_le hl
 have d := d.trans e
 have kb113 := e.sl kb113
 have i13 := e.sl i13
 have i14 := e.sl i14
 have i15 := e.sl i15
 clear hl
 refine W.pub 169 (.inr ⟨_, _, _, rfl⟩) rfl rfl ?_
 intro b169 hb _
 change W C _ _ _ _ _ (K37.put b169 (.cells (([0, 1] : List Int).flatMap encI).toArray 3))
 have q : Le K37 (K37.put b169 (.cells (([0, 1] : List Int).flatMap encI).toArray 3)) := Le.put hb _
 have kb169 := sl_block (L := (K37.put b169 (.cells (([0, 1] : List Int).flatMap encI).toArray 3))) (e := 3) encI_len (put_same _ _ _)
 clear hb
 generalize (K37.put b169 (.cells (([0, 1] : List Int).flatMap encI).toArray 3)) = K38 at q kb169 ⊢
 have e := Dim.of_le q
 have d := d.trans e
 have kb113 := e.sl kb113
 have i13 := e.sl i13
 have i14 := e.sl i14
 have i15 := e.sl i15
 have hs := e.sw hs
 clear q
 have hf := Crush_sp (X := C.X) (shopW 2) p37 (some ⟨b169, 0, none⟩) 2 [0, 1] K38 hs n2 kb169 (by decide)
 rw [f4] at hf
 refine W.eff rfl rfl rfl (Ef.call rfl (hf)) ?_
 rintro _ _ _ ⟨v17, rfl, rfl, a17, c17, rfl, i17, hl⟩
 refine W.go 99 rfl ?_
 clear hf hs kb169
 rename_i K39
 have e := Dim.of_le hl
 have d := d.trans e
 have kb113 := e.sl kb113
 have i13 := e.sl i13
 have i14 := e.sl i14
 have i15 := e.sl i15
 refine W.eff rfl rfl rfl (Ef.call rfl (shop_sp 1 K39)) ?_
 rintro _ _ _ ⟨_, rfl, rfl, p40, rfl, hl, hs⟩
 refine W.go 99 rfl ?_
 rename_i K40
 have e := Dim.of_le hl
 have d := d.trans e
 have kb113 := e.sl kb113
 have i13 := e.sl i13
 have i14 := e.sl i14
 have i15 := e.sl i15
 have i17 := e.sl i17
 clear hl
 have hf := Fewest_sp (X := C.X) (shopW 1) p40 K40 hs n1
 rw [f5] at hf
 refine W.eff rfl rfl rfl (Ef.call rfl (hf)) ?_
 rintro _ _ _ ⟨v20, rfl, rfl, a20, c20, rfl, i20, hl⟩
 clear hf hs
 rename_i K41
 have e := Dim.of_le hl
 have d := d.trans e
 have kb113 := e.sl kb113
 have i13 := e.sl i13
 have i14 := e.sl i14
 have i15 := e.sl i15
 have i17 := e.sl i17
 refine W.go 7 rfl ?_
 refine W.weak (E' := [(6, .v (.int .i64 7)), (7, .v (.int .i64 0)), (9, .v (.int .i64 0)), (10, .v (.int .i64 1)), (11, .v (.int .i64 0)), (16, .v (.int .i64 2)), (18, .v (.int .i64 2)), (19, .v (.int .i64 0)), (22, .v (.int .i64 11)), (13, .v (.slice a13 2 c13)), (14, .v (.slice a14 2 c14)), (15, .v (.slice a15 2 c15)), (17, .v (.slice a17 2 c17)), (12, .v (.slice (some ⟨b113, 0, none⟩) 4 4))]) (B' := []) (by exact ⟨rfl, rfl, rfl, rfl, rfl, rfl, rfl, rfl, rfl, rfl, rfl, rfl, rfl, rfl, trivial⟩) (by exact trivial) ?_
 refine W.go 99 rfl ?_
 refine W.asLit 182 (p := false) rfl rfl ?_
 refine W.go 99 rfl ?_
 refine W.asLit 186 (p := false) rfl rfl ?_
 refine W.go 99 rfl ?_
 refine W.asLit 190 (p := false) rfl rfl ?_
 refine W.go 99 rfl ?_
 refine W.asLit 194 (p := false) rfl rfl ?_
 refine W.go 99 rfl ?_
 refine W.asLit 198 (p := false) rfl rfl ?_
 refine W.go 99 rfl ?_
 refine W.asLit 202 (p := false) rfl rfl ?_
 refine W.go 99 rfl ?_
 refine W.asLit 206 (p := false) rfl rfl ?_
 refine W.go 99 rfl ?_
 refine W.asLit 210 (p := false) rfl rfl ?_
 refine W.go 99 rfl ?_
 refine W.asLit 214 (p := false) rfl rfl ?_
 refine W.go 99 rfl ?_
 refine W.pub 216 (.inr ⟨_, _, _, rfl⟩) rfl rfl ?_
 intro b216 hb _
 change W C _ _ _ _ _ (K41.put b216 (.cells (([1, 2] : List Int).flatMap encI).toArray 3))
 have q : Le K41 (K41.put b216 (.cells (([1, 2] : List Int).flatMap encI).toArray 3)) := Le.put hb _
 have kb216 := sl_block (L := (K41.put b216 (.cells (([1, 2] : List Int).flatMap encI).toArray 3))) (e := 3) encI_len (put_same _ _ _)
 clear hb
 generalize (K41.put b216 (.cells (([1, 2] : List Int).flatMap encI).toArray 3)) = K42 at q kb216 ⊢
 have e := Dim.of_le q
 have d := d.trans e
 have kb113 := e.sl kb113
 have i13 := e.sl i13
 have i14 := e.sl i14
 have i15 := e.sl i15
 have i17 := e.sl i17
 clear q
 have he := EqInts_sp (X := C.X) a13 (some ⟨b216, 0, none⟩) c13 2 [1, 2] [1, 2] K42 i13 kb216 (by decide) (by decide)
 refine W.eff rfl rfl rfl (Ef.call rfl (he)) ?_
 rintro _ _ _ ⟨_, rfl, rfl, rfl, rfl⟩
 rw [decide_eq_true rfl]
 refine W.go 99 rfl ?_
 clear he kb216 i13
 refine W.asLit 220 (p := false) rfl rfl ?_
 refine W.go 99 rfl ?_
 refine W.pub 222 (.inr ⟨_, _, _, rfl⟩) rfl rfl ?_
 intro b222 hb _
 change W C _ _ _ _ _ (K42.put b222 (.cells (([1, 0] : List Int).flatMap encI).toArray 3))
 have q : Le K42 (K42.put b222 (.cells (([1, 0] : List Int).flatMap encI).toArray 3)) := Le.put hb _
 have kb222 := sl_block (L := (K42.put b222 (.cells (([1, 0] : List Int).flatMap encI).toArray 3))) (e := 3) encI_len (put_same _ _ _)
 clear hb
 generalize (K42.put b222 (.cells (([1, 0] : List Int).flatMap encI).toArray 3)) = K43 at q kb222 ⊢
 have e := Dim.of_le q
 have d := d.trans e
 have kb113 := e.sl kb113
 have i14 := e.sl i14
 have i15 := e.sl i15
 have i17 := e.sl i17
 clear q
 have he := EqInts_sp (X := C.X) a14 (some ⟨b222, 0, none⟩) c14 2 [1, 0] [1, 0] K43 i14 kb222 (by decide) (by decide)
 refine W.eff rfl rfl rfl (Ef.call rfl (he)) ?_
 rintro _ _ _ ⟨_, rfl, rfl, rfl, rfl⟩
 rw [decide_eq_true rfl]
 refine W.go 99 rfl ?_
 clear he kb222 i14
 refine W.asLit 226 (p := false) rfl rfl ?_
 refine W.go 99 rfl ?_
 refine W.pub 228 (.inr ⟨_, _, _, rfl⟩) rfl rfl ?_
 intro b228 hb _
 change W C _ _ _ _ _ (K43.put b228 (.cells (([1, 1] : List Int).flatMap encI).toArray 3))
 have q : Le K43 (K43.put b228 (.cells (([1, 1] : List Int).flatMap encI).toArray 3)) := Le.put hb _
 have kb228 := sl_block (L := (K43.put b228 (.cells (([1, 1] : List Int).flatMap encI).toArray 3))) (e := 3) encI_len (put_same _ _ _)
 clear hb
 generalize (K43.put b228 (.cells (([1, 1] : List Int).flatMap encI).toArray 3)) = K44 at q kb228 ⊢
 have e := Dim.of_le q
 have d := d.trans e
 have kb113 := e.sl kb113
 have i15 := e.sl i15
 have i17 := e.sl i17
 clear q
 have he := EqInts_sp (X := C.X) a15 (some ⟨b228, 0, none⟩) c15 2 [1, 1] [1, 1] K44 i15 kb228 (by decide) (by decide)
 refine W.eff rfl rfl rfl (Ef.call rfl (he)) ?_
 rintro _ _ _ ⟨_, rfl, rfl, rfl, rfl⟩
 rw [decide_eq_true rfl]
 refine W.go 99 rfl ?_
 clear he kb228 i15
 refine W.asLit 232 (p := false) rfl rfl ?_
 refine W.go 99 rfl ?_
 refine W.pub 234 (.inr ⟨_, _, _, rfl⟩) rfl rfl ?_
 intro b234 hb _
 change W C _ _ _ _ _ (K44.put b234 (.cells (([0, 0] : List Int).flatMap encI).toArray 3))
 have q : Le K44 (K44.put b234 (.cells (([0, 0] : List Int).flatMap encI).toArray 3)) := Le.put hb _
 have kb234 := sl_block (L := (K44.put b234 (.cells (([0, 0] : List Int).flatMap encI).toArray 3))) (e := 3) encI_len (put_same _ _ _)
 clear hb
 generalize (K44.put b234 (.cells (([0, 0] : List Int).flatMap encI).toArray 3)) = K45 at q kb234 ⊢
 have e := Dim.of_le q
 have d := d.trans e
 have kb113 := e.sl kb113
 have i17 := e.sl i17
 clear q
 have he := EqInts_sp (X := C.X) a17 (some ⟨b234, 0, none⟩) c17 2 [0, 0] [0, 0] K45 i17 kb234 (by decide) (by decide)
 refine W.eff rfl rfl rfl (Ef.call rfl (he)) ?_
 rintro _ _ _ ⟨_, rfl, rfl, rfl, rfl⟩
 rw [decide_eq_true rfl]
 refine W.go 99 rfl ?_
 clear he kb234 i17
 refine W.split rfl rfl rfl (fun c => absurd c (by decide)) (fun c => ?_)
 refine W.go 1 rfl ?_
 refine W.weak (E' := [(12, .v (.slice (some ⟨b113, 0, none⟩) 4 4))]) (B' := []) (by exact ⟨rfl, trivial⟩) (by exact trivial) ?_
 refine W.go 99 rfl ?_
 clear f1 f2 f3 f4 f5
 obtain ⟨f1, f2, f3, f4, f5⟩ := known4
 refine W.eff rfl rfl rfl (Ef.call rfl (shop_sp 2 K45)) ?_
 rintro _ _ _ ⟨_, rfl, rfl, p46, rfl, hl, hs⟩
 refine W.go 99 rfl ?_
 rename_i K46
 have e := Dim.of_le hl
 have d := d.trans e
 have kb113 := e.sl kb113
 clear hl
 have hf := Best_sp (Post := Post) (W0 := W0) (shopW 2) p46 K46 hs n2
 rw [f1, ← hX] at hf
 refine W.eff rfl rfl rfl (Ef.call rfl (hf)) ?_
 rintro _ _ _ ⟨v13, rfl, rfl, a13, c13, rfl, i13, hd⟩
 refine W.go 99 rfl ?_
 clear hf hs
 rename_i K47
 have e := hd
 have d := d.trans e
 have kb113 := e.sl kb113
 refine W.eff rfl rfl rfl (Ef.call rfl (shop_sp 2 K47)) ?_
 rintro _ _ _ ⟨_, rfl, rfl, p48, rfl, hl, hs⟩
 refine W.go 99 rfl ?_
 rename_i K48
 have e := Dim.of_le hl
 have d := d.trans e
 have kb113 := e.sl kb113
 have i13 := e.sl i13
 clear hl
 have hf := Refused_sp (Post := Post) (W0 := W0) (shopW 2) p48 K48 hs n2
 rw [f2, ← hX] at hf
 refine W.eff rfl rfl rfl (Ef.call rfl (hf)) ?_
 rintro _ _ _ ⟨v14, rfl, rfl, a14, c14, rfl, i14, hd⟩
 refine W.go 99 rfl ?_
 clear hf hs
 rename_i K49
 have e := hd
 have d := d.trans e
 have kb113 := e.sl kb113
 have i13 := e.sl i13
 refine W.eff rfl rfl rfl (Ef.call rfl (shop_sp 1 K49)) ?_
 rintro _ _ _ ⟨_, rfl, rfl, p50, rfl, hl, hs⟩
 refine W.go 99 rfl ?_
 rename_i K50
 have e := Dim.of_le hl
 have d := d.trans e
 have kb113 := e.sl kb113
 have i13 := e.sl i13
 clear hl
 have hf := Verdict_sp (Post := Post) (W0 := W0) (shopW 1) p50 3 K50 hs n1
 rw [f3, ← hX] at hf
 refine W.eff rfl rfl rfl (Ef.call rfl (hf)) ?_
 rintro _ _ _ ⟨v50, rfl, rfl, rfl, hd⟩
 refine W.go 99 rfl ?_
 clear hf hs
 rename_i K51
 have e := hd
 have d := d.trans e
 have kb113 := e.sl kb113
 have i13 := e.sl i13
 refine W.eff rfl rfl rfl (Ef.call rfl (shop_sp 1 K51)) ?_
 rintro _ _ _ ⟨_, rfl, rfl, p52, rfl, hl, hs⟩
 refine W.go 99 rfl ?_
 rename_i K52
 have e := Dim.of_le hl
 have d := d.trans e
 have kb113 := e.sl kb113
 have i13 := e.sl i13
 clear hl
 have hf := Verdict_sp (Post := Post) (W0 := W0) (shopW 1) p52 0 K52 hs n1
 rw [f4, ← hX] at hf
 refine W.eff rfl rfl rfl (Ef.call rfl (hf)) ?_
 rintro _ _ _ ⟨v52, rfl, rfl, rfl, hd⟩
 refine W.go 99 rfl ?_
 clear hf hs
 rename_i K53
 have e := hd
 have d := d.trans e
 have kb113 := e.sl kb113
 have i13 := e.sl i13
 refine W.eff rfl rfl rfl (Ef.call rfl (shop_sp 1 K53)) ?_
 rintro _ _ _ ⟨_, rfl, rfl, p54, rfl, hl, hs⟩
 refine W.go 99 rfl ?_
 rename_i K54
 have e := Dim.of_le hl
 have d := d.trans e
 have kb113 := e.sl kb113
 have i13 := e.sl i13
 clear hl
 have hf := Worth_sp (Post := Post) (W0 := W0) (shopW 1) p54 3 K54 hs n1
 rw [f5, ← hX] at hf
 refine W.eff rfl rfl rfl (Ef.call rfl (hf)) ?_
 rintro _ _ _ ⟨v54, rfl, rfl, rfl, hd⟩
 clear hf hs
 rename_i K55
 have e := hd
 have d := d.trans e
 have kb113 := e.sl kb113
 have i13 := e.sl i13
 refine W.go 5 rfl ?_
 refine W.weak (E' := [(6, .v (.int .i64 32)), (7, .v (.int .i64 0)), (9, .v (.int .i64 0)), (10, .v (.int .i64 2)), (11, .v (.int .i64 0)), (16, .v (.int .i64 1)), (18, .v (.int .i64 0)), (19, .v (.int .i64 0)), (22, .v (.int .i64 0)), (13, .v (.slice a13 4 c13)), (14, .v (.slice a14 0 c14)), (12, .v (.slice (some ⟨b113, 0, none⟩) 4 4))]) (B' := []) (by exact ⟨rfl, rfl, rfl, rfl, rfl, rfl, rfl, rfl, rfl, rfl, rfl, rfl, trivial⟩) (by exact trivial) ?_
 refine W.go 99 rfl ?_
 refine W.asLit 266 (p := false) rfl rfl ?_
 refine W.go 99 rfl ?_
 refine W.asLit 270 (p := false) rfl rfl ?_
 refine W.go 99 rfl ?_
 refine W.asLit 274 (p := false) rfl rfl ?_
 refine W.go 99 rfl ?_
 refine W.asLit 278 (p := false) rfl rfl ?_
 refine W.go 99 rfl ?_
 refine W.asLit 282 (p := false) rfl rfl ?_
 refine W.go 99 rfl ?_
 refine W.asLit 286 (p := false) rfl rfl ?_
 refine W.go 99 rfl ?_
 refine W.asLit 290 (p := false) rfl rfl ?_
 refine W.go 99 rfl ?_
 refine W.asLit 294 (p := false) rfl rfl ?_
 refine W.go 99 rfl ?_
 refine W.asLit 298 (p := false) rfl rfl ?_
 refine W.go 99 rfl ?_
 refine W.asLit 303 (p := false) rfl rfl ?_
 refine W.go 99 rfl ?_
 have he := EqInts_sp (X := C.X) a13 (some ⟨b113, 0, none⟩) c13 4 [0, 1, 2, 3] [0, 1, 2, 3] K55 i13 kb113 (by decide) (by decide)
 refine W.eff rfl rfl rfl (Ef.call rfl (he)) ?_
 rintro _ _ _ ⟨_, rfl, rfl, rfl, rfl⟩
 rw [decide_eq_true rfl]
 refine W.go 99 rfl ?_
 clear he kb113 i13
 refine W.split rfl rfl rfl (fun c => absurd c (by decide)) (fun c => ?_)
 refine W.go 1 rfl ?_
 refine W.weak (E' := []) (B' := []) (by exact trivial) (by exact trivial) ?_
 refine W.go 99 rfl ?_
 clear f1 f2 f3 f4 f5
 obtain ⟨f1, f2, f3, f4, f5, f6, f7, f8⟩ := known5
 refine W.eff rfl rfl rfl (Ef.call rfl (shop_sp 1 K55)) ?_
 rintro _ _ _ ⟨_, rfl, rfl, p56, rfl, hl, hs⟩
 refine W.go 99 rfl ?_
 rename_i K56
 have e := Dim.of_le hl
 have d := d.trans e
 clear hl
 have hf := Need_sp (X := C.X) (shopW 1) p56 0 K56 hs n1
 rw [f1] at hf
 refine W.eff rfl rfl rfl (Ef.call rfl (hf)) ?_
 rintro _ _ _ ⟨v56, rfl, rfl, rfl, hl⟩
 refine W.go 99 rfl ?_
 clear hf hs
 rename_i K57
 have e := Dim.of_le hl
 have d := d.trans e
 refine W.eff rfl rfl rfl (Ef.call rfl (shop_sp 1 K57)) ?_
 rintro _ _ _ ⟨_, rfl, rfl, p58, rfl, hl, hs⟩
 refine W.go 99 rfl ?_
 rename_i K58
 have e := Dim.of_le hl
 have d := d.trans e
 clear hl
 have hf := Need_sp (X := C.X) (shopW 1) p58 1 K58 hs n1
 rw [f2] at hf
 refine W.eff rfl rfl rfl (Ef.call rfl (hf)) ?_
 rintro _ _ _ ⟨v58, rfl, rfl, rfl, hl⟩
 refine W.go 99 rfl ?_
 clear hf hs
 rename_i K59
 have e := Dim.of_le hl
 have d := d.trans e
 refine W.eff rfl rfl rfl (Ef.call rfl (shop_sp 2 K59)) ?_
 rintro _ _ _ ⟨_, rfl, rfl, p60, rfl, hl, hs⟩
 refine W.go 99 rfl ?_
 rename_i K60
 have e := Dim.of_le hl
 have d := d.trans e
 clear hl
 have hf := Need_sp (X := C.X) (shopW 2) p60 0 K60 hs n2
 rw [f3] at hf
 refine W.eff rfl rfl rfl (Ef.call rfl (hf)) ?_
 rintro _ _ _ ⟨v60, rfl, rfl, rfl, hl⟩
 refine W.go 99 rfl ?_
 clear hf hs
 rename_i K61
 have e := Dim.of_le hl
 have d := d.trans e
 refine W.eff rfl rfl rfl (Ef.call rfl (shop_sp 1 K61)) ?_
 rintro _ _ _ ⟨_, rfl, rfl, p62, rfl, hl, hs⟩
 refine W.go 99 rfl ?_
 rename_i K62
 have e := Dim.of_le hl
 have d := d.trans e
 clear hl
 have hf := Kerf_sp (X := C.X) (shopW 1) p62 K62 hs n1
 rw [f4] at hf
 refine W.eff rfl rfl rfl (Ef.call rfl (hf)) ?_
 rintro _ _ _ ⟨v62, rfl, rfl, rfl, hl⟩
 refine W.go 99 rfl ?_
 clear hf hs
 rename_i K63
 have e := Dim.of_le hl
 have d := d.trans e
 refine W.eff rfl rfl rfl (Ef.call rfl (shop_sp 2 K63)) ?_
 rintro _ _ _ ⟨_, rfl, rfl, p64, rfl, hl, hs⟩
 refine W.go 99 rfl ?_
 rename_i K64
 have e := Dim.of_le hl
 have d := d.trans e
 clear hl
 refine W.eff rfl rfl rfl (Ef.call rfl (addS_sp (X := C.X) (shopW 2) ⟨0, 0, 0, 2⟩ _ f5 p64 K64 hs n2)) ?_
 rintro _ _ _ ⟨v64, rfl, rfl, x0, rfl, hl⟩
 clear hs
 rename_i K65
 have e := Dim.of_le hl
 have d := d.trans e
 refine W.go 99 rfl ?_
 refine W.eff rfl rfl rfl (Ef.call rfl (shop_sp 2 K65)) ?_
 rintro _ _ _ ⟨_, rfl, rfl, p66, rfl, hl, hs⟩
 refine W.go 99 rfl ?_
 rename_i K66
 have e := Dim.of_le hl
 have d := d.trans e
 clear hl
 refine W.eff rfl rfl rfl (Ef.call rfl (addS_sp (X := C.X) (shopW 2) ⟨3, 0, 0, 0⟩ _ f6 p66 K66 hs n2)) ?_
 rintro _ _ _ ⟨v66, rfl, rfl, x1, rfl, hl⟩
 clear hs
 rename_i K67
 have e := Dim.of_le hl
 have d := d.trans e
 refine W.go 99 rfl ?_
 refine W.eff rfl rfl rfl (Ef.call rfl (shop_sp 1 K67)) ?_
 rintro _ _ _ ⟨_, rfl, rfl, p68, rfl, hl, hs⟩
 refine W.go 99 rfl ?_
 rename_i K68
 have e := Dim.of_le hl
 have d := d.trans e
 clear hl
 refine W.eff rfl rfl rfl (Ef.call rfl (addS_sp (X := C.X) (shopW 1) ⟨0, 0, 0, 2⟩ _ f7 p68 K68 hs n1)) ?_
 rintro _ _ _ ⟨v68, rfl, rfl, x2, rfl, hl⟩
 clear hs
 rename_i K69
 have e := Dim.of_le hl
 have d := d.trans e
 refine W.go 99 rfl ?_
 refine W.asLit 349 (p := true) rfl rfl ?_
 refine W.go 99 rfl ?_
 refine W.asLit 353 (p := true) rfl rfl ?_
 refine W.go 99 rfl ?_
 refine W.asLit 357 (p := true) rfl rfl ?_
 refine W.go 99 rfl ?_
 refine W.asLit 361 (p := true) rfl rfl ?_
 refine W.go 99 rfl ?_
 refine W.asLit 365 (p := true) rfl rfl ?_
 refine W.go 99 rfl ?_
 refine W.asLit 369 (p := true) rfl rfl ?_
 refine W.go 99 rfl ?_
 refine W.asLit 373 (p := true) rfl rfl ?_
 refine W.go 99 rfl ?_
 refine W.asLit 377 (p := true) rfl rfl ?_
 refine W.go 99 rfl ?_
 refine W.asLit 381 (p := true) rfl rfl ?_
 refine W.go 99 rfl ?_
 refine W.asLit 385 (p := true) rfl rfl ?_
 refine W.go 99 rfl ?_
 refine W.asLit 389 (p := true) rfl rfl ?_
 refine W.go 99 rfl ?_
 refine W.retO rt rfl ⟨?_, d⟩
 show Value.bool (((AddW (shopW 1) ⟨0, 0, 0, 2⟩).1.wants.length : Int) == 5) = _
 rw [f8]
 rfl
end Go.Mz

