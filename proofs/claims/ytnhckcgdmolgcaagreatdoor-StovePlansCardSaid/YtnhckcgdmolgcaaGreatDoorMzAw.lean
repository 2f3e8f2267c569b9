/- Lemmas on which the claim leans. -/
import Derived.Test.YtnhckcgdmolgcaaGreatDoorMzAv
import Derived.KernelRfl
set_option maxRecDepth 100000
namespace Go.Mz
open Go.Conc Go.Proofs
def roomS : St := ⟨[⟨0, 1⟩, ⟨2, 1⟩], [⟨6, 3, 1, 5⟩, ⟨4, 4, 2, 6⟩], 3, 0, 2, 3⟩
theorem d_fate : FateE roomS [1, 2, 3] 0 ⟨1, 1⟩ = (1, 1, 0) := by kernel_rfl
theorem d_most : MostE roomS [0, 0, 0] = ([⟨-1, 0⟩, ⟨1, 0⟩], 1, 0) := by kernel_rfl
theorem d_soon : SoonE roomS [1, 2, 3] = ([⟨0, 0⟩, ⟨1, 0⟩], 2, 0) := by kernel_rfl
theorem d_crowd : CrowdE roomS [0, 0, 0] = ([0, 1], 0) := by kernel_rfl
theorem d_spare : SpareE roomS [1, 2, 3] 0 = (2, 0) := by kernel_rfl
theorem d_fire : FireE roomS = ([1, 1, 2], 4, 0) := by kernel_rfl
theorem d_days : DaysE roomS = (3, 0) := by kernel_rfl
section
variable {X : Logic Tryz.prog}
theorem roomL_sp (L : LH) : Sp X 75 [] L (fun v L' => ∃ p, v = stA roomS p ∧ Le L L' ∧ StAt L' roomS p) := by
 refine Sp.enter (n := 8) Tryz.func75 rfl rfl rfl rfl fun C hX _ hL0 r => ?_
 refine W.goP [4] 99 rfl ?_
 refine W.pub 3 (.inr ⟨_, _, _, rfl⟩) rfl rfl ?_
 intro b3 hb3 _
 refine W.goP [7] 99 rfl ?_
 refine W.pub 6 (.inr ⟨_, _, _, rfl⟩) rfl rfl ?_
 intro b6 hb6 _
 refine W.go 99 rfl ?_
 refine W.ret r rfl rfl ?_
 have f1 := Le.put hb3 (.cells #[.int .i64 0, .int .i64 1, .int .i64 2, .int .i64 1] 59)
 have f2 := Le.put hb6 (.cells #[.int .i64 6, .int .i64 3, .int .i64 1, .int .i64 5, .int .i64 4, .int .i64 4, .int .i64 2, .int .i64 6] 27)
 have k1 := f2 _ _ (put_same L b3 (.cells #[.int .i64 0, .int .i64 1, .int .i64 2, .int .i64 1] 59))
 have k2 := put_same (L.put b3 (.cells #[.int .i64 0, .int .i64 1, .int .i64 2, .int .i64 1] 59)) b6 (.cells #[.int .i64 6, .int .i64 3, .int .i64 1, .int .i64 5, .int .i64 4, .int .i64 4, .int .i64 2, .int .i64 6] 27)
 refine ⟨⟨some ⟨b3, 0, none⟩, some ⟨b6, 0, none⟩, 2, 2⟩, rfl, f1.trans f2, ⟨fun i x hx => ⟨_, rfl, fun j v hv => ?_⟩, fun i x hx => ⟨_, rfl, fun j v hv => ?_⟩, by decide, by decide⟩⟩
 ·rw [add_of, Nat.zero_add]
  refine cell_of k1 ?_
  match i, hx, j, hv with
  | 0, hx, 0, hv => cases hx; cases hv; rfl
  | 0, hx, 1, hv => cases hx; cases hv; rfl
  | 1, hx, 0, hv => cases hx; cases hv; rfl
  | 1, hx, 1, hv => cases hx; cases hv; rfl
 ·rw [add_of, Nat.zero_add]
  refine cell_of k2 ?_
  match i, hx, j, hv with
  | 0, hx, 0, hv => cases hx; cases hv; rfl
  | 0, hx, 1, hv => cases hx; cases hv; rfl
  | 0, hx, 2, hv => cases hx; cases hv; rfl
  | 0, hx, 3, hv => cases hx; cases hv; rfl
  | 1, hx, 0, hv => cases hx; cases hv; rfl
  | 1, hx, 1, hv => cases hx; cases hv; rfl
  | 1, hx, 2, hv => cases hx; cases hv; rfl
  | 1, hx, 3, hv => cases hx; cases hv; rfl
end
variable {Post : Value → World → Prop} {W0 : World}
theorem ask_new {L L1 : LH} {s : St} {p : Pt} {b : Nat} {x y z : Int} (hs : StAt L s p) (hb : L b = none) (hgl : GlOk L) (hl : L1 = L.put b (.cells #[.int .i64 x, .int .i64 y, .int .i64 z] 3)) : AskAt L1 s p (some ⟨b, 0, none⟩) [x, y, z] := by
 subst hl
 exact ⟨hs.le (Le.put hb _), ints3 (put_same _ _ _), hgl.le (Le.put hb _), by simp⟩
theorem both_at {L : LH} {b : Nat} {k d k2 d2 : Int} (h : L b = some (.cells #[.int .i64 k, .int .i64 d, .int .i64 k2, .int .i64 d2] 30 (0, 0), true)) : SlAt L (some ⟨b, 0, none⟩) 2 encSt [⟨k, d⟩, ⟨k2, d2⟩] := fun i x hx => ⟨_, rfl, fun j v hv => by
 rw [add_of, Nat.zero_add]
 refine cell_of h ?_
 match i, hx, j, hv with
 | 0, hx, 0, hv => cases hx; cases hv; rfl
 | 0, hx, 1, hv => cases hx; cases hv; rfl
 | 1, hx, 0, hv => cases hx; cases hv; rfl
 | 1, hx, 1, hv => cases hx; cases hv; rfl⟩
theorem dried_sp (L : LH) (hgl : GlOk L) : Sp (LFGo Tryz.prog Post W0) 21 [] L (fun v L' => v = .bool true ∧ Dim L L') := by
 refine Sp.enter (n := 138) Tryz.func21 rfl rfl rfl rfl fun C hX _ hL0 r => ?_
 refine W.go 99 rfl ?_
 refine W.eff rfl rfl rfl (Ef.call rfl (roomL_sp L)) ?_
 rintro _ _ _ ⟨_, rfl, rfl, p1, rfl, hl1, hs1⟩
 refine W.go 99 rfl ?_
 rename_i L1
 refine W.eff rfl rfl rfl (Ef.call rfl (hot_sp L1)) ?_
 rintro _ _ _ ⟨_, rfl, rfl, b1, rfl, hb1, rfl⟩
 refine W.go 99 rfl ?_
 refine W.eff rfl rfl rfl (Ef.call rfl (at_sp _ _ _)) ?_
 rintro _ _ _ ⟨_, rfl, rfl, rfl, rfl⟩
 refine W.go 99 rfl ?_
 have hf := Fate_sp (X := C.X) roomS p1 (some ⟨b1, 0, none⟩) 3 [1, 2, 3] 0 ⟨1, 1⟩ _ (ask_new hs1 hb1 (hgl.le hl1) rfl)
 rw [d_fate] at hf
 refine W.eff rfl rfl rfl (Ef.call rfl (hf)) ?_
 rintro _ _ _ ⟨_, rfl, rfl, rfl, hl2⟩
 refine W.go 99 rfl ?_
 rename_i L2
 have hl2 := hl1.trans ((Le.put hb1 _).trans hl2)
 refine W.eff rfl rfl rfl (Ef.call rfl (roomL_sp L2)) ?_
 rintro _ _ _ ⟨_, rfl, rfl, p2, rfl, hl3, hs3⟩
 refine W.go 99 rfl ?_
 rename_i L3
 refine W.eff rfl rfl rfl (Ef.call rfl (cold_sp L3)) ?_
 rintro _ _ _ ⟨_, rfl, rfl, b3, rfl, hb3, rfl⟩
 refine W.go 99 rfl ?_
 have hf := Most_sp (X := C.X) roomS p2 (some ⟨b3, 0, none⟩) 3 [0, 0, 0] _ (ask_new hs3 hb3 (hgl.le (hl2.trans hl3)) rfl)
 rw [d_most] at hf
 refine W.eff rfl rfl rfl (Ef.call rfl (hf)) ?_
 rintro _ _ _ ⟨_, rfl, rfl, u4, rfl, ad4, cap4, rfl, hl4, hp4, _⟩
 refine W.go 99 rfl ?_
 rename_i L4 _
 have hl4 := hl2.trans (hl3.trans ((Le.put hb3 _).trans hl4))
 refine W.eff rfl rfl rfl (Ef.call rfl (roomL_sp L4)) ?_
 rintro _ _ _ ⟨_, rfl, rfl, p5, rfl, hl5, hs5⟩
 refine W.go 99 rfl ?_
 rename_i L5
 refine W.eff rfl rfl rfl (Ef.call rfl (hot_sp L5)) ?_
 rintro _ _ _ ⟨_, rfl, rfl, b5, rfl, hb5, rfl⟩
 refine W.go 99 rfl ?_
 have hf := Soonest_sp (X := C.X) roomS p5 (some ⟨b5, 0, none⟩) 3 [1, 2, 3] _ (ask_new hs5 hb5 (hgl.le (hl4.trans hl5)) rfl)
 rw [d_soon] at hf
 refine W.eff rfl rfl rfl (Ef.call rfl (hf)) ?_
 rintro _ _ _ ⟨_, rfl, rfl, u6, rfl, ad6, cap6, rfl, hl6, hp6, _⟩
 refine W.go 99 rfl ?_
 rename_i L6 _
 have hl46 := hl5.trans ((Le.put hb5 _).trans hl6)
 refine W.eff rfl rfl rfl (Ef.call rfl (roomL_sp L6)) ?_
 rintro _ _ _ ⟨_, rfl, rfl, p7, rfl, hl7, hs7⟩
 refine W.go 99 rfl ?_
 rename_i L7
 refine W.eff rfl rfl rfl (Ef.call rfl (cold_sp L7)) ?_
 rintro _ _ _ ⟨_, rfl, rfl, b7, rfl, hb7, rfl⟩
 refine W.go 99 rfl ?_
 have hf := Crowd_sp (X := C.X) roomS p7 (some ⟨b7, 0, none⟩) 3 [0, 0, 0] _ (ask_new hs7 hb7 (hgl.le (hl4.trans (hl46.trans hl7))) rfl)
 rw [d_crowd] at hf
 refine W.eff rfl rfl rfl (Ef.call rfl (hf)) ?_
 rintro _ _ _ ⟨_, rfl, rfl, u8, rfl, ad8, cap8, rfl, hl8, hp8, _⟩
 refine W.go 99 rfl ?_
 rename_i L8 _
 have hl68 := hl7.trans ((Le.put hb7 _).trans hl8)
 refine W.eff rfl rfl rfl (Ef.call rfl (roomL_sp L8)) ?_
 rintro _ _ _ ⟨_, rfl, rfl, p9, rfl, hl9, hs9⟩
 refine W.go 99 rfl ?_
 rename_i L9
 have hf := Fire_sp (Post := Post) (W0 := W0) roomS p9 L9 hs9 (hgl.le (hl4.trans (hl46.trans (hl68.trans hl9))))
 rw [d_fire, ← hX] at hf
 refine W.eff rfl rfl rfl (Ef.call rfl (hf)) ?_
 rintro _ _ _ ⟨_, rfl, rfl, ad10, cap10, rfl, hp10, hd10⟩
 refine W.go 99 rfl ?_
 rename_i L10
 have hd := (Dim.of_le (hl4.trans (hl46.trans (hl68.trans hl9)))).trans hd10
 have hp4 := (Dim.of_le (hl46.trans (hl68.trans hl9))).trans hd10 |>.sl hp4
 have hp6 := (Dim.of_le (hl68.trans hl9)).trans hd10 |>.sl hp6
 have hp8 := (Dim.of_le hl9).trans hd10 |>.sl hp8
 refine W.eff rfl rfl rfl (Ef.call rfl (roomL_sp L10)) ?_
 rintro _ _ _ ⟨_, rfl, rfl, p11, rfl, hl11, hs11⟩
 refine W.go 99 rfl ?_
 rename_i L11
 have hf := Days_sp (Post := Post) (W0 := W0) roomS p11 L11 hs11 ((hd.trans (Dim.of_le hl11)).cell hgl)
 rw [d_days, ← hX] at hf
 refine W.eff rfl rfl rfl (Ef.call rfl (hf)) ?_
 rintro _ _ _ ⟨_, rfl, rfl, rfl, hd12⟩
 refine W.go 99 rfl ?_
 rename_i L12
 have hd1 := (Dim.of_le hl11).trans hd12
 refine W.eff rfl rfl rfl (Ef.call rfl (roomL_sp L12)) ?_
 rintro _ _ _ ⟨_, rfl, rfl, p13, rfl, hl13, hs13⟩
 refine W.go 99 rfl ?_
 rename_i L13
 refine W.eff rfl rfl rfl (Ef.call rfl (hot_sp L13)) ?_
 rintro _ _ _ ⟨_, rfl, rfl, b13, rfl, hb13, rfl⟩
 refine W.go 99 rfl ?_
 have hf := Spare_sp (X := C.X) roomS p13 (some ⟨b13, 0, none⟩) 3 [1, 2, 3] 0 _ (ask_new hs13 hb13 (((hd.trans hd1).trans (Dim.of_le hl13)).cell hgl) rfl)
 rw [d_spare] at hf
 refine W.eff rfl rfl rfl (Ef.call rfl (hf)) ?_
 rintro _ _ _ ⟨_, rfl, rfl, rfl, hl14⟩
 rename_i L14
 have hd2 := hd1.trans (Dim.of_le (hl13.trans ((Le.put hb13 _).trans hl14)))
 have hp4 := hd2.sl hp4
 have hp6 := hd2.sl hp6
 have hp8 := hd2.sl hp8
 have hp10 := hd2.sl hp10
 have hd := hd.trans hd2
 refine W.go 6 rfl ?_
 refine W.weak (E' := [(1, .v (.int .i64 1)), (2, .v (.int .i64 1)), (3, .v (.int .i64 0)), (4, .v (.slice ad4 2 cap4)), (5, .v (.int .i64 1)), (6, .v (.int .i64 0)), (7, .v (.slice ad6 2 cap6)), (8, .v (.int .i64 2)), (9, .v (.int .i64 0)), (10, .v (.slice ad8 2 cap8)), (11, .v (.int .i64 0)), (12, .v (.slice ad10 3 cap10)), (13, .v (.int .i64 4)), (14, .v (.int .i64 0)), (15, .v (.int .i64 3)), (16, .v (.int .i64 0)), (17, .v (.int .i64 2)), (18, .v (.int .i64 0))]) (B' := []) (by exact ⟨rfl, rfl, rfl, rfl, rfl, rfl, rfl, rfl, rfl, rfl, rfl, rfl, rfl, rfl, rfl, rfl, rfl, rfl, trivial⟩) (by exact trivial) ?_
 refine W.go 99 rfl ?_
 refine W.split rfl rfl rfl (fun c => ?_) (fun c => absurd c (by decide))
 refine W.go 99 rfl ?_
 refine W.split rfl rfl rfl (fun c => ?_) (fun c => absurd c (by decide))
 refine W.go 99 rfl ?_
 refine W.split rfl rfl rfl (fun c => ?_) (fun c => absurd c (by decide))
 refine W.go 99 rfl ?_
 refine W.split rfl rfl rfl (fun c => ?_) (fun c => absurd c (by decide))
 refine W.go 99 rfl ?_
 refine W.split rfl rfl rfl (fun c => ?_) (fun c => absurd c (by decide))
 refine W.go 99 rfl ?_
 refine W.split rfl rfl rfl (fun c => ?_) (fun c => absurd c (by decide))
 refine W.go 99 rfl ?_
 refine W.split rfl rfl rfl (fun c => ?_) (fun c => absurd c (by decide))
 refine W.go 99 rfl ?_
 refine W.split rfl rfl rfl (fun c => ?_) (fun c => absurd c (by decide))
 refine W.go 99 rfl ?_
 refine W.split rfl rfl rfl (fun c => ?_) (fun c => absurd c (by decide))
 refine W.go 99 rfl ?_
 refine W.split rfl rfl rfl (fun c => ?_) (fun c => absurd c (by decide))
 refine W.go 99 rfl ?_
 refine W.split rfl rfl rfl (fun c => ?_) (fun c => absurd c (by decide))
 refine W.go 99 rfl ?_
 refine W.split rfl rfl rfl (fun c => ?_) (fun c => absurd c (by decide))
 refine W.go 99 rfl ?_
 refine W.split rfl rfl rfl (fun c => ?_) (fun c => absurd c (by decide))
 refine W.go 99 rfl ?_
 refine W.split rfl rfl rfl (fun c => ?_) (fun c => absurd c (by decide))
 refine W.go 99 rfl ?_
 refine W.eff rfl rfl rfl (Ef.call rfl (both_sp (-1) 0 1 0 L14)) ?_
 rintro _ _ _ ⟨_, rfl, rfl, b15, rfl, hb15, rfl⟩
 refine W.go 99 rfl ?_
 have he := EqStands_sp (X := C.X) ad4 (some ⟨b15, 0, none⟩) cap4 2 [⟨-1, 0⟩, ⟨1, 0⟩] [⟨-1, 0⟩, ⟨1, 0⟩] _ (hp4.le (Le.put hb15 _)) (both_at (put_same _ _ _)) (by decide) (by decide)
 refine W.eff rfl rfl rfl (Ef.call rfl (he)) ?_
 rintro _ _ _ ⟨_, rfl, rfl, rfl, rfl⟩
 refine W.go 99 rfl ?_
 refine W.split rfl rfl rfl (fun c => ?_) (fun c => absurd c (by decide))
 refine W.go 99 rfl ?_
 refine W.eff rfl rfl rfl (Ef.call rfl (both_sp 0 0 1 0 _)) ?_
 rintro _ _ _ ⟨_, rfl, rfl, b16, rfl, hb16, rfl⟩
 refine W.go 99 rfl ?_
 have hl16 := (Le.put hb15 (.cells #[.int .i64 (-1), .int .i64 0, .int .i64 1, .int .i64 0] 30)).trans (Le.put hb16 (.cells #[.int .i64 0, .int .i64 0, .int .i64 1, .int .i64 0] 30))
 have he := EqStands_sp (X := C.X) ad6 (some ⟨b16, 0, none⟩) cap6 2 [⟨0, 0⟩, ⟨1, 0⟩] [⟨0, 0⟩, ⟨1, 0⟩] _ (hp6.le hl16) (both_at (put_same _ _ _)) (by decide) (by decide)
 refine W.eff rfl rfl rfl (Ef.call rfl (he)) ?_
 rintro _ _ _ ⟨_, rfl, rfl, rfl, rfl⟩
 refine W.go 99 rfl ?_
 refine W.split rfl rfl rfl (fun c => ?_) (fun c => absurd c (by decide))
 refine W.go 99 rfl ?_
 refine W.pub 130 (.inr ⟨_, _, _, rfl⟩) rfl rfl ?_
 intro b17 hb17 _
 have hl17 := hl16.trans (Le.put hb17 (.cells #[.int .i64 0, .int .i64 1] 3))
 have he := EqInts_sp (X := C.X) ad8 (some ⟨b17, 0, none⟩) cap8 2 [0, 1] [0, 1] _ (hp8.le hl17) (ints2 (put_same _ _ _)) (by decide) (by decide)
 refine W.eff rfl rfl rfl (Ef.call rfl (he)) ?_
 rintro _ _ _ ⟨_, rfl, rfl, rfl, rfl⟩
 refine W.go 99 rfl ?_
 refine W.split rfl rfl rfl (fun c => ?_) (fun c => absurd c (by decide))
 refine W.go 99 rfl ?_
 refine W.pub 135 (.inr ⟨_, _, _, rfl⟩) rfl rfl ?_
 intro b18 hb18 _
 have hl18 := hl17.trans (Le.put hb18 (.cells #[.int .i64 1, .int .i64 1, .int .i64 2] 3))
 have he := EqInts_sp (X := C.X) ad10 (some ⟨b18, 0, none⟩) cap10 3 [1, 1, 2] [1, 1, 2] _ (hp10.le hl18) (ints3 (put_same _ _ _)) (by decide) (by decide)
 refine W.eff rfl rfl rfl (Ef.call rfl (he)) ?_
 rintro _ _ _ ⟨_, rfl, rfl, rfl, rfl⟩
 refine W.go 99 rfl ?_
 refine W.ret r rfl rfl ?_
 refine ⟨?_, hd.trans (Dim.of_le hl18)⟩
 rw [decide_eq_true rfl]
 rfl
end Go.Mz


set_option maxRecDepth 100000
namespace Go.Mz
open Go.Conc Go.Proofs
theorem le_but {L L1 : LH} {b : Nat} (hb : L b = none) (hl : Le L L1) : Le L (L1.but b) := fun b' x hx => by
 rw [but_get (fun e => by subst e; rw [hb] at hx; cases hx)]; exact hl _ _ hx
theorem vast_no {s : St} (h : vastB s = false) : s.shelves.length ≤ 20 ∧ s.cones.length ≤ 20 := by
 unfold vastB at h
 simp only [Bool.or_eq_false_iff, decide_eq_false_iff_not] at h
 omega
theorem sl_block {α : Type} {L : LH} {b : Nat} {l : List α} {k : Nat} {e : TypeId} {enc : α → List Value} (hk : ∀ x, (enc x).length = k) (h : L b = some (.cells (l.flatMap enc).toArray e (0, 0), true)) : SlAt L (some ⟨b, 0, none⟩) k enc l := by
 have hl : ∀ l : List α, (l.flatMap enc).length = l.length * k := fun l => by
  induction l with
  | nil => simp
  | cons a l ih => rw [List.flatMap_cons, List.length_append, hk, ih, List.length_cons, Nat.succ_mul]; omega
 exact Own.at (e := e) (len := l.length) (cap := l.length) (ob := some b) ⟨l.length, (l.flatMap enc).toArray, rfl, h, by simp [hl], Nat.le_refl _, hl l, fun i x hx => by simpa using hx⟩ hk
def encSP (x : St × Pt) : List Value := bxS x.1 x.2
theorem encSP_len (x : St × Pt) : (encSP x).length = 6 := rfl
abbrev HP := Rf × List Int
def encHP (x : HP) : List Value := [slV x.1]
theorem encHP_len (x : HP) : (encHP x).length = 1 := rfl
structure HPOk (L : LH) (x : HP) : Prop where
 i : IntsAt L x.1.1 x.2
 l : x.1.2.1 = x.2.length
 n : x.2.length ≤ 20
structure SPOk (L : LH) (x : St × Pt) : Prop where
 st : StAt L x.1 x.2
 s : x.1.shelves.length ≤ 20
 c : x.1.cones.length ≤ 20
theorem HPOk.le {L L' : LH} {x : HP} (h : HPOk L x) (hl : Le L L') : HPOk L' x := ⟨h.i.le hl, h.l, h.n⟩
theorem SPOk.le {L L' : LH} {x : St × Pt} (h : SPOk L x) (hl : Le L L') : SPOk L' x := ⟨h.st.le hl, h.s, h.c⟩
structure SevAt (L : LH) (ba bb : Nat) (Ss : List (St × Pt)) (Hs : List HP) : Prop where
 ss : SlAt L (some ⟨ba, 0, none⟩) 6 encSP Ss
 hs : SlAt L (some ⟨bb, 0, none⟩) 1 encHP Hs
 so : ∀ x ∈ Ss, SPOk L x
 ho : ∀ x ∈ Hs, HPOk L x
theorem SevAt.le {L L' : LH} {ba bb : Nat} {Ss : List (St × Pt)} {Hs : List HP} (h : SevAt L ba bb Ss Hs) (hl : Le L L') : SevAt L' ba bb Ss Hs := ⟨h.ss.le hl, h.hs.le hl, fun x hx => (h.so x hx).le hl, fun x hx => (h.ho x hx).le hl⟩
section
variable {X : Logic Tryz.prog}
theorem sev_sp (s : St) (p : Pt) (c : Cone) (ha : Option Addr) (hc : Nat) (hs : List Int) (b : Nat) (ad : Option Addr) (cap : Nat) (l : List Int) (n : Nat) (L : LH) (hst : StAt (L.but b) s p) (hh : IntsAt (L.but b) ha hs) (h : HatAt L b ad cap l n) (hn : n ≤ 600000) (hl : l.length ≤ 140737488355328) (h1 : s.shelves.length ≤ 20) (h2 : s.cones.length ≤ 20) (h3 : hs.length ≤ 20) :
  Sp X 23 [stA s p, .agg (encCo c).toArray, .slice ha hs.length hc, pt b] L (fun v L' => ∃ own p1 t ta tc cs2 p2 ba bb m, v = .tuple #[.slice (some ⟨ba, 0, none⟩) 4 4, .slice (some ⟨bb, 0, none⟩) 4 4] ∧
   (StoveH own 3 3 ∨ StoveH own 2 4) ∧ heatsE own t = 0 ∧ cs2.length = own.cones.length ∧ m ≤ n + 60 ∧ HatAt L' b ad cap l m ∧ Le (L.but b) L' ∧
   SevAt (L'.but b) ba bb [(s, p), (own, p1), ({ own with cones := cs2 }, p2), (own, p1)] [((ha, hs.length, hc), hs), ((ta, t.length, tc), t), ((ta, t.length, tc), t), ((ha, hs.length, hc), hs)]) := by
 refine (several_sp s p c ha hc hs b ad cap l n L (hst.le (but_le _ _)) (hh.le (but_le _ _)) h hn hl).mono ?_ (fun _ _ h => h)
 rintro v L' ⟨own, p1, t, ta, tc, cs2, p2, ba, bb, m, rfl, k1, k2, hs1, ht, hc2, hm, hh', hle, s1, s2, i1, n1, n2⟩
 have hok : Ok own := hs1.elim (fun h => h.ok) (fun h => h.ok)
 have o1 := hok.s3
 have o2 := hok.c3
 have o3 := (hok_of ht).len
 have o4 := hok.d4
 have o5 := hok.d1
 have f := but_but hle
 refine ⟨own, p1, t, ta, tc, cs2, p2, ba, bb, m, rfl, hs1, ht, hc2, hm, hh', hle, sl_block (e := 25) encSP_len ?_, sl_block (e := 28) encHP_len ?_, fun x hx => ?_, fun x hx => ?_⟩
 ·rw [but_get n1, k1]
  simp [encSP]
 ·rw [but_get n2, k2]; rfl
 ·simp only [List.mem_cons, List.not_mem_nil, or_false] at hx
  rcases hx with rfl | rfl | rfl | rfl
  ·exact ⟨hst.le f, h1, h2⟩
  ·exact ⟨s1, by show own.shelves.length ≤ 20; omega, by show own.cones.length ≤ 20; omega⟩
  ·exact ⟨s2, by show own.shelves.length ≤ 20; omega, by show cs2.length ≤ 20; omega⟩
  ·exact ⟨s1, by show own.shelves.length ≤ 20; omega, by show own.cones.length ≤ 20; omega⟩
 ·simp only [List.mem_cons, List.not_mem_nil, or_false] at hx
  rcases hx with rfl | rfl | rfl | rfl
  ·exact ⟨hh.le f, rfl, h3⟩
  ·exact ⟨i1, rfl, by show t.length ≤ 20; omega⟩
  ·exact ⟨i1, rfl, by show t.length ≤ 20; omega⟩
  ·exact ⟨hh.le f, rfl, h3⟩
end
end Go.Mz

