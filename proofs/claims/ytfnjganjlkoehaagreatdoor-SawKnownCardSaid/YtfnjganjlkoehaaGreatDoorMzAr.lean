/- Lemmas on which the claim leans. -/
import Derived.Test.YtfnjganjlkoehaaGreatDoorMzAq
set_option maxRecDepth 100000
namespace Go.Mz
open Go.Conc Go.Proofs
variable {X : Logic Tryz.prog}
theorem subW_all (s : Sw) (w : List Nat) : subW s w [] s.stock = (listsW s.stock).filter (okW s w) := by
 unfold subW
 congr 1
 simp
theorem plans1_it {s : Sw} (hok : SOk s) {m : Nat} (hm : m < 32) (hw : WnOk s (bits5 m)) (p : Wp) (bs bw : Nat) (FK : LH) (hSK : SwK bs bw s p m FK) : IterF X 138 [pt bs, pt bw] encL3 (plansW s (bits5 m)) FK := by
 intro yv J Z L hY hZ hJ
 obtain ⟨yf, yt, yc, rfl⟩ := hY.fn
 have hF := Fra.zero hJ
 have hKL : Le FK L := hY.inv _ _ hJ
 have hl3 := hok.l3
 have hst := hok.st
 refine Sp.enter (n := 19) Tryz.func138 rfl rfl rfl rfl fun C hX _ hL0 r => ?_
 refine W.goP [6] 99 rfl ?_
 refine W.pub 3 (.inl ⟨_, rfl⟩) rfl rfl ?_
 intro b4 h4 _
 have hF1 := hF.put h4 (.cells #[.func yf yt yc] 163)
 have hL1 := hKL.trans (Le.put h4 (.cells #[.func yf yt yc] 163))
 have g4 := put_same L b4 (.cells #[.func yf yt yc] 163)
 change W _ _ _ _ _ _ (L.put b4 (.cells #[.func yf yt yc] 163))
 generalize L.put b4 (.cells #[.func yf yt yc] 163) = L1 at hF1 hL1 g4 ⊢
 refine W.go 99 rfl ?_
 refine W.vf rfl rfl rfl rfl (Vf.loadN rfl rfl rfl ((hSK.le hL1).cs)) ?_
 refine W.go 99 rfl ?_
 refine W.vf rfl rfl rfl rfl (Vf.load rfl rfl rfl ((hSK.le hL1).cw)) ?_
 refine W.go 99 rfl ?_
 refine W.eff rfl rfl rfl (Ef.call rfl (cuts_sp s p m L1 (hSK.le hL1).sw hok hm hw)) ?_
 rintro _ _ _ ⟨_, rfl, rfl, rfl, hl⟩
 rename_i L2
 have hF2 := hF1.mono hl
 have hL2 := hL1.trans hl
 have g42 := hl _ _ g4
 refine W.goP [9] 99 rfl ?_
 refine W.pub 5 (.inl ⟨_, rfl⟩) rfl rfl ?_
 intro b5 h5 _
 have hne : b4 ≠ b5 := fun e => by subst e; rw [g42] at h5; cases h5
 have hF3 := hF2.put h5 (.cells #[.nilFunc] 164)
 have hF4 := hF3.set (b := b5) (by rw [put_same]; simp) (.cells #[growV bs bw b4 b5] 164)
 have hL3 := hL2.trans ((Le.put h5 (.cells #[.nilFunc] 164)))
 refine W.go 99 rfl ?_
 refine W.eff0 rfl rfl (Ef.stoF rfl ⟨_, rfl, rfl⟩ rfl (put_same _ _ _) rfl (Nat.le_refl _) (singles rfl)) ?_
 rintro _ _ _ ⟨rfl, rfl, rfl⟩
 refine W.go 99 rfl ?_
 have hK4 := (hY.frame (fun _ _ hl h => h.trans hl) (((noL.put b4 (.cells #[.func yf yt yc] 163)).put b5 (.cells #[.nilFunc] 164)).put b5 (.cells #[growV bs bw b4 b5] 164))).inv _ _ hF4
 have hS4 := hSK.le hK4.1
 refine W.vf rfl rfl rfl rfl (Vf.load rfl rfl rfl (hS4.cell (i := 1) rfl)) ?_
 refine W.go 99 rfl ?_
 refine W.eff rfl rfl rfl (Ef.call rfl (sum_sp p.sa p.sc s.stock _ hS4.sw.st (by omega) (fun x hx => by have := hok.sr x hx; omega))) ?_
 rintro _ _ _ ⟨_, rfl, rfl, rfl, rfl⟩
 refine W.go 99 rfl ?_
 refine W.split rfl rfl rfl (fun e1 => W.go 99 rfl ?_) (fun e1 => W.go 99 rfl ?_)
 ·have hle : cutsW s (bits5 m) ≤ sumL s.stock := by simpa using e1
  have hpl : plansW s (bits5 m) = subW s (bits5 m) [] s.stock := by unfold plansW; rw [if_pos hle, subW_all]
  refine W.vf rfl rfl rfl rfl (Vf.load rfl rfl rfl (cell_of (put_same _ _ _) rfl)) ?_
  refine W.go 99 rfl ?_
  have hg := grow_sp (X := X) hok hm hw p bs bw b4 b5 (.func yf yt yc) _ J Z (((noL.put b4 (.cells #[.func yf yt yc] 163)).put b5 (.cells #[.nilFunc] 164)).put b5 (.cells #[growV bs bw b4 b5] 164)) FK hY hZ hSK (cell_of (by rw [put_ne _ _ hne, put_ne _ _ hne]; exact put_same _ _ _) rfl) (cell_of (put_same _ _ _) rfl)
   s.stock [] [] [] _ rfl (by simp) (by simp) (by rw [hpl]; simp) hF4
  rw [← hX] at hg
  refine W.eff rfl rfl rfl (Ef.callS rfl rfl rfl (Sp.toV (f1 := []) (f2 := [pt bs, pt bw, pt b4, pt b5]) hg)) ?_
  rintro _ _ _ ⟨_, rfl, rfl, hq⟩
  refine W.go 99 rfl ?_
  refine W.ret0 r rfl rfl ⟨rfl, ?_⟩
  rw [List.nil_append, ← hpl] at hq
  rcases hq with ⟨_, hq⟩ | ⟨_, hq⟩
  ·exact .inl (hq.less (noL_le _))
  ·obtain ⟨L1, g1, g2, _⟩ := hq
   exact .inr ⟨L1, g1, g2, noL_le _⟩
 ·have hpl : plansW s (bits5 m) = [] := by unfold plansW; rw [if_neg (by simpa using e1)]
  refine W.ret0 r rfl rfl ⟨rfl, .inl ?_⟩
  rw [hpl]
  exact hF4.less (noL_le _)
theorem plans_sp (s : Sw) (p : Wp) (m : Nat) (L : LH) : Sp X 121 [swA s p, .int .u8 m] L (fun v L' => ∃ bs bw, v = .func (.func 138) #[] #[pt bs, pt bw] ∧ Le L L' ∧ cellsAt L' ⟨bs, 0, none⟩ 4 (encSw s p) ∧ L'.cell? ⟨bw, 0, none⟩ = some (.int .u8 m)) := by
 refine Sp.enter (n := 6) Tryz.func121 rfl rfl rfl rfl fun C hX _ hL0 r => ?_
 refine W.go 99 rfl ?_
 refine W.pub 2 (.inl ⟨_, rfl⟩) rfl rfl ?_
 intro b1 hb1 _
 refine W.pub 3 (.inl ⟨_, rfl⟩) rfl rfl ?_
 intro b2 hb2 _
 refine W.ret r rfl rfl ?_
 have h2 := Le.put hb2 (.cells #[.int .u8 m] 95)
 exact ⟨b1, b2, rfl, (Le.put hb1 _).trans h2, h2.cellsAt (cellsAt_n (vs := encSw s p) (put_same _ _ _) rfl), cell_of (put_same _ _ _) rfl⟩
theorem full_bits {s : Sw} (h : s.wants.length ≤ 5) : bits5 (2 ^ s.wants.length - 1) = fullW s := by
 unfold fullW
 have : s.wants.length = 0 ∨ s.wants.length = 1 ∨ s.wants.length = 2 ∨ s.wants.length = 3 ∨ s.wants.length = 4 ∨ s.wants.length = 5 := by omega
 rcases this with e | e | e | e | e | e <;> rw [e] <;> decide
theorem served_sp (s : Sw) (p : Wp) (L : LH) (hs : SwAt L s p) (hok : SOk s) : Sp X 114 [swA s p] L (fun v L' => v = .bool (servedW s) ∧ Le L L') := by
 have hw5 := hok.w5
 have hm : 2 ^ s.wants.length - 1 < 32 := by
  have : 2 ^ s.wants.length ≤ 2 ^ 5 := Nat.pow_le_pow_right (by decide) hw5
  omega
 have hfb := full_bits hw5
 have hwn : WnOk s (bits5 (2 ^ s.wants.length - 1)) := by rw [hfb]; intro i hi; exact List.mem_range.1 hi
 refine Sp.enter (n := 13) Tryz.func114 rfl rfl rfl rfl fun C hX _ hL0 r => ?_
 refine W.go 99 rfl ?_
 refine W.drawn (by kernel_rfl) _ (Le.refl _) ?_
 refine DD.run' [0, 1] rfl ?_
 refine DD.act 2 rfl rfl rfl rfl rfl (Ef.call rfl (full_sp s p L hw5)) (by rintro _ _ _ ⟨_, rfl, rfl, rfl, rfl⟩; exact ⟨Le.refl _, rfl, .inl rfl⟩) ?_
 rintro _ _ _ ⟨_, rfl, rfl, rfl, rfl⟩
 refine DD.act 3 rfl rfl rfl rfl rfl (Ef.call rfl (plans_sp s p (2 ^ s.wants.length - 1) L)) ((by rintro _ _ _ ⟨_, rfl, rfl, _, _, rfl, hl, _⟩; exact ⟨hl, rfl, .inl rfl⟩)) ?_
 rintro _ _ _ ⟨_, rfl, rfl, bs, bw, rfl, hle, k1, k2⟩
 refine .fin rfl ?_
 refine W.go 99 rfl ?_
 rename_i L1
 refine W.pub 3 (.inl ⟨_, rfl⟩) rfl rfl ?_
 intro bi hbi _
 have hbl := put_same L1 bi (.cells #[.bool false] 4)
 have hSK : SwK bs bw s p (2 ^ s.wants.length - 1) L1 := ⟨k1, k2, hs.le hle⟩
 refine W.iterF L1 (Le.put hbi _) (fun pre L' => pre = [] ∧ L' bi = some (.cells #[.bool false] 4, true)) (fun j L' => j = .exit 0 ∧ plansW s (fullW s) ≠ [] ∧ L' bi = some (.cells #[.bool true] 4, true)) (xs := plansW s (fullW s)) (by have := plans1_it (X := C.X) hok hm hwn p bs bw L1 hSK; rwa [hfb] at this) ⟨_, rfl, rfl, rfl⟩ (by rw [r.ro]) [(10, .v (.func (.func 138) #[] #[pt bs, pt bw])), (3, .v (pt bi))] (by exact ⟨rfl, rfl, trivial⟩) rfl rfl rfl
  (fun _ _ _ hl h => ⟨h.1, hl _ _ h.2⟩) (fun _ _ _ hl h => ⟨h.1, h.2.1, hl _ _ h.2.2⟩) ⟨rfl, calm_cells hbl⟩ rfl (fun _ => rfl) ?_ ?_ ?_
 ·rintro d l pre x post L' q lb hx hl' ⟨rfl, hb⟩ hnl hnd hne g1 g2 C' c1 c2 hbeg hcont hbrk
  have hbl : bi ≠ l := fun e => by subst e; rw [g1] at hb; cases hb
  have hdb : bi ≠ d := fun e => by subst e; rw [g2] at hb; cases hb
  refine W.go 99 rfl ?_
  refine hbeg _ _ _ fun L2 r1 r2 => ?_
  refine W.go 99 rfl ?_
  refine W.eff0 rfl rfl (Ef.stoF rfl ⟨_, rfl, rfl⟩ rfl (by rw [r2 _ hbl]; exact hb) rfl (Nat.le_refl _) (singles rfl)) ?_
  rintro _ _ _ ⟨rfl, rfl, rfl⟩
  refine W.go 99 rfl ?_
  refine hbrk _ _ _ _ _ (.exit rfl) (by rw [put_ne _ _ (Ne.symm hbl)]; exact r1) (by rw [put_ne _ _ (Ne.symm hdb), r2 _ hne.symm]; exact g2) (le_put_none (fun b o ho => by rw [r2 _ (fun e => by subst e; rw [hnl] at ho; cases ho)]; exact hl' _ _ ho) hbi _) ⟨rfl, by rw [hx]; simp, calm_cells (put_same _ _ _)⟩
 ·rintro d l L' hl' - hnd ⟨hp, hb⟩ hd
  refine W.go 99 rfl ?_
  refine W.vf rfl rfl rfl rfl (Vf.load rfl rfl rfl (cell_of hb rfl)) ?_
  refine W.go 99 rfl ?_
  refine W.out (by rw [r.ro]) (.inr .ret) (WM.collected rfl hd (WM.ret r rfl rfl ⟨?_, hle.trans (le_put_none hl' hnd _)⟩))
  show _ = Value.bool (!(plansW s (fullW s)).isEmpty)
  rw [hp]; rfl
 ·rintro d l j L' hl' - hnd ⟨rfl, hp, hb⟩ hd
  refine W.go 99 rfl ?_
  refine W.vf rfl rfl rfl rfl (Vf.load rfl rfl rfl (cell_of hb rfl)) ?_
  refine W.go 99 rfl ?_
  refine W.out (by rw [r.ro]) (.inr .ret) (WM.collected rfl hd (WM.ret r rfl rfl ⟨?_, hle.trans (le_put_none hl' hnd _)⟩))
  show _ = Value.bool (!(plansW s (fullW s)).isEmpty)
  cases hh : plansW s (fullW s) with
  | nil => exact absurd hh hp
  | cons _ _ => rfl
end Go.Mz


set_option maxRecDepth 100000
namespace Go.Mz
open Go.Conc Go.Proofs
variable {X : Logic Tryz.prog}
structure CrV where
 w : Nat
 a : Int
 b : Int
 c : Int
 n : Int
 q : Int
 i : Bool
def encC (x : CrV) : List Value := [.int .u8 x.w, .int .i64 x.a, .int .i64 x.b, .int .i64 x.c, .int .i64 x.n, .int .i64 x.q, .bool x.i]
abbrev cC (x : CrV) : Value := .agg (encC x).toArray
theorem encC_len (x : CrV) : (encC x).length = 7 := rfl
theorem cellsAt_in {L : LH} {b : Nat} (pre mid post : List Value) {e : TypeId} {fz : Nat × Nat} {wr : Bool} (h : L b = some (.cells (pre ++ (mid ++ post)).toArray e fz, wr)) : cellsAt L ((⟨b, 0, none⟩ : Addr).add pre.length) mid.length mid :=
 ⟨rfl, fun i v hv => by
  have hi := (List.getElem?_eq_some_iff.1 hv).1
  rw [add_of, add_of]
  refine cell_of h ?_
  rw [List.getElem?_toArray, Nat.zero_add, List.getElem?_append_right (by omega), Nat.add_sub_cancel_left, List.getElem?_append_left hi]
  exact hv⟩
def FstQ (b : Nat) (fv : Value) (y : CrV) (L : LH) (v : Value) (L' : LH) : Prop :=
 v = .tuple #[] ∧ (∀ b' z, b' ≠ b → L b' = some z → L' b' = some z) ∧ L' b = some (.cells (fv :: (encC y ++ [.bool true])).toArray 112 (0, 0), true)
theorem take_sp (b : Nat) (fv : Value) (hfn : ∃ a b c, fv = .func a b c) (x y : CrV) (sm lt : Bool) (L : LH) (hb : L b = some (.cells (fv :: (encC y ++ [.bool sm])).toArray 112 (0, 0), true))
  (hl : sm = true → SpV X fv [cC x, cC y] L (fun v L' => v = .bool lt ∧ Le L L')) : Sp X 123 [pt b, cC x] L (FstQ b fv (if !sm || lt then x else y) L) := by
 obtain ⟨yf, yt, yc, rfl⟩ := hfn
 cases sm with
 | false =>
  refine Sp.enter (n := 28) Tryz.func123 rfl rfl rfl rfl fun C hX _ hL0 r => ?_
  refine W.go 99 rfl ?_
  refine W.drawn (by kernel_rfl) _ (Le.refl _) ?_
  refine DD.run' [0, 1, 2] rfl ?_
  refine DD.vf 3 rfl rfl rfl rfl rfl (Vf.load rfl rfl rfl (cell_of hb rfl)) ?_
  refine DD.run' [4, 5] rfl ?_
  refine DD.split 9 rfl (fun _ => ?_) (fun c => absurd c (by decide))
  refine DD.run' [6, 7, 8, 9, 10, 11, 12, 13, 14, 15, 16] rfl ?_
  refine .fin rfl ?_
  refine W.go 99 rfl ?_
  refine W.eff0 rfl rfl (Ef.stoL rfl ⟨_, rfl, rfl⟩ rfl hb rfl rfl rfl rfl rfl) ?_
  rintro _ _ _ ⟨rfl, rfl, rfl⟩
  refine W.go 99 rfl ?_
  refine W.eff0 rfl rfl (Ef.stoL rfl ⟨_, rfl, rfl⟩ rfl (put_same _ _ _) rfl rfl rfl rfl rfl) ?_
  rintro _ _ _ ⟨rfl, rfl, rfl⟩
  refine W.go 99 rfl ?_
  exact W.ret0 r rfl rfl ⟨rfl, fun b' z hb' hz => by rw [put_ne _ _ hb', put_ne _ _ hb']; exact hz, put_same _ _ _⟩
 | true =>
  have hl := hl rfl
  refine Sp.enter (n := 28) Tryz.func123 rfl rfl rfl rfl fun C hX _ hL0 r => ?_
  rw [← hX] at hl
  refine W.go 99 rfl ?_
  refine W.drawn (by kernel_rfl) _ (Le.refl _) ?_
  refine DD.run' [0, 1, 2] rfl ?_
  refine DD.vf 3 rfl rfl rfl rfl rfl (Vf.load rfl rfl rfl (cell_of hb rfl)) ?_
  refine DD.run' [4, 5] rfl ?_
  refine DD.split 9 rfl (fun c => absurd c (by decide)) (fun _ => ?_)
  refine DD.run' [6, 7, 8] rfl ?_
  refine DD.vf 9 rfl rfl rfl rfl rfl (Vf.load rfl rfl rfl (cell_of hb rfl)) ?_
  refine DD.run' [10, 11, 12, 13] rfl ?_
  refine DD.vf 14 rfl rfl rfl rfl rfl (Vf.loadN rfl rfl rfl ((by exact cellsAt_in [_] (encC y) [_] hb))) ?_
  refine DD.act 15 rfl rfl rfl rfl rfl (Ef.callS rfl rfl rfl hl) ((by rintro _ _ _ ⟨_, rfl, rfl, rfl, h⟩; exact ⟨h, rfl, .inl rfl⟩)) ?_
  rintro _ _ _ ⟨_, rfl, rfl, rfl, hle⟩
  have hb' := hle _ _ hb
  cases lt with
  | true =>
   refine DD.run' [16] rfl ?_
   refine .fin rfl ?_
   refine W.go 99 rfl ?_
   refine W.split rfl rfl rfl (fun c => ?_) (fun c => absurd c (by decide))
   refine W.go 99 rfl ?_
   refine W.eff0 rfl rfl (Ef.stoL rfl ⟨_, rfl, rfl⟩ rfl hb' rfl rfl rfl rfl rfl) ?_
   rintro _ _ _ ⟨rfl, rfl, rfl⟩
   refine W.go 99 rfl ?_
   refine W.eff0 rfl rfl (Ef.stoL rfl ⟨_, rfl, rfl⟩ rfl (put_same _ _ _) rfl rfl rfl rfl rfl) ?_
   rintro _ _ _ ⟨rfl, rfl, rfl⟩
   refine W.go 99 rfl ?_
   exact W.ret0 r rfl rfl ⟨rfl, fun b' z hb' hz => by rw [put_ne _ _ hb', put_ne _ _ hb']; exact hle _ _ hz, put_same _ _ _⟩
  | false =>
   refine DD.run' [16] rfl ?_
   refine .fin rfl ?_
   refine W.go 99 rfl ?_
   refine W.split rfl rfl rfl (fun c => absurd c (by decide)) (fun c => ?_)
   refine W.go 99 rfl ?_
   exact W.ret0 r rfl rfl ⟨rfl, fun b' z _ hz => hle _ _ hz, hb'⟩
def FswQ (b : Nat) (y : Nat) (L : LH) (v : Value) (L' : LH) : Prop :=
 v = .tuple #[] ∧ (∀ b' z, b' ≠ b → L b' = some z → L' b' = some z) ∧ L' b = some (.cells #[.func (.func 101) #[] #[], .int .u8 y, .bool true] 119 (0, 0), true)
theorem takeW_sp (b : Nat) (x y : Nat) (sm : Bool) (L : LH) (hx : x < 32) (hy : y < 32) (hb : L b = some (.cells #[.func (.func 101) #[] #[], .int .u8 y, .bool sm] 119 (0, 0), true)) :
  Sp X 103 [pt b, .int .u8 x] L (FswQ b (if !sm || shortB (bits5 x) (bits5 y) then x else y) L) := by
 cases sm with
 | false =>
  refine Sp.enter (n := 28) Tryz.func103 rfl rfl rfl rfl fun C hX _ hL0 r => ?_
  refine W.go 99 rfl ?_
  refine W.drawn (by kernel_rfl) _ (Le.refl _) ?_
  refine DD.run' [0, 1, 2] rfl ?_
  refine DD.vf 3 rfl rfl rfl rfl rfl (Vf.load rfl rfl rfl (cell_of hb rfl)) ?_
  refine DD.run' [4, 5] rfl ?_
  refine DD.split 9 rfl (fun _ => ?_) (fun c => absurd c (by decide))
  refine DD.run' [6, 7, 8, 9, 10, 11, 12, 13, 14, 15, 16] rfl ?_
  refine .fin rfl ?_
  refine W.go 99 rfl ?_
  refine W.eff0 rfl rfl (Ef.stoL rfl ⟨_, rfl, rfl⟩ rfl hb rfl rfl rfl rfl rfl) ?_
  rintro _ _ _ ⟨rfl, rfl, rfl⟩
  refine W.go 99 rfl ?_
  refine W.eff0 rfl rfl (Ef.stoL rfl ⟨_, rfl, rfl⟩ rfl (put_same _ _ _) rfl rfl rfl rfl rfl) ?_
  rintro _ _ _ ⟨rfl, rfl, rfl⟩
  refine W.go 99 rfl ?_
  exact W.ret0 r rfl rfl ⟨rfl, fun b' z hb' hz => by rw [put_ne _ _ hb', put_ne _ _ hb']; exact hz, put_same _ _ _⟩
 | true =>
  obtain ⟨lt, hlt⟩ : ∃ lt, shortB (bits5 x) (bits5 y) = lt := ⟨_, rfl⟩
  rw [hlt]
  refine Sp.enter (n := 28) Tryz.func103 rfl rfl rfl rfl fun C hX _ hL0 r => ?_
  have hl := shorter_sp (X := C.X) x y L hx hy
  rw [hlt] at hl
  refine W.go 99 rfl ?_
  refine W.drawn (by kernel_rfl) _ (Le.refl _) ?_
  refine DD.run' [0, 1, 2] rfl ?_
  refine DD.vf 3 rfl rfl rfl rfl rfl (Vf.load rfl rfl rfl (cell_of hb rfl)) ?_
  refine DD.run' [4, 5] rfl ?_
  refine DD.split 9 rfl (fun c => absurd c (by decide)) (fun _ => ?_)
  refine DD.run' [6, 7, 8] rfl ?_
  refine DD.vf 9 rfl rfl rfl rfl rfl (Vf.load rfl rfl rfl (cell_of hb rfl)) ?_
  refine DD.run' [10, 11, 12, 13] rfl ?_
  refine DD.vf 14 rfl rfl rfl rfl rfl (Vf.load rfl rfl rfl (cell_of hb rfl)) ?_
  refine DD.act 15 rfl rfl rfl rfl rfl (Ef.callS rfl rfl rfl (Sp.toV (f1 := []) (f2 := []) hl)) ((by rintro _ _ _ ⟨_, rfl, rfl, rfl, h⟩; exact ⟨h, rfl, .inl rfl⟩)) ?_
  rintro _ _ _ ⟨_, rfl, rfl, rfl, hle⟩
  have hb' := hle _ _ hb
  cases lt with
  | true =>
   refine DD.run' [16] rfl ?_
   refine .fin rfl ?_
   refine W.go 99 rfl ?_
   refine W.split rfl rfl rfl (fun c => ?_) (fun c => absurd c (by decide))
   refine W.go 99 rfl ?_
   refine W.eff0 rfl rfl (Ef.stoL rfl ⟨_, rfl, rfl⟩ rfl hb' rfl rfl rfl rfl rfl) ?_
   rintro _ _ _ ⟨rfl, rfl, rfl⟩
   refine W.go 99 rfl ?_
   refine W.eff0 rfl rfl (Ef.stoL rfl ⟨_, rfl, rfl⟩ rfl (put_same _ _ _) rfl rfl rfl rfl rfl) ?_
   rintro _ _ _ ⟨rfl, rfl, rfl⟩
   refine W.go 99 rfl ?_
   exact W.ret0 r rfl rfl ⟨rfl, fun b' z hb' hz => by rw [put_ne _ _ hb', put_ne _ _ hb']; exact hle _ _ hz, put_same _ _ _⟩
  | false =>
   refine DD.run' [16] rfl ?_
   refine .fin rfl ?_
   refine W.go 99 rfl ?_
   refine W.split rfl rfl rfl (fun c => absurd c (by decide)) (fun c => ?_)
   refine W.go 99 rfl ?_
   exact W.ret0 r rfl rfl ⟨rfl, fun b' z _ hz => hle _ _ hz, hb'⟩
def ltV (x y : CrV) : Bool := decide (x.n < y.n) || (decide (x.n = y.n) && decide (x.q < y.q))
theorem crush1_sp (x y : CrV) (L : LH) : Sp X 120 [cC x, cC y] L (fun v L' => v = .bool (ltV x y) ∧ L = L') := by
 refine Sp.enter (n := 24) Tryz.func120 rfl rfl rfl rfl fun C hX _ hL0 r => ?_
 refine W.go 99 rfl ?_
 refine W.split rfl rfl rfl (fun e1 => ?_) (fun e1 => ?_)
 ·refine W.go 99 rfl ?_
  exact W.ret r rfl rfl ⟨by unfold ltV; rw [e1]; rfl, rfl⟩
 refine W.go 99 rfl ?_
 refine W.split rfl rfl rfl (fun e2 => ?_) (fun e2 => ?_)
 ·refine W.go 99 rfl ?_
  exact W.ret r rfl rfl ⟨by unfold ltV; rw [e1]; simp at e2; simp [e2, retV], rfl⟩
 ·refine W.go 99 rfl ?_
  exact W.ret r rfl rfl ⟨by unfold ltV; rw [e1]; simp at e2; simp [e2, retV], rfl⟩
end Go.Mz


set_option maxRecDepth 100000
namespace Go.Mz
open Go.Conc Go.Proofs
variable {X : Logic Tryz.prog}
def ofCr (m : Nat) (c : Cr) : CrV := ⟨m, c.l.getD 0 0, c.l.getD 1 0, c.l.getD 2 0, c.c, c.p, true⟩
def crV (m : Nat) (o : Option Cr) : CrV := match o with
 | none => ⟨m, 0, 0, 0, 0, 0, false⟩
 | some c => ofCr m c
def BestV (m : Nat) (o : Option Cr) (y : CrV) (sm : Bool) : Prop := match o with
 | none => sm = false ∧ y = ⟨0, 0, 0, 0, 0, 0, false⟩
 | some c => sm = true ∧ y = ofCr m c
theorem ltV_of (m : Nat) (a b : Cr) : ltV (ofCr m a) (ofCr m b) = ltCr a b := rfl
theorem BestV.take {m : Nat} {o : Option Cr} {y : CrV} {sm : Bool} (h : BestV m o y sm) (c : Cr) : BestV m (takeBy ltCr o c) (if !sm || ltV (ofCr m c) y then ofCr m c else y) true := by
 cases o with
 | none =>
  obtain ⟨rfl, rfl⟩ := h
  exact ⟨rfl, rfl⟩
 | some z =>
  obtain ⟨rfl, rfl⟩ := h
  rw [ltV_of]
  show BestV m (if ltCr c z then some c else some z) _ _
  cases ltCr c z <;> exact ⟨rfl, rfl⟩
theorem firstBy_snoc {α : Type} (lt : α → α → Bool) (l : List α) (x : α) : firstBy lt (l ++ [x]) = takeBy lt (firstBy lt l) x := by unfold firstBy; rw [List.foldl_append]; rfl
theorem listsW_mem : ∀ {st l : List Int}, l ∈ listsW st → l.length = st.length ∧ ∀ k, 0 ≤ l.getD k 0 ∧ (k < st.length → l.getD k 0 ≤ st.getD k 0)
 | [], l, h => by
  rw [listsW, List.mem_singleton] at h
  subst h
  exact ⟨rfl, fun k => ⟨by simp, fun h => by simp at h⟩⟩
 | m :: t, l, h => by
  rw [listsW, List.mem_flatMap] at h
  obtain ⟨n, hn, h⟩ := h
  obtain ⟨r, hr, rfl⟩ := List.mem_map.1 h
  obtain ⟨h1, h2⟩ := listsW_mem hr
  rw [List.mem_range] at hn
  refine ⟨by simp [h1], fun k => ?_⟩
  cases k with
  | zero => exact ⟨by show (0 : Int) ≤ (n : Int); omega, fun _ => by show (n : Int) ≤ m; omega⟩
  | succ k => exact ⟨(h2 k).1, fun hk => (h2 k).2 (by simpa using hk)⟩
theorem plansW_mem {s : Sw} {w : List Nat} {l : List Int} (h : l ∈ plansW s w) : l ∈ listsW s.stock := by
 unfold plansW at h
 split at h
 ·exact (List.mem_filter.1 h).1
 ·cases h
theorem crush1_v (x y : CrV) (L : LH) : SpV X (.func (.func 120) #[] #[]) [cC x, cC y] L (fun v L' => v = .bool (ltV x y) ∧ Le L L') :=
 SpV.mono (Sp.toV (args := [cC x, cC y]) (f1 := []) (f2 := []) (crush1_sp x y L)) fun v L' h => ⟨h.1, by rw [h.2]; exact Le.refl _⟩
theorem crush_sp (s : Sw) (p : Wp) (m : Nat) (L : LH) (hs : SwAt L s p) (hok : SOk s) (hm : m < 32) (hw : WnOk s (bits5 m)) : Sp X 88 [swA s p, .int .u8 m] L (fun v L' => v = cC (crV m (crushW s (bits5 m))) ∧ Le L L') := by
 have hl3 := hok.l3
 have hst := hok.st
 refine Sp.enter (n := 33) Tryz.func88 rfl rfl rfl rfl fun C hX _ hL0 r => ?_
 refine W.go 99 rfl ?_
 refine W.pub 2 (.inl ⟨_, rfl⟩) rfl rfl ?_
 intro b2 hb2 _
 refine W.pub 3 (.inl ⟨_, rfl⟩) rfl rfl ?_
 intro b3 hb3 _
 have f2 := Le.put hb2 (.cells (encSw s p).toArray 83)
 have f3 := Le.put hb3 (.cells #[.int .u8 m] 95)
 have k2 := f3 _ _ (put_same L b2 (.cells (encSw s p).toArray 83))
 have k3 := put_same (L.put b2 (.cells (encSw s p).toArray 83)) b3 (.cells #[.int .u8 m] 95)
 have hle0 := f2.trans f3
 clear f2 f3
 change W _ _ _ _ _ _ ((L.put b2 (.cells (encSw s p).toArray 83)).put b3 (.cells #[.int .u8 m] 95))
 generalize (L.put b2 (.cells (encSw s p).toArray 83)).put b3 (.cells #[.int .u8 m] 95) = L0 at k2 k3 hle0 ⊢
 refine W.eff rfl rfl rfl (Ef.call rfl (plans_sp s p m L0)) ?_
 rintro _ _ _ ⟨_, rfl, rfl, bs, bw, rfl, hle, c1, c2⟩
 refine W.go 99 rfl ?_
 rename_i L1
 have hSK : SwK bs bw s p m L1 := ⟨c1, c2, hs.le (hle0.trans hle)⟩
 have k2 := hle _ _ k2
 have k3 := hle _ _ k3
 have hLL1 := hle0.trans hle
 refine W.pub 5 (.inl ⟨_, rfl⟩) rfl rfl ?_
 intro b5 hb5 _
 have g5 := put_same L1 b5 (.cells (.func (.func 120) #[] #[] :: (encC ⟨0, 0, 0, 0, 0, 0, false⟩ ++ [.bool false])).toArray 112)
 refine W.iterF L1 (Le.put hb5 _) (fun pre L' => ∃ y sm, BestV m (firstBy ltCr (pre.map (crOf s (bits5 m)))) y sm ∧ L' b5 = some (.cells (.func (.func 120) #[] #[] :: (encC y ++ [.bool sm])).toArray 112 (0, 0), true)) (fun _ _ => False) (xs := plansW s (bits5 m)) (plans1_it (X := C.X) hok hm hw p bs bw L1 hSK) ⟨_, rfl, rfl, rfl⟩ (by rw [r.ro]) [(11, .v (.func (.func 138) #[] #[pt bs, pt bw])), (5, .v (pt b5)), (3, .v (pt b3)), (2, .v (pt b2))] (by exact ⟨rfl, rfl, rfl, rfl, trivial⟩) rfl rfl rfl
  (fun _ _ _ hl ⟨y, sm, h1, h2⟩ => ⟨y, sm, h1, hl _ _ h2⟩) (fun _ _ _ _ h => h.elim) ⟨_, false, ⟨rfl, rfl⟩, calm_cells g5⟩ rfl (fun _ => rfl) ?_ ?_ (fun _ _ _ _ _ _ _ h _ => h.elim)
 ·rintro d l pre x post L' q lb hx hl' ⟨y, sm, hbe, hb⟩ hnl hnd hne g1 g2 C' c1' c2' hbeg hcont hbrk
  have hbl : b5 ≠ l := fun e => by subst e; rw [g1] at hb; cases hb
  have hdb : b5 ≠ d := fun e => by subst e; rw [g2] at hb; cases hb
  have hxm := listsW_mem (plansW_mem (show x ∈ plansW s (bits5 m) by rw [hx]; simp))
  have hge : ∀ k, 0 ≤ x.getD k 0 ∧ x.getD k 0 ≤ 8 := fun k => by
   refine ⟨(hxm.2 k).1, ?_⟩
   by_cases hk : k < s.stock.length
   ·have h1 := (hxm.2 k).2 hk
    have h2 := hok.sr (s.stock.getD k 0) (by rw [List.getD_eq_getElem?_getD, List.getElem?_eq_getElem hk]; exact List.getElem_mem hk)
    omega
   ·rw [List.getD_eq_getElem?_getD, List.getElem?_eq_none (by omega)]; decide
  obtain ⟨a, b, c, habc⟩ := list3 (pad3_len (l := x) (by omega))
  have ha := hge 0
  have hb0 := hge 1
  have hc := hge 2
  rw [← pad3_get, habc] at ha hb0 hc
  have henc : encL3 x = [.agg #[.int .i64 a, .int .i64 b, .int .i64 c]] := by unfold encL3 enc3; rw [habc]; rfl
  have hplan : planW s (bits5 m) [a, b, c] = planW s (bits5 m) x := by rw [← habc, planW_pad]
  rw [henc]
  refine W.go 99 rfl ?_
  refine hbeg _ _ _ fun L2 r1 r2 => ?_
  have hl2 : Le L1 L2 := fun b o ho => by rw [r2 _ (fun e => by subst e; rw [hnl] at ho; cases ho)]; exact hl' _ _ ho
  have hb2' := (r2 b5 hbl).trans hb
  have g2' := (r2 d (Ne.symm hne)).trans g2
  refine W.go 99 rfl ?_
  refine W.vf rfl rfl rfl rfl (Vf.loadN rfl rfl rfl (cellsAt_n (vs := encSw s p) (hl2 _ _ k2) rfl)) ?_
  refine W.go 99 rfl ?_
  refine W.vf rfl rfl rfl rfl (Vf.load rfl rfl rfl (cell_of (hl2 _ _ k3) rfl)) ?_
  refine W.go 99 rfl ?_
  have hpl := plan_sp (X := C'.X) s p m a b c L2 (hSK.sw.le hl2) hok hm hw ha hb0 hc
  rw [hplan] at hpl
  refine W.eff rfl rfl rfl (Ef.call rfl (hpl)) ?_
  rintro _ _ _ ⟨_, rfl, rfl, rfl, hl3'⟩
  rename_i L3
  have hPB : PB 4000 (planW s (bits5 m) x) := by
   rw [← hplan]
   exact (planTo_PB hok hw (bits5_len m) (fun k => by rw [← habc, pad3_get]; exact hge k) s.loaves.length).mono (by omega)
  have hcr : crOf s (bits5 m) x = ⟨bits5 m, x, sumL (planW s (bits5 m) x).t, leftW (planW s (bits5 m) x)⟩ := rfl
  obtain ⟨⟨t0, t1, t2, et, ht0, ht1, ht2⟩, ⟨s0, s1, s2, es, hs0, hs1, hs2⟩, ⟨d0, d1, d2, ed, hd0, hd1, hd2⟩, hqa⟩ := hPB
  generalize planW s (bits5 m) x = P at *
  obtain ⟨q1, q2, q3, q4⟩ := P
  simp only at et es ed hqa
  subst et es ed
  have hb3' := hl3' _ _ hb2'
  have r3 := hl3' _ _ r1
  have g3 := hl3' _ _ g2'
  have hl23 := hl2.trans hl3'
  change W _ _ _ _ ((16, SV.v (plV (t0, t1, t2) (s0, s1, s2) (d0, d1, d2) q4)) :: _) _ _
  refine W.go 99 rfl ?_
  refine W.weak (E' := [(3, .v (pt b3)), (5, .v (pt b5)), (6, .p 0 0), (7, .p 1 0)]) (B' := [some ⟨cellsS (.v (v3 a b c)), 99⟩, some ⟨cellsS (.v (plV (t0, t1, t2) (s0, s1, s2) (d0, d1, d2) q4)), 126⟩]) (by exact ⟨rfl, rfl, rfl, rfl, trivial⟩) (by exact ⟨rfl, rfl, trivial⟩) ?_
  refine W.drawn (by kernel_rfl) L1 hl23 ?_
  refine DD.vf 0 rfl rfl rfl rfl rfl (Vf.load rfl rfl rfl (cell_of k3 rfl)) ?_
  refine DD.run' [1, 2, 3, 5] rfl ?_
  refine DD.act 4 rfl rfl rfl rfl rfl (Ef.call rfl (sum3_sp t0 t1 t2 _ ht0 ht1 ht2)) ((by rintro _ _ _ ⟨_, rfl, rfl, rfl, hl⟩; exact ⟨hl23.trans hl, rfl, .inl rfl⟩)) ?_
  rintro _ _ _ ⟨_, rfl, rfl, rfl, hl4⟩
  refine DD.act 6 rfl rfl rfl rfl rfl (Ef.call rfl (left_sp (t0, t1, t2) (s0, s1, s2) (d0, d1, d2) q4 _ ⟨hs0, hs1, hs2⟩ ⟨hd0, hd1, hd2⟩ hqa)) ((by rintro _ _ _ ⟨_, rfl, rfl, rfl, hl⟩; exact ⟨(hl23.trans hl4).trans hl, rfl, .inl rfl⟩)) ?_
  rintro _ _ _ ⟨_, rfl, rfl, rfl, hl5⟩
  rename_i L5'
  have hL5 := (hl23.trans hl4).trans hl5
  have hb5' := hl5 _ _ (hl4 _ _ hb3')
  have r5 := hl5 _ _ (hl4 _ _ r3)
  have g5' := hl5 _ _ (hl4 _ _ g3)
  obtain ⟨X5, hX5⟩ : ∃ X5 : CrV, X5 = ⟨m, a, b, c, sumL [t0, t1, t2], sumL (l3 (s0, s1, s2)) - sumL (l3 (d0, d1, d2)) - q4, true⟩ := ⟨_, rfl⟩
  have heq : ofCr m (crOf s (bits5 m) x) = X5 := by
   rw [hcr, hX5]
   unfold ofCr
   rw [CrV.mk.injEq]
   refine ⟨rfl, ?_, ?_, ?_, rfl, rfl, rfl⟩
   ·rw [← pad3_get, habc]; rfl
   ·rw [← pad3_get, habc]; rfl
   ·rw [← pad3_get, habc]; rfl
  have htk := take_sp (X := C'.X) b5 (.func (.func 120) #[] #[]) ⟨_, _, _, rfl⟩ X5 y sm (ltV X5 y) _ hb5' (fun _ => crush1_v X5 y _)
  rw [show cC X5 = .agg #[.int .u8 m, .int .i64 a, .int .i64 b, .int .i64 c, .int .i64 (sumL [t0, t1, t2]), .int .i64 (sumL (l3 (s0, s1, s2)) - sumL (l3 (d0, d1, d2)) - q4), .bool true] by rw [hX5]; rfl] at htk
  refine DD.run' [7] rfl ?_
  have hfoot : ∀ v L', FstQ b5 (.func (.func 120) #[] #[]) (if !sm || ltV X5 y then X5 else y) L5' v L' → Le L1 L' := fun v L' h b z hz => h.2.1 b z (fun e => by subst e; rw [hb5] at hz; cases hz) (hL5 _ _ hz)
  refine DD.act 8 rfl rfl rfl rfl rfl (Ef.call rfl (htk)) ((by rintro _ _ _ ⟨_, rfl, rfl, hQ⟩; exact ⟨hfoot _ _ hQ, rfl, .inl rfl⟩)) ?_
  rintro _ _ _ ⟨_, rfl, rfl, hQ⟩
  obtain ⟨rfl, hk, hbb⟩ := hQ
  refine .fin rfl ?_
  refine W.go 99 rfl ?_
  refine hcont _ _ _ _ .nil (hk _ _ (Ne.symm hbl) r5) (hk _ _ (Ne.symm hdb) g5') (fun b z hz => hk b z (fun e => by subst e; rw [hb5] at hz; cases hz) (hL5 _ _ hz)) ⟨_, true, ?_, calm_cells hbb⟩
  rw [List.map_append, List.map_cons, List.map_nil, firstBy_snoc, ← heq]
  exact hbe.take _
 ·rintro d l L' hl' - hnd ⟨y, sm, hbe, hb⟩ hd
  refine W.go 99 rfl ?_
  refine W.vf rfl rfl rfl rfl (Vf.load rfl rfl rfl (cell_of hb rfl)) ?_
  refine W.go 99 rfl ?_
  have hcw : crushW s (bits5 m) = firstBy ltCr ((plansW s (bits5 m)).map (crOf s (bits5 m))) := rfl
  rw [← hcw] at hbe
  have hlf : Le L (L'.put d (.deferred none)) := hLL1.trans (le_put_none hl' hnd _)
  refine W.weak (E' := [(4, .p 2 0), (3, .v (pt b3)), (5, .v (pt b5)), (28, .v (.bool (!sm)))]) (B' := [none, none, some ⟨[.v (.int .u8 0), .v (.int .i64 0), .v (.int .i64 0), .v (.int .i64 0), .v (.int .i64 0), .v (.int .i64 0), .v (.bool false)], 101⟩]) (by exact ⟨rfl, rfl, rfl, rfl, trivial⟩) (by exact ⟨rfl, rfl, rfl, trivial⟩) ?_
  cases ho : crushW s (bits5 m) with
  | none =>
   rw [ho] at hbe r
   obtain ⟨rfl, rfl⟩ := hbe
   refine W.split rfl rfl rfl (fun c => ?_) (fun c => absurd c (by decide))
   refine W.go 99 rfl ?_
   refine W.vf rfl rfl rfl rfl (Vf.load rfl rfl rfl (cell_of (hl' _ _ k3) rfl)) ?_
   refine W.go 99 rfl ?_
   exact W.out (by rw [r.ro]) (.inr .ret) (WM.collected rfl hd (WM.ret r rfl rfl ⟨rfl, hlf⟩))
  | some z =>
   rw [ho] at hbe r
   obtain ⟨rfl, rfl⟩ := hbe
   refine W.split rfl rfl rfl (fun c => absurd c (by decide)) (fun c => ?_)
   refine W.go 99 rfl ?_
   refine W.vf rfl rfl rfl rfl (Vf.loadN rfl rfl rfl ((by exact cellsAt_in [_] (encC (ofCr m z)) [_] hb))) ?_
   refine W.go 99 rfl ?_
   exact W.out (by rw [r.ro]) (.inr .ret) (WM.collected rfl hd (WM.ret r rfl rfl ⟨rfl, hlf⟩))
end Go.Mz

