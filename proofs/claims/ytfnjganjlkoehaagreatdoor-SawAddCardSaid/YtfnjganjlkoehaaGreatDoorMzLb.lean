/- Lemmas on which the claim leans. -/
import Derived.Test.YtfnjganjlkoehaaGreatDoorMzLa
set_option maxRecDepth 100000
namespace Go.Mz
open Go.Conc Go.Proofs
variable {X : Logic Tryz.prog}
theorem wantK_at {L : LH} {s : Sw} {p : Wp} {x : Want} {wa : Option Addr} {wc : Nat} (h : SwAt L s p) (hw : SlAt L wa 4 encWt (s.wants ++ [x])) (hc : (s.wants ++ [x]).length ≤ wc) : SwAt L (wantK s x) ⟨p.la, p.sa, wa, p.lc, p.sc, wc⟩ := ⟨h.lo, h.st, hw, hc⟩
theorem wantK_ok {s : Sw} {x : Want} (h : SOk s) (h5 : s.wants.length ≠ 5) (hx : wantE s.loaves x = 0) : SOk (wantK s x) :=
 ⟨h.l1, h.l3, h.lf, h.st, h.sr, h.k0, h.k3, (by show (s.wants ++ [x]).length ≤ 5; have := h.w5; simp; omega), fun y hy => by
  rcases List.mem_append.1 hy with hy | hy
  ·exact h.wt y hy
  ·rw [List.mem_singleton.1 hy]; exact wantE_0 hx⟩
def SwQ (x : Sw × Int) (L : LH) (v : Value) (L' : LH) : Prop := ∃ p, v = .tuple #[swA x.1 p, .int .i64 x.2] ∧ SwAt L' x.1 p ∧ Le L L'
theorem sw0_at (L : LH) : SwAt L sw0 ⟨none, none, none, 0, 0, 0⟩ := ⟨⟨[], rfl, SlAt.empty, fun x hx => by cases hx⟩, SlAt.empty, SlAt.empty, Nat.le_refl _⟩
theorem With_sp (s : Sw) (p : Wp) (x : Want) (L : LH) (h : SwAt L s p) (hn : s.wants.length ≤ 1000) : Sp X 57 [swA s p, .agg (encWt x).toArray] L (fun v L' => ∃ p', v = swA (wantK s x) p' ∧ Le L L' ∧ SwAt L' (wantK s x) p') := by
 refine Sp.enter (n := 14) Tryz.func57 rfl rfl rfl rfl fun C hX _ hL0 r => ?_
 refine W.go 99 rfl ?_
 refine W.drawn (by kernel_rfl) L (Le.refl _) ?_
 refine DD.run' [0, 1, 2, 4, 5] rfl ?_
 refine DD.act 3 rfl rfl rfl rfl rfl (Ef.pub 5 (.inr ⟨_, _, _, rfl⟩) rfl rfl (fun b5 hb5 _ => Ef.grow rfl rfl rfl rfl rfl rfl rfl rfl rfl encWt_len encWt_sg (Grow.new (Le.put hb5 _) (put_same _ _ _) hb5) (ls := s.wants) (.sl (h.wt.le (Le.put hb5 _)) encWt_len rfl) (by simp; omega))) (by rintro _ _ _ ⟨b5, hb5, _, _, rfl, rfl, hg, _⟩; exact ⟨hg.1, rfl, .inl rfl⟩) ?_
 rintro _ _ _ ⟨b5, hb5, _, v3, rfl, rfl, hg3, _⟩
 rw [List.nil_append] at hg3
 obtain ⟨wa, wc, rfl, _⟩ := hg3.slice
 refine DD.act 6 rfl rfl rfl rfl rfl (Ef.grow rfl rfl rfl rfl rfl rfl rfl rfl rfl encWt_len encWt_sg hg3 (ls := [x]) (.own rfl rfl rfl rfl) (by simp; omega)) ((by rintro _ _ _ ⟨_, rfl, rfl, hg, _⟩; exact ⟨hg.1, rfl, .inl rfl⟩)) ?_
 rintro _ _ _ ⟨v4, rfl, rfl, hg4, _⟩
 obtain ⟨wa, wc, rfl, hwc⟩ := hg4.slice
 refine DD.run' [7] rfl ?_
 refine DD.act 8 rfl rfl rfl rfl rfl (Ef.sto rfl) (by rintro _ _ _ ⟨rfl, rfl, rfl⟩; exact ⟨hg4.1, rfl, .inr rfl⟩) ?_
 rintro _ _ _ ⟨rfl, rfl, rfl⟩
 refine .fin rfl ?_
 refine W.go 99 rfl ?_
 refine W.ret r rfl rfl ?_
 exact ⟨⟨p.la, p.sa, wa, p.lc, p.sc, wc⟩, rfl, hg4.1, wantK_at (h.le hg4.1) (hg4.at encWt_len).2 hwc⟩
theorem Add_sp (s : Sw) (p : Wp) (x : Want) (L : LH) (h : SwAt L s p) (hn : Sm s) : Sp X 58 [swA s p, .agg (encWt x).toArray] L (SwQ (AddW s x) L) := by
 refine Sp.enter (n := 76) Tryz.func58 rfl rfl rfl rfl fun C hX _ hL0 r => ?_
 refine W.go 99 rfl ?_
 refine W.eff rfl rfl rfl (Ef.call rfl (open_sp s p none none 0 0 [] [] L h hn SlAt.empty SlAt.empty (by simp) (by simp))) ?_
 rintro _ _ _ ⟨v0, rfl, rfl, hle, hq⟩
 refine W.go 99 rfl ?_
 rename_i L1
 rw [openW_nil] at hq
 rcases hq with ⟨he, rfl⟩ | ⟨he, rfl⟩
 ·have hCE : AddW s x = (sw0, sawE s) := by unfold AddW; rw [if_pos he]
  rw [hCE] at r
  refine W.go 99 rfl ?_
  refine W.split rfl rfl rfl (fun e1 => W.go 99 rfl ?_) (fun e1 => W.go 99 rfl ?_)
  ·refine W.ret r rfl rfl ?_
   exact ⟨⟨none, none, none, 0, 0, 0⟩, rfl, sw0_at _, hle⟩
  ·simp at e1; exact absurd e1 he
 have hok := sawE_0 he
 have hl3 := hok.l3
 have hst3 := hok.st
 have hw5 := hok.w5
 have hAW : AddW s x = if s.wants.length = 5 then (sw0, 6) else if wantE s.loaves x ≠ 0 then (sw0, wantE s.loaves x) else if servedW s && !servedW (wantK s x) then (sw0, 9) else (wantK s x, 0) := by unfold AddW; rw [if_neg (by simp [he])]
 rw [hAW] at r
 refine W.go 99 rfl ?_
 refine W.split rfl rfl rfl (fun e1 => ?_) (fun e1 => ?_)
 ·simp at e1
 refine W.weak (E' := [(2, .p 0 0), (3, .p 1 0), (4, .p 2 0), (18, .lit false)]) (B' := [some ⟨cellsS (.v (swA s p)), 26⟩, some ⟨cellsS (.v (.agg (encWt x).toArray)), 28⟩, some ⟨List.map SV.v ti26.z.cells.toList, 26⟩]) (by exact ⟨rfl, rfl, rfl, rfl, trivial⟩) (by exact ⟨rfl, rfl, rfl, trivial⟩) ?_
 refine W.go 99 rfl ?_
 refine W.split rfl rfl rfl (fun e2 => W.go 99 rfl ?_) (fun e2 => W.go 99 rfl ?_)
 ·have h5 : s.wants.length = 5 := by have : ((s.wants.length : Nat) : Int) = 5 := (by simpa using e2); omega
  rw [if_pos h5] at r
  refine W.ret r rfl rfl ?_
  exact ⟨⟨none, none, none, 0, 0, 0⟩, rfl, sw0_at _, hle⟩
 have h5 : s.wants.length ≠ 5 := by have : ¬ ((s.wants.length : Nat) : Int) = 5 := (by simpa using e2); omega
 rw [if_neg h5] at r
 refine W.eff rfl rfl rfl (Ef.call rfl (checkWant_sp s p x L1 (h.le hle) hn)) ?_
 rintro _ _ _ ⟨_, rfl, rfl, rfl, rfl⟩
 refine W.go 99 rfl ?_
 refine W.split rfl rfl rfl (fun e3 => W.go 99 rfl ?_) (fun e3 => W.go 99 rfl ?_)
 ·have h6 : wantE s.loaves x ≠ 0 := by simpa using e3
  rw [if_pos h6] at r
  refine W.ret r rfl rfl ?_
  exact ⟨⟨none, none, none, 0, 0, 0⟩, rfl, sw0_at _, hle⟩
 have h6 : wantE s.loaves x = 0 := by simpa using e3
 rw [if_neg (by simp [h6])] at r
 have hokx := wantK_ok hok h5 h6
 have hs1 := h.le hle
 have hcap := h.cap
 refine W.drawn (by kernel_rfl) L1 (Le.refl _) ?_
 refine DD.run' [0, 1, 2, 3, 4, 5, 6, 7, 9, 10] rfl ?_
 refine DD.vf 8 rfl rfl rfl rfl rfl (Vf.slice3 rfl rfl rfl Tryz.underlying24 size28 (Nat.le_refl _) hcap) ?_
 refine DD.act 11 rfl rfl rfl rfl rfl (Ef.appF rfl rfl rfl rfl rfl rfl rfl rfl rfl encWt_len hs1.wt (ls := [x]) (.own rfl rfl rfl rfl) (by simp) (by simp; omega)) ((by rintro _ _ _ ⟨_, _, _, rfl, rfl, hn, rfl, _⟩; exact ⟨Le.put hn _, rfl, .inl rfl⟩)) ?_
 rintro _ _ _ ⟨b5, c5, cap5, rfl, rfl, hb5, rfl, hown5⟩
 refine DD.run' [12] rfl ?_
 refine DD.act 13 rfl rfl rfl rfl rfl (Ef.sto rfl) (by rintro _ _ _ ⟨rfl, rfl, rfl⟩; exact ⟨Le.put hb5 _, rfl, .inr rfl⟩) ?_
 rintro _ _ _ ⟨rfl, rfl, rfl⟩
 refine .fin rfl ?_
 refine W.go 99 rfl ?_
 have hL12 : Le L1 (L1.put b5 (Obj.cells c5 28)) := Le.put hb5 _
 generalize L1.put b5 (Obj.cells c5 28) = L2 at hL12 hown5 ⊢
 have hwx := hown5.at encWt_len
 obtain ⟨_, _, hce, hcp5⟩ := hown5.slice
 cases hce
 have hs2 := hs1.le hL12
 have hsx : SwAt L2 (wantK s x) ⟨p.la, p.sa, some ⟨b5, 0, none⟩, p.lc, p.sc, cap5⟩ := wantK_at hs2 hwx hcp5
 refine W.eff rfl rfl rfl (Ef.call rfl (served_sp s p L2 hs2 hok)) ?_
 rintro _ _ _ ⟨_, rfl, rfl, rfl, hl23⟩
 refine W.go 99 rfl ?_
 rename_i L3
 apply W.cut (fun E B L' => Le L2 L' ∧ (servedW s && !servedW (wantK s x)) = false ∧ SubE E [(2, .p 0 0), (4, .p 2 0), (9, .p 3 0), (57, .v (.slice p.la s.loaves.length p.lc)), (58, .v (.int .i64 (s.loaves.length : Nat))), (59, .v (.int .i64 0))] ∧ PreB B [some ⟨cellsS (.v (swA s p)), 26⟩, some ⟨cellsS (.v (.agg (encWt x).toArray)), 28⟩, some ⟨List.map SV.v ti26.z.cells.toList, 26⟩, some ⟨[.v (.slice none 0 0), .v (.slice p.sa s.stock.length p.sc), .v (.int .i64 s.kerf), .v (.slice (some ⟨b5, 0, none⟩) (s.wants ++ [x]).length cap5)], 26⟩])
 rotate_left
 ·intro rest
  cases hs : servedW s with
  | false =>
   refine W.asLit 49 (p := false) rfl rfl ?_
   refine W.go 99 rfl ?_
   exact rest _ _ _ ⟨hl23, by rw [hs]; rfl, by exact ⟨rfl, rfl, rfl, rfl, rfl, rfl, trivial⟩, by exact ⟨rfl, rfl, rfl, rfl, trivial⟩⟩
  | true =>
   refine W.asLit 49 (p := true) rfl rfl ?_
   refine W.go 99 rfl ?_
   refine W.eff rfl rfl rfl (Ef.call rfl (served_sp (wantK s x) ⟨p.la, p.sa, some ⟨b5, 0, none⟩, p.lc, p.sc, cap5⟩ L3 (hsx.le hl23) hokx)) ?_
   rintro _ _ _ ⟨_, rfl, rfl, rfl, hl34⟩
   rename_i L4
   cases hsw : servedW (wantK s x) with
   | false =>
    rw [if_pos (by rw [hs, hsw]; rfl)] at r
    refine W.go 99 rfl ?_
    refine W.split rfl rfl rfl (fun c => ?_) (fun c => absurd c (by decide))
    refine W.go 99 rfl ?_
    refine W.ret r rfl rfl ?_
    exact ⟨⟨none, none, none, 0, 0, 0⟩, rfl, sw0_at _, hle.trans (hL12.trans (hl23.trans hl34))⟩
   | true =>
    refine W.go 99 rfl ?_
    refine W.split rfl rfl rfl (fun c => absurd c (by decide)) (fun c => ?_)
    refine W.go 99 rfl ?_
    exact rest _ _ _ ⟨hl23.trans hl34, by rw [hs, hsw]; rfl, by exact ⟨rfl, rfl, rfl, rfl, rfl, rfl, trivial⟩, by exact ⟨rfl, rfl, rfl, rfl, trivial⟩⟩
 rintro E B L4 ⟨hl24, hcond, hE, hB⟩
 rw [if_neg (by rw [hcond]; decide)] at r
 refine W.weak hE hB ?_
 have hs4 := hs2.le hl24
 refine W.loop (fun m E B L' => ∃ (k : Nat) (v : Value), m = s.loaves.length - k ∧ k ≤ s.loaves.length ∧ GrowL L4 23 1 encI L' v (s.loaves.take k) ∧
   E = [(2, .p 0 0), (4, .p 2 0), (9, .p 3 0), (57, .v (.slice p.la s.loaves.length p.lc)), (58, .v (.int .i64 (s.loaves.length : Nat))), (59, .v (.int .i64 k))] ∧ B = [some ⟨cellsS (.v (swA s p)), 26⟩, some ⟨cellsS (.v (.agg (encWt x).toArray)), 28⟩, some ⟨List.map SV.v ti26.z.cells.toList, 26⟩, some ⟨[.v v, .v (.slice p.sa s.stock.length p.sc), .v (.int .i64 s.kerf), .v (.slice (some ⟨b5, 0, none⟩) (s.wants ++ [x]).length cap5)], 26⟩])
  ⟨0, _, rfl, by omega, GrowL.nil (Le.refl _), rfl, rfl⟩ (by exact ⟨rfl, rfl, rfl, rfl, rfl, rfl, trivial⟩) (by exact ⟨rfl, rfl, rfl, rfl, trivial⟩) ?_
 rintro _ _ _ L5 ⟨k, v, rfl, hk, hgr, rfl, rfl⟩ again
 refine W.go 99 rfl ?_
 refine W.split rfl rfl rfl (fun e4 => W.go 99 rfl ?_) (fun e4 => W.go 99 rfl ?_)
 ·have hkl : k < s.loaves.length := by simpa using e4
  obtain ⟨oa, a, c', hla, hcell, hsl', hcp⟩ := has_loaf hs4 hkl
  have hlfk := hok.lf _ (List.getElem_mem hkl)
  have htk : s.loaves.take (k + 1) = s.loaves.take k ++ [s.loaves[k]] := List.take_succ_eq_append_getElem hkl
  generalize s.loaves[k] = lf at *
  have hl4 := hlfk.l4
  have hl45 := hgr.hle
  obtain ⟨J, rs, hLJ, hrs, hgo, hrk⟩ := hgr
  have hrl : rs.length ≤ 3 := by
   have h1 := congrArg List.length hrs
   rw [List.length_map, List.length_take] at h1
   omega
  obtain ⟨va, vc, rfl, _⟩ := hgo.slice
  obtain ⟨qa, qb, qc, qd, qe, qf⟩ := p
  obtain rfl : qa = some oa := hla
  have hcl := (CloneG_sp (X := C.X) a c' lf J (hsl'.le hLJ) (by omega)).frame hgo.1
  refine W.vf rfl rfl rfl rfl (Vf.idx1 rfl rfl rfl rfl rfl rfl rfl (hkl)) ?_
  refine W.go 99 rfl ?_
  refine W.vf rfl rfl rfl rfl (Vf.load rfl rfl rfl (hl45.cell hcell)) ?_
  refine W.go 99 rfl ?_
  refine W.drawn (by kernel_rfl) J hgo.1 ?_
  refine DD.run' [0, 1, 2] rfl ?_
  refine DD.act 3 rfl rfl rfl rfl rfl (Ef.call rfl (hcl)) ((by rintro _ _ _ ⟨_, rfl, rfl, J', hg, hpo⟩; exact ⟨hg.1.trans hpo.le, rfl, .inl rfl⟩)) ?_
  rintro _ _ _ ⟨v6, rfl, rfl, J', hg, hpo⟩
  rename_i L6
  have hgJ := hgo.call hpo
  obtain ⟨ua, uc, rfl, huc⟩ := hg.slice
  refine DD.run' [4] rfl ?_
  refine DD.act 5 rfl rfl rfl rfl rfl (Ef.grow rfl rfl rfl rfl rfl rfl rfl rfl rfl encRw_len encRw_sg hgJ (ls := [((ua, lf.length, uc), lf)]) (.own rfl rfl rfl rfl) (by simp; omega)) ((by rintro _ _ _ ⟨_, rfl, rfl, hg', _⟩; exact ⟨hg.1.trans hg'.1, rfl, .inl rfl⟩)) ?_
  rintro _ _ _ ⟨v7, rfl, rfl, hg7, _⟩
  obtain ⟨va7, vc7, rfl, _⟩ := hg7.slice
  refine DD.run' [6] rfl ?_
  refine DD.act 7 rfl rfl rfl rfl rfl (Ef.sto rfl) (by rintro _ _ _ ⟨rfl, rfl, rfl⟩; exact ⟨hg.1.trans hg7.1, rfl, .inr rfl⟩) ?_
  rintro _ _ _ ⟨rfl, rfl, rfl⟩
  refine .fin rfl ?_
  refine W.go 99 rfl ?_
  refine W.again (again _ _ _ _ (by omega) ⟨k + 1, _, rfl, by omega, ⟨J', rs ++ [((ua, lf.length, uc), lf)], hLJ.trans hg.1, ?_, hg7, ?_⟩, rfl, rfl⟩) (by exact ⟨rfl, rfl, rfl, rfl, rfl, congrArg some (inc64 (by omega)), trivial⟩) (by exact ⟨rfl, rfl, rfl, rfl, trivial⟩)
  ·rw [List.map_append, hrs, htk]; rfl
  ·intro z hz
   rcases List.mem_append.1 hz with hz | hz
   ·exact (hrk z hz).le hg.1
   ·rw [List.mem_singleton.1 hz]; exact ⟨(hg.at encI_len).2, rfl, huc⟩
 ·have hke : k = s.loaves.length := by simp at e4; omega
  subst hke
  rw [List.take_length] at hgr
  have hl45 := hgr.hle
  obtain ⟨va, vc, rfl⟩ := hgr.slice
  refine W.eff rfl rfl rfl (Ef.call rfl (CloneG_sp p.sa p.sc s.stock L5 (hs4.st.le hl45) (by omega))) ?_
  rintro _ _ _ ⟨v8, rfl, rfl, hg8⟩
  rename_i L8 _
  obtain ⟨ua, uc, rfl, _⟩ := hg8.slice
  refine W.go 99 rfl ?_
  refine W.ret r rfl rfl ?_
  refine ⟨⟨va, ua, some ⟨b5, 0, none⟩, vc, uc, cap5⟩, rfl, ⟨(hgr.at.2).le hg8.1, (hg8.at encI_len).2, hwx.le (hl24.trans (hl45.trans hg8.1)), hcp5⟩, hle.trans (hL12.trans (hl24.trans (hl45.trans hg8.1)))⟩
end Go.Mz


set_option maxRecDepth 100000
namespace Go.Mz
open Go.Conc Go.Proofs
variable {Post : Value → World → Prop} {W0 : World}
theorem wantK_saw {s : Sw} {x : Want} (he : sawE s = 0) (h5 : s.wants.length ≠ 5) (hx : wantE s.loaves x = 0) : sawE (wantK s x) = 0 := sawE_of (wantK_ok (sawE_0 he) h5 hx) (fun y hy => sawE_lo he y hy) (fun y hy => sawE_s4 he y hy)
theorem AdF_run (na : Option Addr) (nc : Nat) (nums : List Int) (L : LH) (hn : IntsAt L na nums) (hgl : GlOk L) (hl2 : nums.length ≤ 140737488355328)
  (hQ : ∀ v L' w, (v = .bool true ∧ Dim L L') → Sub L' w → Same W0 w → Post v w) :
  FGo Tryz.prog Post W0 (G (Frame.enter Tryz.prog 15 [.slice na nums.length nc].toArray .normal) []) L := by
 refine root_enter (n := 92) (s := 2) Tryz.func15 rfl rfl (by kernel_rfl) rfl rfl hQ fun C hX _ hL0 r => ?_
 have drd : ∀ L2, GlOk L2 → Sp C.X 21 [] L2 (fun v L' => v = .bool true ∧ Dim L2 L') := fun L2 h => by rw [hX]; exact cut_sp L2 h
 refine W.go 99 rfl ?_
 refine W.eff rfl rfl rfl (Ef.call rfl (NewHat_sp na nc nums L hn)) ?_
 rintro _ _ _ ⟨_, rfl, rfl, b, rfl, hb, hle1, hh1⟩
 refine W.go 99 rfl ?_
 rename_i L1
 have hb1 := le_but hb hle1
 refine W.eff rfl rfl rfl (Ef.call rfl (SawOf_sp b na nc nums 0 3 4 L1 hh1 (by omega) hl2 (by omega) (by omega) (by omega))) ?_
 rintro _ _ _ ⟨_, rfl, rfl, s, p, m, rfl, ho, hm, hle2, hh2, hsw⟩
 refine W.go 99 rfl ?_
 rename_i L2
 have hok := sawE_0 ho.e
 have h5 : s.wants.length ≠ 5 := by have := ho.w; omega
 refine W.eff rfl rfl rfl (Ef.call rfl (WantOf_sp s p b na nc nums m L2 hh2 (by omega) hl2 hsw.lo hok.l1 hok.l3 hok.lf)) ?_
 rintro _ _ _ ⟨_, rfl, rfl, ⟨x, rfl, hwx⟩, hl23, m3, hm3, hh3⟩
 rename_i L3
 have hsw3 := hsw.le hl23
 have hL3 : Le L L3 := hb1.trans ((but_but hle2).trans hl23)
 have hokx := wantK_ok hok h5 hwx
 have hexs := wantK_saw ho.e h5 hwx
 clear hh3 hh2 hh1
 refine W.go 99 rfl ?_
 refine W.eff rfl rfl rfl (Ef.call rfl (With_sp s p x L3 hsw3 (by have := hok.w5; omega))) ?_
 rintro _ _ _ ⟨_, rfl, rfl, px, rfl, hl34, hsx⟩
 rename_i L4
 have hL4 := hL3.trans hl34
 refine W.go 99 rfl ?_
 refine W.eff rfl rfl rfl (Ef.call rfl (Fewest_sp s p L4 (hsw3.le hl34) hok.sm)) ?_
 rintro _ _ _ ⟨v5, rfl, rfl, a5, c5, rfl, hi5, hl45⟩
 refine W.go 99 rfl ?_
 rename_i L5
 refine W.eff rfl rfl rfl (Ef.call rfl (Fewest_sp (wantK s x) px L5 (hsx.le hl45) hokx.sm)) ?_
 rintro _ _ _ ⟨v6, rfl, rfl, a6, c6, rfl, hi6, hl56⟩
 refine W.go 99 rfl ?_
 rename_i L6
 have hAW : AddW s x = if servedW s && !servedW (wantK s x) then (sw0, 9) else (wantK s x, 0) := by unfold AddW; rw [if_neg (by simp [ho.e]), if_neg h5, if_neg (by simp [hwx])]
 have hf1 := fewest_err ho.e
 have hf2 := fewest_err hexs
 have has := add_served (s := s) (x := x) hok hokx
 have hlu := hl45.trans hl56
 have had := Add_sp (X := C.X) s p x L6 (hsw3.le (hl34.trans hlu)) hok.sm
 rw [hAW] at had
 clear hi5 hi6
 generalize FewestE s = e1 at *
 obtain ⟨e11, e12, e13⟩ := e1
 generalize FewestE (wantK s x) = e2 at *
 obtain ⟨e21, e22, e23⟩ := e2
 dsimp only at hf1 hf2 ⊢
 cases ha : servedW s with
 | false =>
  have hb : servedW (wantK s x) = false := by cases h : servedW (wantK s x) with
   | false => rfl
   | true => rw [has h] at ha; cases ha
  rw [ha] at hf1 had
  rw [hb] at hf2
  rw [if_neg (by simp)] at had
  obtain rfl : e13 = 11 := hf1
  obtain rfl : e23 = 11 := hf2
  refine W.eff rfl rfl rfl (Ef.call rfl (had)) ?_
  rintro _ _ _ ⟨v7, rfl, rfl, p7, rfl, hs7, hl67⟩
  rename_i L7
  have hL7 := hL4.trans (hlu.trans hl67)
  refine W.go 99 rfl ?_
  refine W.asLit 45 (p := true) rfl rfl ?_
  refine W.go 99 rfl ?_
  refine W.asLit 49 (p := false) rfl rfl ?_
  refine W.go 99 rfl ?_
  refine W.asLit 52 (p := true) rfl rfl ?_
  refine W.go 99 rfl ?_
  refine W.asLit 57 (p := false) rfl rfl ?_
  refine W.go 99 rfl ?_
  refine W.asLit 60 (p := false) rfl rfl ?_
  refine W.go 99 rfl ?_
  refine W.asLit 67 (p := false) rfl rfl ?_
  refine W.go 99 rfl ?_
  refine W.asLit 84 (p := true) rfl rfl ?_
  refine W.go 99 rfl ?_
  refine W.eff rfl rfl rfl (Ef.call rfl (EqSaws_sp (wantK s x) p7 px L7 hs7 (hsx.le (hlu.trans hl67)) hokx.sm)) ?_
  rintro _ _ _ ⟨_, rfl, rfl, rfl, rfl⟩
  refine W.go 99 rfl ?_
  refine W.asLit 89 (p := true) rfl rfl ?_
  refine W.go 99 rfl ?_
  refine W.eff rfl rfl rfl (Ef.call rfl (drd L7 (hgl.le hL7))) ?_
  rintro _ _ _ ⟨_, rfl, rfl, rfl, hdm⟩
  refine W.go 99 rfl ?_
  exact W.retO r rfl ⟨rfl, (Dim.of_le hL7).trans hdm⟩
 | true =>
  rw [ha] at hf1 had
  obtain rfl : e13 = 0 := hf1
  cases hb : servedW (wantK s x) with
  | true =>
   rw [hb] at hf2 had
   rw [if_neg (by decide)] at had
   obtain rfl : e23 = 0 := hf2
   refine W.eff rfl rfl rfl (Ef.call rfl (had)) ?_
   rintro _ _ _ ⟨v7, rfl, rfl, p7, rfl, hs7, hl67⟩
   rename_i L7
   have hL7 := hL4.trans (hlu.trans hl67)
   refine W.go 99 rfl ?_
   refine W.asLit 45 (p := false) rfl rfl ?_
   refine W.go 99 rfl ?_
   refine W.asLit 49 (p := false) rfl rfl ?_
   refine W.go 99 rfl ?_
   refine W.asLit 52 (p := false) rfl rfl ?_
   refine W.go 99 rfl ?_
   refine W.asLit 57 (p := false) rfl rfl ?_
   refine W.go 99 rfl ?_
   refine W.asLit 60 (p := true) rfl rfl ?_
   refine W.go 99 rfl ?_
   refine W.split rfl rfl rfl (fun c => absurd c (by decide)) (fun c => ?_)
   refine W.go 99 rfl ?_
   refine W.asLit 67 (p := true) rfl rfl ?_
   refine W.go 99 rfl ?_
   refine W.split rfl rfl rfl (fun c => absurd c (by decide)) (fun c => ?_)
   refine W.go 99 rfl ?_
   refine W.asLit 84 (p := true) rfl rfl ?_
   refine W.go 99 rfl ?_
   refine W.eff rfl rfl rfl (Ef.call rfl (EqSaws_sp (wantK s x) p7 px L7 hs7 (hsx.le (hlu.trans hl67)) hokx.sm)) ?_
   rintro _ _ _ ⟨_, rfl, rfl, rfl, rfl⟩
   refine W.go 99 rfl ?_
   refine W.asLit 89 (p := true) rfl rfl ?_
   refine W.go 99 rfl ?_
   refine W.eff rfl rfl rfl (Ef.call rfl (drd L7 (hgl.le hL7))) ?_
   rintro _ _ _ ⟨_, rfl, rfl, rfl, hdm⟩
   refine W.go 99 rfl ?_
   exact W.retO r rfl ⟨rfl, (Dim.of_le hL7).trans hdm⟩
  | false =>
   rw [hb] at hf2 had
   rw [if_pos (by rfl)] at had
   obtain rfl : e23 = 11 := hf2
   refine W.eff rfl rfl rfl (Ef.call rfl (had)) ?_
   rintro _ _ _ ⟨v7, rfl, rfl, p7, rfl, hs7, hl67⟩
   rename_i L7
   have hL7 := hL4.trans (hlu.trans hl67)
   refine W.go 99 rfl ?_
   refine W.asLit 45 (p := false) rfl rfl ?_
   refine W.go 99 rfl ?_
   refine W.asLit 49 (p := false) rfl rfl ?_
   refine W.go 99 rfl ?_
   refine W.asLit 52 (p := true) rfl rfl ?_
   refine W.go 99 rfl ?_
   refine W.asLit 57 (p := false) rfl rfl ?_
   refine W.go 99 rfl ?_
   refine W.asLit 60 (p := false) rfl rfl ?_
   refine W.go 99 rfl ?_
   refine W.asLit 67 (p := true) rfl rfl ?_
   refine W.go 99 rfl ?_
   refine W.split rfl rfl rfl (fun c => ?_) (fun c => absurd c (by decide))
   refine W.go 99 rfl ?_
   refine W.asLit 73 (p := true) rfl rfl ?_
   refine W.go 99 rfl ?_
   refine W.asLit 79 (p := true) rfl rfl ?_
   refine W.go 99 rfl ?_
   refine W.eff rfl rfl rfl (Ef.call rfl (drd L7 (hgl.le hL7))) ?_
   rintro _ _ _ ⟨_, rfl, rfl, rfl, hdm⟩
   refine W.go 99 rfl ?_
   exact W.retO r rfl ⟨rfl, (Dim.of_le hL7).trans hdm⟩
end Go.Mz

