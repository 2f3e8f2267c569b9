/- Lemmas on which the claim leans. -/
import Derived.Test.YtfnjganjlkoehaaGreatDoorMzLb
set_option maxRecDepth 100000
namespace Go.Mz
open Go.Conc Go.Proofs
variable {X : Logic Tryz.prog}
theorem wantK_at {L : LH} {s : Sw} {p : Wp} {x : Want} {wa : Option Addr} {wc : Nat} (h : SwAt L s p) (hw : SlAt L wa 4 encWt (s.wants ++ [x])) (hc : (s.wants ++ [x]).length ≤ wc) : SwAt L (wantK s x) ⟨p.la, p.sa, wa, p.lc, p.sc, wc⟩ := ⟨h.lo, h.st, hw, hc⟩
theorem wantK_ok {s : Sw} {x : Want} (h : SOk s) (h5 : s.wants.length ≠ 5) (hx : wantE s.loaves x = 0) : SOk (wantK s x) :=
 ⟨h.l1, h.l3, h.lf, h.st, h.sr, h.k0, h.k3, (by show (s.wants ++ [x]).length ≤ 5; have := h.w5; simp; omega), fun y hy => by
  rcases List.mem_append.1 hy with hy | hy
  ·exact h.wt y hy
  ·rw [List.mem_singleton.1 hy]; exact wantE_0 hx⟩
def SwQ (x : Sw × Int) (L : LH) (v : Value) (L' : LH) : Prop := ∃ p, v = .tuple #[swA x.1 p, .int .i64 x.2] ∧ SwAt L' x.1 p ∧ Le L L'
theorem sw0_at (L : LH) : SwAt L sw0 ⟨none, none, none, 0, 0, 0⟩ := ⟨⟨[], rfl, SlAt.empty, fun x hx => by cases hx⟩, SlAt.empty, SlAt.empty, Nat.le_refl _⟩
theorem With_sp (s : Sw) (p : Wp) (x : Want) (L : LH) (h : SwAt L s p) (hn : s.wants.length ≤ 1000) : Sp X 57 [swA s p, .agg (encWt x).toArray] L (fun v L' => ∃ p', v = swA (wantK s x) p' ∧ Le L L' ∧ SwAt L' (wantK s x) p') := by
 refine Sp.enter (n := 14) Tryz.func57 rfl rfl rfl rfl fun C hX _ hL0 r => ?_
 refine W.go 99 rfl ?_
 refine W.drawn (by kernel_rfl) L (Le.refl _) ?_
 refine DD.run' [0, 1, 2, 4, 5] rfl ?_
 refine DD.act 3 rfl rfl rfl rfl rfl (Ef.pub 5 (.inr ⟨_, _, _, rfl⟩) rfl rfl (fun b5 hb5 _ => Ef.grow rfl rfl rfl rfl rfl rfl rfl rfl rfl encWt_len encWt_sg (Grow.new (Le.put hb5 _) (put_same _ _ _) hb5) (ls := s.wants) (.sl (h.wt.le (Le.put hb5 _)) encWt_len rfl) (by simp; omega))) (by rintro _ _ _ ⟨b5, hb5, _, _, rfl, rfl, hg, _⟩; exact ⟨hg.1, rfl, .inl rfl⟩) ?_
 rintro _ _ _ ⟨b5, hb5, _, v3, rfl, rfl, hg3, _⟩
 rw [List.nil_append] at hg3
 obtain ⟨wa, wc, rfl, _⟩ := hg3.slice
 refine DD.act 6 rfl rfl rfl rfl rfl (Ef.grow rfl rfl rfl rfl rfl rfl rfl rfl rfl encWt_len encWt_sg hg3 (ls := [x]) (.own rfl rfl rfl rfl) (by simp; omega)) ((by rintro _ _ _ ⟨_, rfl, rfl, hg, _⟩; exact ⟨hg.1, rfl, .inl rfl⟩)) ?_
 rintro _ _ _ ⟨v4, rfl, rfl, hg4, _⟩
 obtain ⟨wa, wc, rfl, hwc⟩ := hg4.slice
 refine DD.run' [7] rfl ?_
 refine DD.act 8 rfl rfl rfl rfl rfl (Ef.sto rfl) (by rintro _ _ _ ⟨rfl, rfl, rfl⟩; exact ⟨hg4.1, rfl, .inr rfl⟩) ?_
 rintro _ _ _ ⟨rfl, rfl, rfl⟩
 refine .fin rfl ?_
 refine W.go 99 rfl ?_
 refine W.ret r rfl rfl ?_
 exact ⟨⟨p.la, p.sa, wa, p.lc, p.sc, wc⟩, rfl, hg4.1, wantK_at (h.le hg4.1) (hg4.at encWt_len).2 hwc⟩
theorem Add_sp (s : Sw) (p : Wp) (x : Want) (L : LH) (h : SwAt L s p) (hn : Sm s) : Sp X 58 [swA s p, .agg (encWt x).toArray] L (SwQ (AddW s x) L) := by
 refine Sp.enter (n := 76) Tryz.func58 rfl rfl rfl rfl fun C hX _ hL0 r => ?_
 refine W.go 99 rfl ?_
 refine W.eff rfl rfl rfl (Ef.call rfl (open_sp s p none none 0 0 [] [] L h hn SlAt.empty SlAt.empty (by simp) (by simp))) ?_
 rintro _ _ _ ⟨v0, rfl, rfl, hle, hq⟩
 refine W.go 99 rfl ?_
 rename_i L1
 rw [openW_nil] at hq
 rcases hq with ⟨he, rfl⟩ | ⟨he, rfl⟩
 ·have hCE : AddW s x = (sw0, sawE s) := by unfold AddW; rw [if_pos he]
  rw [hCE] at r
  refine W.go 99 rfl ?_
  refine W.split rfl rfl rfl (fun e1 => W.go 99 rfl ?_) (fun e1 => W.go 99 rfl ?_)
  ·refine W.ret r rfl rfl ?_
   exact ⟨⟨none, none, none, 0, 0, 0⟩, rfl, sw0_at _, hle⟩
  ·simp at e1; exact absurd e1 he
 have hok := sawE_0 he
 have hl3 := hok.l3
 have hst3 := hok.st
 have hw5 := hok.w5
 have hAW : AddW s x = if s.wants.length = 5 then (sw0, 6) else if wantE s.loaves x ≠ 0 then (sw0, wantE s.loaves x) else if servedW s && !servedW (wantK s x) then (sw0, 9) else (wantK s x, 0) := by unfold AddW; rw [if_neg (by simp [he])]
 rw [hAW] at r
 refine W.go 99 rfl ?_
 refine W.split rfl rfl rfl (fun e1 => ?_) (fun e1 => ?_)
 ·simp at e1
 refine W.weak (E' := [(2, .p 0 0), (3, .p 1 0), (4, .p 2 0), (18, .lit false)]) (B' := [some ⟨cellsS (.v (swA s p)), 26⟩, some ⟨cellsS (.v (.agg (encWt x).toArray)), 28⟩, some ⟨List.map SV.v ti26.z.cells.toList, 26⟩]) (by exact ⟨rfl, rfl, rfl, rfl, trivial⟩) (by exact ⟨rfl, rfl, rfl, trivial⟩) ?_
 refine W.go 99 rfl ?_
 refine W.split rfl rfl rfl (fun e2 => W.go 99 rfl ?_) (fun e2 => W.go 99 rfl ?_)
 ·have h5 : s.wants.length = 5 := by have : ((s.wants.length : Nat) : Int) = 5 := (by simpa using e2); omega
  rw [if_pos h5] at r
  refine W.ret r rfl rfl ?_
  exact ⟨⟨none, none, none, 0, 0, 0⟩, rfl, sw0_at _, hle⟩
 have h5 : s.wants.length ≠ 5 := by have : ¬ ((s.wants.length : Nat) : Int) = 5 := (by simpa using e2); omega
 rw [if_neg h5] at r
 refine W.eff rfl rfl rfl (Ef.call rfl (checkWant_sp s p x L1 (h.le hle) hn)) ?_
 rintro _ _ _ ⟨_, rfl, rfl, rfl, rfl⟩
 refine W.go 99 rfl ?_
 refine W.split rfl rfl rfl (fun e3 => W.go 99 rfl ?_) (fun e3 => W.go 99 rfl ?_)
 ·have h6 : wantE s.loaves x ≠ 0 := by simpa using e3
  rw [if_pos h6] at r
  refine W.ret r rfl rfl ?_
  exact ⟨⟨none, none, none, 0, 0, 0⟩, rfl, sw0_at _, hle⟩
 have h6 : wantE s.loaves x = 0 := by simpa using e3
 rw [if_neg (by simp [h6])] at r
 have hokx := wantK_ok hok h5 h6
 have hs1 := h.le hle
 have hcap := h.cap
 refine W.drawn (by kernel_rfl) L1 (Le.refl _) ?_
 refine DD.run' [0, 1, 2, 3, 4, 5, 6, 7, 9, 10] rfl ?_
 refine DD.vf 8 rfl rfl rfl rfl rfl (Vf.slice3 rfl rfl rfl Tryz.underlying24 size28 (Nat.le_refl _) hcap) ?_
 refine DD.act 11 rfl rfl rfl rfl rfl (Ef.appF rfl rfl rfl rfl rfl rfl rfl rfl rfl encWt_len hs1.wt (ls := [x]) (.own rfl rfl rfl rfl) (by simp) (by simp; omega)) ((by rintro _ _ _ ⟨_, _, _, rfl, rfl, hn, rfl, _⟩; exact ⟨Le.put hn _, rfl, .inl rfl⟩)) ?_
 rintro _ _ _ ⟨b5, c5, cap5, rfl, rfl, hb5, rfl, hown5⟩
 refine DD.run' [12] rfl ?_
 refine DD.act 13 rfl rfl rfl rfl rfl (Ef.sto rfl) (by rintro _ _ _ ⟨rfl, rfl, rfl⟩; exact ⟨Le.put hb5 _, rfl, .inr rfl⟩) ?_
 rintro _ _ _ ⟨rfl, rfl, rfl⟩
 refine .fin rfl ?_
 refine W.go 99 rfl ?_
 have hL12 : Le L1 (L1.put b5 (Obj.cells c5 28)) := Le.put hb5 _
 generalize L1.put b5 (Obj.cells c5 28) = L2 at hL12 hown5 ⊢
 have hwx := hown5.at encWt_len
 obtain ⟨_, _, hce, hcp5⟩ := hown5.slice
 cases hce
 have hs2 := hs1.le hL12
 have hsx : SwAt L2 (wantK s x) ⟨p.la, p.sa, some ⟨b5, 0, none⟩, p.lc, p.sc, cap5⟩ := wantK_at hs2 hwx hcp5
 refine W.eff rfl rfl rfl (Ef.call rfl (served_sp s p L2 hs2 hok)) ?_
 rintro _ _ _ ⟨_, rfl, rfl, rfl, hl23⟩
 refine W.go 99 rfl ?_
 rename_i L3
 apply W.cut (fun E B L' => Le L2 L' ∧ (servedW s && !servedW (wantK s x)) = false ∧ SubE E [(2, .p 0 0), (4, .p 2 0), (9, .p 3 0), (57, .v (.slice p.la s.loaves.length p.lc)), (58, .v (.int .i64 (s.loaves.length : Nat))), (59, .v (.int .i64 0))] ∧ PreB B [some ⟨cellsS (.v (swA s p)), 26⟩, some ⟨cellsS (.v (.agg (encWt x).toArray)), 28⟩, some ⟨List.map SV.v ti26.z.cells.toList, 26⟩, some ⟨[.v (.slice none 0 0), .v (.slice p.sa s.stock.length p.sc), .v (.int .i64 s.kerf), .v (.slice (some ⟨b5, 0, none⟩) (s.wants ++ [x]).length cap5)], 26⟩])
 rotate_left
 ·intro rest
  cases hs : servedW s with
  | false =>
   refine W.asLit 49 (p := false) rfl rfl ?_
   refine W.go 99 rfl ?_
   exact rest _ _ _ ⟨hl23, by rw [hs]; rfl, by exact ⟨rfl, rfl, rfl, rfl, rfl, rfl, trivial⟩, by exact ⟨rfl, rfl, rfl, rfl, trivial⟩⟩
  | true =>
   refine W.asLit 49 (p := true) rfl rfl ?_
   refine W.go 99 rfl ?_
   refine W.eff rfl rfl rfl (Ef.call rfl (served_sp (wantK s x) ⟨p.la, p.sa, some ⟨b5, 0, none⟩, p.lc, p.sc, cap5⟩ L3 (hsx.le hl23) hokx)) ?_
   rintro _ _ _ ⟨_, rfl, rfl, rfl, hl34⟩
   rename_i L4
   cases hsw : servedW (wantK s x) with
   | false =>
    rw [if_pos (by rw [hs, hsw]; rfl)] at r
    refine W.go 99 rfl ?_
    refine W.split rfl rfl rfl (fun c => ?_) (fun c => absurd c (by decide))
    refine W.go 99 rfl ?_
    refine W.ret r rfl rfl ?_
    exact ⟨⟨none, none, none, 0, 0, 0⟩, rfl, sw0_at _, hle.trans (hL12.trans (hl23.trans hl34))⟩
   | true =>
    refine W.go 99 rfl ?_
    refine W.split rfl rfl rfl (fun c => absurd c (by decide)) (fun c => ?_)
    refine W.go 99 rfl ?_
    exact rest _ _ _ ⟨hl23.trans hl34, by rw [hs, hsw]; rfl, by exact ⟨rfl, rfl, rfl, rfl, rfl, rfl, trivial⟩, by exact ⟨rfl, rfl, rfl, rfl, trivial⟩⟩
 rintro E B L4 ⟨hl24, hcond, hE, hB⟩
 rw [if_neg (by rw [hcond]; decide)] at r
 refine W.weak hE hB ?_
 have hs4 := hs2.le hl24
 refine W.loop (fun m E B L' => ∃ (k : Nat) (v : Value), m = s.loaves.length - k ∧ k ≤ s.loaves.length ∧ GrowL L4 23 1 encI L' v (s.loaves.take k) ∧
   E = [(2, .p 0 0), (4, .p 2 0), (9, .p 3 0), (57, .v (.slice p.la s.loaves.length p.lc)), (58, .v (.int .i64 (s.loaves.length : Nat))), (59, .v (.int .i64 k))] ∧ B = [some ⟨cellsS (.v (swA s p)), 26⟩, some ⟨cellsS (.v (.agg (encWt x).toArray)), 28⟩, some ⟨List.map SV.v ti26.z.cells.toList, 26⟩, some ⟨[.v v, .v (.slice p.sa s.stock.length p.sc), .v (.int .i64 s.kerf), .v (.slice (some ⟨b5, 0, none⟩) (s.wants ++ [x]).length cap5)], 26⟩])
  ⟨0, _, rfl, by omega, GrowL.nil (Le.refl _), rfl, rfl⟩ (by exact ⟨rfl, rfl, rfl, rfl, rfl, rfl, trivial⟩) (by exact ⟨rfl, rfl, rfl, rfl, trivial⟩) ?_
 rintro _ _ _ L5 ⟨k, v, rfl, hk, hgr, rfl, rfl⟩ again
 refine W.go 99 rfl ?_
 refine W.split rfl rfl rfl (fun e4 => W.go 99 rfl ?_) (fun e4 => W.go 99 rfl ?_)
 ·have hkl : k < s.loaves.length := by simpa using e4
  obtain ⟨oa, a, c', hla, hcell, hsl', hcp⟩ := has_loaf hs4 hkl
  have hlfk := hok.lf _ (List.getElem_mem hkl)
  have htk : s.loaves.take (k + 1) = s.loaves.take k ++ [s.loaves[k]] := List.take_succ_eq_append_getElem hkl
  generalize s.loaves[k] = lf at *
  have hl4 := hlfk.l4
  have hl45 := hgr.hle
  obtain ⟨J, rs, hLJ, hrs, hgo, hrk⟩ := hgr
  have hrl : rs.length ≤ 3 := by
   have h1 := congrArg List.length hrs
   rw [List.length_map, List.length_take] at h1
   omega
  obtain ⟨va, vc, rfl, _⟩ := hgo.slice
  obtain ⟨qa, qb, qc, qd, qe, qf⟩ := p
  obtain rfl : qa = some oa := hla
  have hcl := (CloneG_sp (X := C.X) a c' lf J (hsl'.le hLJ) (by omega)).frame hgo.1
  refine W.vf rfl rfl rfl rfl (Vf.idx1 rfl rfl rfl rfl rfl rfl rfl (hkl)) ?_
  refine W.go 99 rfl ?_
  refine W.vf rfl rfl rfl rfl (Vf.load rfl rfl rfl (hl45.cell hcell)) ?_
  refine W.go 99 rfl ?_
  refine W.drawn (by kernel_rfl) J hgo.1 ?_
  refine DD.run' [0, 1, 2] rfl ?_
  refine DD.act 3 rfl rfl rfl rfl rfl (Ef.call rfl (hcl)) ((by rintro _ _ _ ⟨_, rfl, rfl, J', hg, hpo⟩; exact ⟨hg.1.trans hpo.le, rfl, .inl rfl⟩)) ?_
  rintro _ _ _ ⟨v6, rfl, rfl, J', hg, hpo⟩
  rename_i L6
  have hgJ := hgo.call hpo
  obtain ⟨ua, uc, rfl, huc⟩ := hg.slice
  refine DD.run' [4] rfl ?_
  refine DD.act 5 rfl rfl rfl rfl rfl (Ef.grow rfl rfl rfl rfl rfl rfl rfl rfl rfl encRw_len encRw_sg hgJ (ls := [((ua, lf.length, uc), lf)]) (.own rfl rfl rfl rfl) (by simp; omega)) ((by rintro _ _ _ ⟨_, rfl, rfl, hg', _⟩; exact ⟨hg.1.trans hg'.1, rfl, .inl rfl⟩)) ?_
  rintro _ _ _ ⟨v7, rfl, rfl, hg7, _⟩
  obtain ⟨va7, vc7, rfl, _⟩ := hg7.slice
  refine DD.run' [6] rfl ?_
  refine DD.act 7 rfl rfl rfl rfl rfl (Ef.sto rfl) (by rintro _ _ _ ⟨rfl, rfl, rfl⟩; exact ⟨hg.1.trans hg7.1, rfl, .inr rfl⟩) ?_
  rintro _ _ _ ⟨rfl, rfl, rfl⟩
  refine .fin rfl ?_
  refine W.go 99 rfl ?_
  refine W.again (again _ _ _ _ (by omega) ⟨k + 1, _, rfl, by omega, ⟨J', rs ++ [((ua, lf.length, uc), lf)], hLJ.trans hg.1, ?_, hg7, ?_⟩, rfl, rfl⟩) (by exact ⟨rfl, rfl, rfl, rfl, rfl, congrArg some (inc64 (by omega)), trivial⟩) (by exact ⟨rfl, rfl, rfl, rfl, trivial⟩)
  ·rw [List.map_append, hrs, htk]; rfl
  ·intro z hz
   rcases List.mem_append.1 hz with hz | hz
   ·exact (hrk z hz).le hg.1
   ·rw [List.mem_singleton.1 hz]; exact ⟨(hg.at encI_len).2, rfl, huc⟩
 ·have hke : k = s.loaves.length := by simp at e4; omega
  subst hke
  rw [List.take_length] at hgr
  have hl45 := hgr.hle
  obtain ⟨va, vc, rfl⟩ := hgr.slice
  refine W.eff rfl rfl rfl (Ef.call rfl (CloneG_sp p.sa p.sc s.stock L5 (hs4.st.le hl45) (by omega))) ?_
  rintro _ _ _ ⟨v8, rfl, rfl, hg8⟩
  rename_i L8 _
  obtain ⟨ua, uc, rfl, _⟩ := hg8.slice
  refine W.go 99 rfl ?_
  refine W.ret r rfl rfl ?_
  refine ⟨⟨va, ua, some ⟨b5, 0, none⟩, vc, uc, cap5⟩, rfl, ⟨(hgr.at.2).le hg8.1, (hg8.at encI_len).2, hwx.le (hl24.trans (hl45.trans hg8.1)), hcp5⟩, hle.trans (hL12.trans (hl24.trans (hl45.trans hg8.1)))⟩
end Go.Mz


set_option maxRecDepth 100000
namespace Go.Mz
open Go.Conc Go.Proofs
variable {X : Logic Tryz.prog}
theorem rAdd_sp (s : Sw) (p : Wp) (x : Want) (L : LH) (h : SwAt L s p) (hn : Sm s) : Sp X 68 [swA s p, .agg (encWt x).toArray] L (SwQ (AddW s x) L) := by
 refine Sp.enter (n := 39) Tryz.func68 rfl rfl rfl rfl fun C hX _ hL0 r => ?_
 refine W.go 99 rfl ?_
 refine W.eff rfl rfl rfl (Ef.call rfl (rCheck_sp s p L h hn)) ?_
 rintro _ _ _ ⟨_, rfl, rfl, rfl, rfl⟩
 refine W.go 99 rfl ?_
 refine W.split rfl rfl rfl (fun c1 => W.go 99 rfl ?_) (fun c1 => W.go 99 rfl ?_)
 ·have c1' : sawE s ≠ 0 := by simpa using c1
  have hCE : AddW s x = (sw0, sawE s) := by unfold AddW; rw [if_pos c1']
  rw [hCE] at r
  refine W.ret r rfl rfl ?_
  exact ⟨⟨none, none, none, 0, 0, 0⟩, rfl, sw0_at _, Le.refl _⟩
 have he : sawE s = 0 := by simpa using c1
 have hok := sawE_0 he
 have hw5 := hok.w5
 have hAW : AddW s x = if s.wants.length = 5 then (sw0, 6) else if wantE s.loaves x ≠ 0 then (sw0, wantE s.loaves x) else if servedW s && !servedW (wantK s x) then (sw0, 9) else (wantK s x, 0) := by unfold AddW; rw [if_neg (by simp [he])]
 rw [hAW] at r
 refine W.split rfl rfl rfl (fun e2 => W.go 99 rfl ?_) (fun e2 => W.go 99 rfl ?_)
 ·have h5 : s.wants.length = 5 := by have : ((s.wants.length : Nat) : Int) = 5 := (by simpa using e2); omega
  rw [if_pos h5] at r
  refine W.ret r rfl rfl ?_
  exact ⟨⟨none, none, none, 0, 0, 0⟩, rfl, sw0_at _, Le.refl _⟩
 have h5 : s.wants.length ≠ 5 := by have : ¬ ((s.wants.length : Nat) : Int) = 5 := (by simpa using e2); omega
 rw [if_neg h5] at r
 refine W.eff rfl rfl rfl (Ef.call rfl (rCheckWant_sp s p x L h hn)) ?_
 rintro _ _ _ ⟨_, rfl, rfl, rfl, rfl⟩
 refine W.go 99 rfl ?_
 refine W.split rfl rfl rfl (fun e3 => W.go 99 rfl ?_) (fun e3 => W.go 99 rfl ?_)
 ·have h6 : wantE s.loaves x ≠ 0 := by simpa using e3
  rw [if_pos h6] at r
  refine W.ret r rfl rfl ?_
  exact ⟨⟨none, none, none, 0, 0, 0⟩, rfl, sw0_at _, Le.refl _⟩
 have h6 : wantE s.loaves x = 0 := by simpa using e3
 rw [if_neg (by simp [h6])] at r
 have hokx := wantK_ok hok h5 h6
 refine W.eff rfl rfl rfl (Ef.call rfl (With_sp s p x L h (by omega))) ?_
 rintro _ _ _ ⟨_, rfl, rfl, p', rfl, hl12, hsx⟩
 rename_i L2
 have hs2 := h.le hl12
 refine W.go 99 rfl ?_
 refine W.eff rfl rfl rfl (Ef.call rfl (rAll_sp s p L2 hs2 hok)) ?_
 rintro _ _ _ ⟨_, rfl, rfl, rfl, hl23⟩
 refine W.go 99 rfl ?_
 rename_i L3
 cases hs : servedW s with
 | false =>
  rw [hs] at r
  refine W.asLit 32 (p := false) rfl rfl ?_
  refine W.go 99 rfl ?_
  refine W.ret r rfl rfl ?_
  exact ⟨p', rfl, hsx.le hl23, hl12.trans hl23⟩
 | true =>
  refine W.asLit 32 (p := true) rfl rfl ?_
  refine W.go 99 rfl ?_
  refine W.eff rfl rfl rfl (Ef.call rfl (rAll_sp (wantK s x) p' L3 (hsx.le hl23) hokx)) ?_
  rintro _ _ _ ⟨_, rfl, rfl, rfl, hl34⟩
  rename_i L4
  cases hsw : servedW (wantK s x) with
  | false =>
   rw [if_pos (by rw [hs, hsw]; rfl)] at r
   refine W.go 99 rfl ?_
   refine W.split rfl rfl rfl (fun c => ?_) (fun c => absurd c (by decide))
   refine W.go 99 rfl ?_
   refine W.ret r rfl rfl ?_
   exact ⟨⟨none, none, none, 0, 0, 0⟩, rfl, sw0_at _, hl12.trans (hl23.trans hl34)⟩
  | true =>
   rw [if_neg (by rw [hs, hsw]; decide)] at r
   refine W.go 99 rfl ?_
   refine W.split rfl rfl rfl (fun c => absurd c (by decide)) (fun c => ?_)
   refine W.go 99 rfl ?_
   refine W.ret r rfl rfl ?_
   exact ⟨p', rfl, hsx.le (hl23.trans hl34), hl12.trans (hl23.trans hl34)⟩
end Go.Mz


set_option maxRecDepth 100000
namespace Go.Mz
open Go.Conc Go.Proofs
variable {Post : Value → World → Prop} {W0 : World}
theorem AddW_sm {s : Sw} (h : Sm s) (x : Want) : Sm (AddW s x).1 := by
 have h0 : Sm sw0 := ⟨by decide, by decide, by decide, fun l hl => by cases hl⟩
 unfold AddW
 split
 ·exact h0
 ·rename_i h1
  have hok := sawE_0 (by simpa using h1)
  split
  ·exact h0
  ·split
   ·exact h0
   ·split
    ·exact h0
    ·exact ⟨h.hl, h.hs, (by show (s.wants ++ [x]).length ≤ 1000; have := hok.w5; simp; omega), h.hr⟩
theorem NsF_run (s : Sw) (p : Wp) (x : Want) (kn : Int) (na : Option Addr) (nc : Nat) (nums : List Int) (L : LH) (hst : SwAt L s p) (hn : IntsAt L na nums) (hgl : GlOk L) (hl2 : nums.length ≤ 140737488355328)
    (hQ : ∀ v L' w, (v = .bool true ∧ Dim L L') → Sub L' w → Same W0 w → Post v w) :
    FGo Tryz.prog Post W0 (G (Frame.enter Tryz.prog 18 [swA s p, .agg (encWt x).toArray, .int .i64 kn, .slice na nums.length nc].toArray .normal) []) L := by
  refine root_enter (n := 149) (s := 8) Tryz.func18 rfl rfl (by kernel_rfl) rfl rfl hQ fun C hX _ hL0 r => ?_
  refine W.go 99 rfl ?_
  refine W.eff rfl rfl rfl (Ef.call rfl (long_sp s p L hst)) ?_
  rintro _ _ _ ⟨_, rfl, rfl, rfl, rfl⟩
  refine W.go 99 rfl ?_
  have drd : ∀ L2, GlOk L2 → Sp C.X 21 [] L2 (fun v L' => v = .bool true ∧ Dim L2 L') := fun L2 h => by rw [hX]; exact cut_sp L2 h
  refine W.split rfl rfl rfl (fun e1 => W.go 99 rfl ?_) (fun e1 => W.go 99 rfl ?_)
  · refine W.eff rfl rfl rfl (Ef.call rfl (drd L hgl)) ?_
    rintro _ _ _ ⟨_, rfl, rfl, rfl, hdm⟩
    refine W.go 99 rfl ?_
    refine W.retO r rfl ⟨rfl, hdm⟩
  have hsm := long_no e1
  refine W.eff rfl rfl rfl (Ef.call rfl (NewHat_sp na nc nums L hn)) ?_
  rintro _ _ _ ⟨_, rfl, rfl, b, rfl, hb, hle1, hh1⟩
  refine W.go 99 rfl ?_
  rename_i L1
  have hb1 := le_but hb hle1
  refine W.eff rfl rfl rfl (Ef.call rfl (several_sp s p x b na nc nums 0 L1 (hst.le hb1) hsm hh1 (by omega) hl2)) ?_
  rintro _ _ _ ⟨_, rfl, rfl, own, p1, p2, ba, m, rfl, ho, hm, hh2, hle2, hsev⟩
  refine W.go 99 rfl ?_
  rename_i L2
  have hok := sawE_0 ho.e
  have hx1 : [(s, p), (own, p1), (({ own with wants := own.wants ++ [x] } : Sw), p2)][1]? = some (own, p1) := rfl
  have hso1 := (hsev.so _ (List.mem_of_getElem? hx1)).1
  have hL2 : Le L (L2.but b) := hb1.trans (but_but hle2)
  refine W.drawn (by kernel_rfl) (L2.but b) (but_le _ _) ?_
  refine DD.run' [0, 1, 2, 6, 8, 9] rfl ?_
  refine DD.vf 3 rfl rfl rfl rfl rfl (Vf.idx rfl rfl rfl rfl rfl rfl ((show 1 < 3 by decide))) ?_
  refine DD.vf 4 rfl rfl rfl rfl rfl (Vf.loadN rfl rfl rfl (hsev.ss.whole hx1 rfl)) ?_
  have hwo := WantOf_sp (X := C.X) own p1 b na nc nums m L2 hh2 (by omega) hl2 hso1.lo hok.l1 hok.l3 hok.lf
  refine DD.act 5 rfl rfl rfl rfl rfl (Ef.call rfl (hwo)) ((by rintro _ _ _ ⟨_, rfl, rfl, ⟨x, rfl, _⟩, hl, _⟩; exact ⟨hl, rfl, .inl rfl⟩)) ?_
  rintro _ _ _ ⟨v5, rfl, rfl, ⟨wo, rfl, hwx⟩, hl23, m3, hm3, hh3⟩
  rename_i L3
  refine DD.run' [7] rfl ?_
  have hto := To_sp (X := C.X) b na nc nums m3 2 L3 hh3 (by omega) hl2 (by omega)
  refine DD.act 10 rfl rfl rfl rfl rfl (Ef.call rfl (hto)) ((by rintro _ _ _ ⟨_, rfl, rfl, ⟨y, rfl, _⟩, hk, _⟩; exact ⟨but_trans hl23 (but_same hk), rfl, .inl rfl⟩)) ?_
  rintro _ _ _ ⟨v6, rfl, rfl, ⟨y, rfl, hy⟩, hk3, hs3⟩
  rename_i L4
  have f24 : Le (L2.but b) L4 := but_trans hl23 (but_same hk3)
  refine DD.run' [11, 12, 13] rfl ?_
  refine .fin rfl ?_
  refine W.go 99 rfl ?_
  clear hs3 hh3 hh2 hh1
  have hsev4 := hsev.le f24
  have hL4 := hL2.trans f24
  refine W.pub 11 (.inr ⟨_, _, _, rfl⟩) rfl rfl ?_
  intro bw hbw _
  have q1 : Le L4 (L4.put bw (.cells (([x, wo, x] : List Want).flatMap encWt).toArray 28)) := Le.put hbw _
  have k1 := put_same L4 bw (.cells (([x, wo, x] : List Want).flatMap encWt).toArray 28)
  change W C _ _ _ _ _ (L4.put bw (.cells (([x, wo, x] : List Want).flatMap encWt).toArray 28))
  generalize L4.put bw (.cells (([x, wo, x] : List Want).flatMap encWt).toArray 28) = L5 at k1 q1 ⊢
  refine W.pub 12 (.inr ⟨_, _, _, rfl⟩) rfl rfl ?_
  intro bk hbk _
  have q2 : Le L5 (L5.put bk (.cells (([kn, (y : Int), 0] : List Int).flatMap encI).toArray 3)) := Le.put hbk _
  have k2 := put_same L5 bk (.cells (([kn, (y : Int), 0] : List Int).flatMap encI).toArray 3)
  change W C _ _ _ _ _ (L5.put bk (.cells (([kn, (y : Int), 0] : List Int).flatMap encI).toArray 3))
  generalize L5.put bk (.cells (([kn, (y : Int), 0] : List Int).flatMap encI).toArray 3) = L8 at k2 q2 ⊢
  have hL8 : Le L L8 := hL4.trans (q1.trans q2)
  have hgl8 := hgl.le hL8
  have hws := (sl_block (L := L5) encWt_len k1).le q2
  have hks := intsB (L := L8) _ k2
  have hsev := hsev4.le (q1.trans q2)
  generalize hWs : ([x, wo, x] : List Want) = Ws at hws
  generalize hKs : ([kn, (y : Int), 0] : List Int) = Ks at hks
  generalize hSs : [(s, p), (own, p1), (({ own with wants := own.wants ++ [x] } : Sw), p2)] = Ss at hsev
  have nS : Ss.length = 3 := by rw [← hSs]; rfl
  have nW : Ws.length = 3 := by rw [← hWs]; rfl
  have nK : Ks.length = 3 := by rw [← hKs]; rfl
  refine W.loop (fun w E B L' => ∃ k : Nat, w = 3 - k ∧ k ≤ 3 ∧ Le L8 L' ∧ E = [(10, .v (.slice (some ⟨ba, 0, none⟩) 3 3)), (11, .v (.slice (some ⟨bw, 0, none⟩) 3 3)), (12, .v (.slice (some ⟨bk, 0, none⟩) 3 3)), (13, .v (.int .i64 k))] ∧ B = [])
    ⟨0, rfl, by omega, Le.refl _, rfl, rfl⟩ (by exact ⟨rfl, rfl, rfl, rfl, trivial⟩) (by exact trivial) ?_
  rintro _ _ _ L9 ⟨k, rfl, hk, hl9, rfl, rfl⟩ again
  have hsv9 := hsev.le hl9
  refine W.go 99 rfl ?_
  refine W.split rfl rfl rfl (fun e3 => W.go 99 rfl ?_) (fun e3 => W.go 99 rfl ?_)
  · have hk3 : k < 3 := by have : (k : Int) < 3 := by simpa using e3
                           omega
    obtain ⟨⟨sk, pk⟩, hx⟩ : ∃ x, Ss[k]? = some x := ⟨_, List.getElem?_eq_getElem (by omega)⟩
    obtain ⟨wk, hwk⟩ : ∃ x, Ws[k]? = some x := ⟨_, List.getElem?_eq_getElem (by omega)⟩
    obtain ⟨nk, hnk⟩ : ∃ x, Ks[k]? = some x := ⟨_, List.getElem?_eq_getElem (by omega)⟩
    obtain ⟨hsk, hskm⟩ := hsv9.so _ (List.mem_of_getElem? hx)
    dsimp only at hsk hskm
    refine W.vf rfl rfl rfl rfl (Vf.idx rfl rfl rfl rfl rfl rfl (hk3)) ?_
    refine W.go 99 rfl ?_
    refine W.vf rfl rfl rfl rfl (Vf.loadN rfl rfl rfl (hsv9.ss.whole hx rfl)) ?_
    refine W.go 99 rfl ?_
    refine W.eff rfl rfl rfl (Ef.call rfl (DupSaw_sp sk pk L9 hsk hskm)) ?_
    rintro _ _ _ ⟨v9, rfl, rfl, p9, I9, hd9'⟩
    obtain ⟨hst10, hl10⟩ := hd9'.at_
    have hv9 := hd9'.v
    subst hv9
    rename_i L10
    have hl810 := hl9.trans hl10
    refine W.go 99 rfl ?_
    refine W.drawn (by kernel_rfl) L10 (Le.refl _) ?_
    refine DD.run' [0, 1, 2] rfl ?_
    refine DD.vf 3 rfl rfl rfl rfl rfl (Vf.idx1 rfl rfl rfl rfl rfl rfl rfl (hk3)) ?_
    refine DD.vf 4 rfl rfl rfl rfl rfl (Vf.load rfl rfl rfl ((hks.le hl810).int hnk)) ?_
    refine DD.act 5 rfl rfl rfl rfl rfl (Ef.call rfl ((Need_sp sk p9 nk L10 hst10 hskm))) ((by rintro _ _ _ ⟨_, rfl, rfl, rfl, hl⟩; exact ⟨hl, rfl, .inl rfl⟩)) ?_
    rintro _ _ _ ⟨v10, rfl, rfl, rfl, hl11⟩
    rename_i L11
    refine DD.run' [6, 7, 8, 9, 10] rfl ?_
    refine .fin rfl ?_
    refine W.go 99 rfl ?_
    have hl811 := hl810.trans hl11
    have hsv11 := hsev.le hl811
    refine W.drawn (by kernel_rfl) L11 (Le.refl _) ?_
    refine DD.run' [0, 1, 4, 5] rfl ?_
    refine DD.vf 2 rfl rfl rfl rfl rfl (Vf.idx rfl rfl rfl rfl rfl rfl (hk3)) ?_
    refine DD.vf 3 rfl rfl rfl rfl rfl (Vf.loadN rfl rfl rfl (hsv11.ss.whole hx rfl)) ?_
    refine DD.vf 6 rfl rfl rfl rfl rfl (Vf.idx1 rfl rfl rfl rfl rfl rfl rfl (hk3)) ?_
    refine DD.vf 7 rfl rfl rfl rfl rfl (Vf.load rfl rfl rfl ((hks.le hl811).int hnk)) ?_
    refine DD.act 8 rfl rfl rfl rfl rfl (Ef.call rfl ((rNeed_sp sk pk nk L11 (hsv11.so _ (List.mem_of_getElem? hx)).1 hskm))) ((by rintro _ _ _ ⟨_, rfl, rfl, rfl, hl⟩; exact ⟨hl, rfl, .inl rfl⟩)) ?_
    rintro _ _ _ ⟨v11, rfl, rfl, rfl, hl12⟩
    rename_i L12
    refine DD.run' [9, 10, 11, 12, 13] rfl ?_
    refine .fin rfl ?_
    refine W.go 99 rfl ?_
    refine W.eff rfl rfl rfl (Ef.call rfl (Kerf_sp sk p9 L12 (hst10.le (hl11.trans hl12)) hskm)) ?_
    rintro _ _ _ ⟨v12, rfl, rfl, rfl, hl13⟩
    refine W.go 99 rfl ?_
    rename_i L13
    have hl813 := hl811.trans (hl12.trans hl13)
    have hsv13 := hsev.le hl813
    refine W.vf rfl rfl rfl rfl (Vf.idx rfl rfl rfl rfl rfl rfl (hk3)) ?_
    refine W.go 99 rfl ?_
    refine W.vf rfl rfl rfl rfl (Vf.loadN rfl rfl rfl (hsv13.ss.whole hx rfl)) ?_
    refine W.go 99 rfl ?_
    refine W.eff rfl rfl rfl (Ef.call rfl (rKerf_sp sk pk L13 (hsv13.so _ (List.mem_of_getElem? hx)).1 hskm)) ?_
    rintro _ _ _ ⟨v13, rfl, rfl, rfl, hl14⟩
    refine W.go 99 rfl ?_
    rename_i L14
    rw [bne_self_eq_false]
    refine W.asLit 94 (p := false) rfl rfl ?_
    refine W.go 99 rfl ?_
    rw [bne_self_eq_false]
    refine W.asLit 99 (p := false) rfl rfl ?_
    refine W.go 99 rfl ?_
    rw [bne_self_eq_false]
    refine W.asLit 104 (p := false) rfl rfl ?_
    refine W.go 99 rfl ?_
    rw [bne_self_eq_false]
    refine W.split rfl rfl rfl (fun c => absurd c (by decide)) (fun c => ?_)
    refine W.go 99 rfl ?_
    have hl814 := hl813.trans hl14
    have hst14 := hst10.le (hl11.trans (hl12.trans (hl13.trans hl14)))
    have hsv14 := hsev.le hl814
    have hsm' := AddW_sm hskm wk
    refine W.drawn (by kernel_rfl) L14 (Le.refl _) ?_
    refine DD.run' [0, 1, 2, 9] rfl ?_
    refine DD.vf 3 rfl rfl rfl rfl rfl (Vf.idx rfl rfl rfl rfl rfl rfl (hk3)) ?_
    refine DD.vf 4 rfl rfl rfl rfl rfl (Vf.loadN rfl rfl rfl ((hws.le hl814).whole hwk rfl)) ?_
    refine DD.act 5 rfl rfl rfl rfl rfl (Ef.call rfl ((Add_sp sk p9 wk L14 hst14 hskm))) ((by rintro _ _ _ ⟨_, rfl, rfl, _, rfl, _, hl⟩; exact ⟨hl, rfl, .inl rfl⟩)) ?_
    rintro _ _ _ ⟨v14, rfl, rfl, pa, rfl, hsa, hl15⟩
    rename_i L15
    refine DD.run' [6, 7, 8] rfl ?_
    refine DD.act 10 rfl rfl rfl rfl rfl (Ef.sto rfl) (by rintro _ _ L15 ⟨rfl, rfl, rfl⟩; exact ⟨hl15, rfl, .inl rfl⟩) ?_
    rintro _ _ L15 ⟨rfl, rfl, rfl⟩
    refine DD.run' [11] rfl ?_
    refine .fin rfl ?_
    refine W.go 99 rfl ?_
    have hl815 := hl814.trans hl15
    have hsv15 := hsev.le hl815
    refine W.drawn (by kernel_rfl) L15 (Le.refl _) ?_
    refine DD.run' [0, 1, 4, 5, 12] rfl ?_
    refine DD.vf 2 rfl rfl rfl rfl rfl (Vf.idx rfl rfl rfl rfl rfl rfl (hk3)) ?_
    refine DD.vf 3 rfl rfl rfl rfl rfl (Vf.loadN rfl rfl rfl (hsv15.ss.whole hx rfl)) ?_
    refine DD.vf 6 rfl rfl rfl rfl rfl (Vf.idx rfl rfl rfl rfl rfl rfl (hk3)) ?_
    refine DD.vf 7 rfl rfl rfl rfl rfl (Vf.loadN rfl rfl rfl ((hws.le hl815).whole hwk rfl)) ?_
    refine DD.act 8 rfl rfl rfl rfl rfl (Ef.call rfl ((rAdd_sp sk pk wk L15 (hsv15.so _ (List.mem_of_getElem? hx)).1 hskm))) ((by rintro _ _ _ ⟨_, rfl, rfl, _, rfl, _, hl⟩; exact ⟨hl, rfl, .inl rfl⟩)) ?_
    rintro _ _ _ ⟨v15, rfl, rfl, pb, rfl, hsb, hl16⟩
    rename_i L16
    refine DD.run' [9, 10, 11] rfl ?_
    refine DD.act 13 rfl rfl rfl rfl rfl (Ef.sto rfl) (by rintro _ _ L16 ⟨rfl, rfl, rfl⟩; exact ⟨hl16, rfl, .inl rfl⟩) ?_
    rintro _ _ L16 ⟨rfl, rfl, rfl⟩
    refine DD.run' [14] rfl ?_
    refine .fin rfl ?_
    refine W.go 99 rfl ?_
    have hl816 := hl815.trans hl16
    have hsv16 := hsev.le hl816
    have hst16 := hst14.le (hl15.trans hl16)
    refine W.drawn (by kernel_rfl) L16 (Le.refl _) ?_
    refine DD.run' [0, 1, 2, 3] rfl ?_
    rw [bne_self_eq_false]
    refine DD.split 133 rfl (fun c => absurd c (by decide)) (fun _ => ?_)
    refine DD.run' [4, 5] rfl ?_
    refine DD.act 6 rfl rfl rfl rfl rfl (Ef.call rfl (EqSaws_sp (AddW sk wk).1 pa pb L16 (hsa.le hl16) hsb hsm')) (by rintro _ _ _ ⟨_, rfl, rfl, rfl, rfl⟩; exact ⟨Le.refl _, rfl, .inl rfl⟩) ?_
    rintro _ _ _ ⟨_, rfl, rfl, rfl, rfl⟩
    refine DD.run' [7, 8, 9] rfl ?_
    refine DD.split 139 rfl (fun c => absurd c (by decide)) (fun _ => ?_)
    refine DD.run' [10, 11, 12] rfl ?_
    refine DD.vf 13 rfl rfl rfl rfl rfl (Vf.idx rfl rfl rfl rfl rfl rfl (hk3)) ?_
    refine DD.vf 14 rfl rfl rfl rfl rfl (Vf.loadN rfl rfl rfl (hsv16.ss.whole hx rfl)) ?_
    refine DD.act 15 rfl rfl rfl rfl rfl (Ef.call rfl (EqSaws_sp sk p9 pk L16 hst16 (hsv16.so _ (List.mem_of_getElem? hx)).1 hskm)) (by rintro _ _ _ ⟨_, rfl, rfl, rfl, rfl⟩; exact ⟨Le.refl _, rfl, .inl rfl⟩) ?_
    rintro _ _ _ ⟨_, rfl, rfl, rfl, rfl⟩
    refine DD.run' [16, 17] rfl ?_
    refine .fin rfl ?_
    refine W.go 99 rfl ?_
    refine W.split rfl rfl rfl (fun c => absurd c (by decide)) (fun c => ?_)
    refine W.go 99 rfl ?_
    exact W.again (again _ _ _ _ (by omega) ⟨k + 1, rfl, by omega, hl816, rfl, rfl⟩) (by exact ⟨rfl, rfl, rfl, congrArg some (inc64 (by omega)), trivial⟩) (by exact trivial)
  · have hk3 : k = 3 := by simp at e3; omega
    refine W.eff rfl rfl rfl (Ef.call rfl (drd L9 (hgl8.le hl9))) ?_
    rintro _ _ _ ⟨v20, rfl, rfl, rfl, hdm⟩
    refine W.go 99 rfl ?_
    exact W.retO r rfl ⟨rfl, (Dim.of_le (hL8.trans hl9)).trans hdm⟩
end Go.Mz

