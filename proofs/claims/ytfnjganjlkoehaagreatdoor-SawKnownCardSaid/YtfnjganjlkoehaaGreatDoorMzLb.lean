/- Lemmas on which the claim leans. -/
import Derived.Test.YtfnjganjlkoehaaGreatDoorMzLa
set_option maxRecDepth 100000
namespace Go.Mz
open Go.Conc Go.Proofs
variable {X : Logic Tryz.prog}
theorem wantK_at {L : LH} {s : Sw} {p : Wp} {x : Want} {wa : Option Addr} {wc : Nat} (h : SwAt L s p) (hw : SlAt L wa 4 encWt (s.wants ++ [x])) (hc : (s.wants ++ [x]).length ≤ wc) : SwAt L (wantK s x) ⟨p.la, p.sa, wa, p.lc, p.sc, wc⟩ := ⟨h.lo, h.st, hw, hc⟩
theorem wantK_ok {s : Sw} {x : Want} (h : SOk s) (h5 : s.wants.length ≠ 5) (hx : wantE s.loaves x = 0) : SOk (wantK s x) :=
 ⟨h.l1, h.l3, h.lf, h.st, h.sr, h.k0, h.k3, (by show (s.wants ++ [x]).length ≤ 5; have := h.w5; simp; omega), fun y hy => by
  rcases List.mem_append.1 hy with hy | hy
  ·exact h.wt y hy
  ·rw [List.mem_singleton.1 hy]; exact wantE_0 hx⟩
def SwQ (x : Sw × Int) (L : LH) (v : Value) (L' : LH) : Prop := ∃ p, v = .tuple #[swA x.1 p, .int .i64 x.2] ∧ SwAt L' x.1 p ∧ Le L L'
theorem sw0_at (L : LH) : SwAt L sw0 ⟨none, none, none, 0, 0, 0⟩ := ⟨⟨[], rfl, SlAt.empty, fun x hx => by cases hx⟩, SlAt.empty, SlAt.empty, Nat.le_refl _⟩
theorem Add_sp (s : Sw) (p : Wp) (x : Want) (L : LH) (h : SwAt L s p) (hn : Sm s) : Sp X 58 [swA s p, .agg (encWt x).toArray] L (SwQ (AddW s x) L) := by
 refine Sp.enter (n := 76) Tryz.func58 rfl rfl rfl rfl fun C hX _ hL0 r => ?_
 refine W.go 99 rfl ?_
 refine W.eff rfl rfl rfl (Ef.call rfl (open_sp s p none none 0 0 [] [] L h hn SlAt.empty SlAt.empty (by simp) (by simp))) ?_
 rintro _ _ _ ⟨v0, rfl, rfl, hle, hq⟩
 refine W.go 99 rfl ?_
 rename_i L1
 rw [openW_nil] at hq
 rcases hq with ⟨he, rfl⟩ | ⟨he, rfl⟩
 ·have hCE : AddW s x = (sw0, sawE s) := by unfold AddW; rw [if_pos he]
  rw [hCE] at r
  refine W.go 99 rfl ?_
  refine W.split rfl rfl rfl (fun e1 => W.go 99 rfl ?_) (fun e1 => W.go 99 rfl ?_)
  ·refine W.ret r rfl rfl ?_
   exact ⟨⟨none, none, none, 0, 0, 0⟩, rfl, sw0_at _, hle⟩
  ·simp at e1; exact absurd e1 he
 have hok := sawE_0 he
 have hl3 := hok.l3
 have hst3 := hok.st
 have hw5 := hok.w5
 have hAW : AddW s x = if s.wants.length = 5 then (sw0, 6) else if wantE s.loaves x ≠ 0 then (sw0, wantE s.loaves x) else if servedW s && !servedW (wantK s x) then (sw0, 9) else (wantK s x, 0) := by unfold AddW; rw [if_neg (by simp [he])]
 rw [hAW] at r
 refine W.go 99 rfl ?_
 refine W.split rfl rfl rfl (fun e1 => ?_) (fun e1 => ?_)
 ·simp at e1
 refine W.weak (E' := [(2, .p 0 0), (3, .p 1 0), (4, .p 2 0), (18, .lit false)]) (B' := [some ⟨cellsS (.v (swA s p)), 26⟩, some ⟨cellsS (.v (.agg (encWt x).toArray)), 28⟩, some ⟨List.map SV.v ti26.z.cells.toList, 26⟩]) (by exact ⟨rfl, rfl, rfl, rfl, trivial⟩) (by exact ⟨rfl, rfl, rfl, trivial⟩) ?_
 refine W.go 99 rfl ?_
 refine W.split rfl rfl rfl (fun e2 => W.go 99 rfl ?_) (fun e2 => W.go 99 rfl ?_)
 ·have h5 : s.wants.length = 5 := by have : ((s.wants.length : Nat) : Int) = 5 := (by simpa using e2); omega
  rw [if_pos h5] at r
  refine W.ret r rfl rfl ?_
  exact ⟨⟨none, none, none, 0, 0, 0⟩, rfl, sw0_at _, hle⟩
 have h5 : s.wants.length ≠ 5 := by have : ¬ ((s.wants.length : Nat) : Int) = 5 := (by simpa using e2); omega
 rw [if_neg h5] at r
 refine W.eff rfl rfl rfl (Ef.call rfl (checkWant_sp s p x L1 (h.le hle) hn)) ?_
 rintro _ _ _ ⟨_, rfl, rfl, rfl, rfl⟩
 refine W.go 99 rfl ?_
 refine W.split rfl rfl rfl (fun e3 => W.go 99 rfl ?_) (fun e3 => W.go 99 rfl ?_)
 ·have h6 : wantE s.loaves x ≠ 0 := by simpa using e3
  rw [if_pos h6] at r
  refine W.ret r rfl rfl ?_
  exact ⟨⟨none, none, none, 0, 0, 0⟩, rfl, sw0_at _, hle⟩
 have h6 : wantE s.loaves x = 0 := by simpa using e3
 rw [if_neg (by simp [h6])] at r
 have hokx := wantK_ok hok h5 h6
 have hs1 := h.le hle
 have hcap := h.cap
 refine W.drawn (by kernel_rfl) L1 (Le.refl _) ?_
 refine DD.run' [0, 1, 2, 3, 4, 5, 6, 7, 9, 10] rfl ?_
 refine DD.vf 8 rfl rfl rfl rfl rfl (Vf.slice3 rfl rfl rfl Tryz.underlying24 size28 (Nat.le_refl _) hcap) ?_
 refine DD.act 11 rfl rfl rfl rfl rfl (Ef.appF rfl rfl rfl rfl rfl rfl rfl rfl rfl encWt_len hs1.wt (ls := [x]) (.own rfl rfl rfl rfl) (by simp) (by simp; omega)) ((by rintro _ _ _ ⟨_, _, _, rfl, rfl, hn, rfl, _⟩; exact ⟨Le.put hn _, rfl, .inl rfl⟩)) ?_
 rintro _ _ _ ⟨b5, c5, cap5, rfl, rfl, hb5, rfl, hown5⟩
 refine DD.run' [12] rfl ?_
 refine DD.act 13 rfl rfl rfl rfl rfl (Ef.sto rfl) (by rintro _ _ _ ⟨rfl, rfl, rfl⟩; exact ⟨Le.put hb5 _, rfl, .inr rfl⟩) ?_
 rintro _ _ _ ⟨rfl, rfl, rfl⟩
 refine .fin rfl ?_
 refine W.go 99 rfl ?_
 have hL12 : Le L1 (L1.put b5 (Obj.cells c5 28)) := Le.put hb5 _
 generalize L1.put b5 (Obj.cells c5 28) = L2 at hL12 hown5 ⊢
 have hwx := hown5.at encWt_len
 obtain ⟨_, _, hce, hcp5⟩ := hown5.slice
 cases hce
 have hs2 := hs1.le hL12
 have hsx : SwAt L2 (wantK s x) ⟨p.la, p.sa, some ⟨b5, 0, none⟩, p.lc, p.sc, cap5⟩ := wantK_at hs2 hwx hcp5
 refine W.eff rfl rfl rfl (Ef.call rfl (served_sp s p L2 hs2 hok)) ?_
 rintro _ _ _ ⟨_, rfl, rfl, rfl, hl23⟩
 refine W.go 99 rfl ?_
 rename_i L3
 apply W.cut (fun E B L' => Le L2 L' ∧ (servedW s && !servedW (wantK s x)) = false ∧ SubE E [(2, .p 0 0), (4, .p 2 0), (9, .p 3 0), (57, .v (.slice p.la s.loaves.length p.lc)), (58, .v (.int .i64 (s.loaves.length : Nat))), (59, .v (.int .i64 0))] ∧ PreB B [some ⟨cellsS (.v (swA s p)), 26⟩, some ⟨cellsS (.v (.agg (encWt x).toArray)), 28⟩, some ⟨List.map SV.v ti26.z.cells.toList, 26⟩, some ⟨[.v (.slice none 0 0), .v (.slice p.sa s.stock.length p.sc), .v (.int .i64 s.kerf), .v (.slice (some ⟨b5, 0, none⟩) (s.wants ++ [x]).length cap5)], 26⟩])
 rotate_left
 ·intro rest
  cases hs : servedW s with
  | false =>
   refine W.asLit 49 (p := false) rfl rfl ?_
   refine W.go 99 rfl ?_
   exact rest _ _ _ ⟨hl23, by rw [hs]; rfl, by exact ⟨rfl, rfl, rfl, rfl, rfl, rfl, trivial⟩, by exact ⟨rfl, rfl, rfl, rfl, trivial⟩⟩
  | true =>
   refine W.asLit 49 (p := true) rfl rfl ?_
   refine W.go 99 rfl ?_
   refine W.eff rfl rfl rfl (Ef.call rfl (served_sp (wantK s x) ⟨p.la, p.sa, some ⟨b5, 0, none⟩, p.lc, p.sc, cap5⟩ L3 (hsx.le hl23) hokx)) ?_
   rintro _ _ _ ⟨_, rfl, rfl, rfl, hl34⟩
   rename_i L4
   cases hsw : servedW (wantK s x) with
   | false =>
    rw [if_pos (by rw [hs, hsw]; rfl)] at r
    refine W.go 99 rfl ?_
    refine W.split rfl rfl rfl (fun c => ?_) (fun c => absurd c (by decide))
    refine W.go 99 rfl ?_
    refine W.ret r rfl rfl ?_
    exact ⟨⟨none, none, none, 0, 0, 0⟩, rfl, sw0_at _, hle.trans (hL12.trans (hl23.trans hl34))⟩
   | true =>
    refine W.go 99 rfl ?_
    refine W.split rfl rfl rfl (fun c => absurd c (by decide)) (fun c => ?_)
    refine W.go 99 rfl ?_
    exact rest _ _ _ ⟨hl23.trans hl34, by rw [hs, hsw]; rfl, by exact ⟨rfl, rfl, rfl, rfl, rfl, rfl, trivial⟩, by exact ⟨rfl, rfl, rfl, rfl, trivial⟩⟩
 rintro E B L4 ⟨hl24, hcond, hE, hB⟩
 rw [if_neg (by rw [hcond]; decide)] at r
 refine W.weak hE hB ?_
 have hs4 := hs2.le hl24
 refine W.loop (fun m E B L' => ∃ (k : Nat) (v : Value), m = s.loaves.length - k ∧ k ≤ s.loaves.length ∧ GrowL L4 23 1 encI L' v (s.loaves.take k) ∧
   E = [(2, .p 0 0), (4, .p 2 0), (9, .p 3 0), (57, .v (.slice p.la s.loaves.length p.lc)), (58, .v (.int .i64 (s.loaves.length : Nat))), (59, .v (.int .i64 k))] ∧ B = [some ⟨cellsS (.v (swA s p)), 26⟩, some ⟨cellsS (.v (.agg (encWt x).toArray)), 28⟩, some ⟨List.map SV.v ti26.z.cells.toList, 26⟩, some ⟨[.v v, .v (.slice p.sa s.stock.length p.sc), .v (.int .i64 s.kerf), .v (.slice (some ⟨b5, 0, none⟩) (s.wants ++ [x]).length cap5)], 26⟩])
  ⟨0, _, rfl, by omega, GrowL.nil (Le.refl _), rfl, rfl⟩ (by exact ⟨rfl, rfl, rfl, rfl, rfl, rfl, trivial⟩) (by exact ⟨rfl, rfl, rfl, rfl, trivial⟩) ?_
 rintro _ _ _ L5 ⟨k, v, rfl, hk, hgr, rfl, rfl⟩ again
 refine W.go 99 rfl ?_
 refine W.split rfl rfl rfl (fun e4 => W.go 99 rfl ?_) (fun e4 => W.go 99 rfl ?_)
 ·have hkl : k < s.loaves.length := by simpa using e4
  obtain ⟨oa, a, c', hla, hcell, hsl', hcp⟩ := has_loaf hs4 hkl
  have hlfk := hok.lf _ (List.getElem_mem hkl)
  have htk : s.loaves.take (k + 1) = s.loaves.take k ++ [s.loaves[k]] := List.take_succ_eq_append_getElem hkl
  generalize s.loaves[k] = lf at *
  have hl4 := hlfk.l4
  have hl45 := hgr.hle
  obtain ⟨J, rs, hLJ, hrs, hgo, hrk⟩ := hgr
  have hrl : rs.length ≤ 3 := by
   have h1 := congrArg List.length hrs
   rw [List.length_map, List.length_take] at h1
   omega
  obtain ⟨va, vc, rfl, _⟩ := hgo.slice
  obtain ⟨qa, qb, qc, qd, qe, qf⟩ := p
  obtain rfl : qa = some oa := hla
  have hcl := (CloneG_sp (X := C.X) a c' lf J (hsl'.le hLJ) (by omega)).frame hgo.1
  refine W.vf rfl rfl rfl rfl (Vf.idx1 rfl rfl rfl rfl rfl rfl rfl (hkl)) ?_
  refine W.go 99 rfl ?_
  refine W.vf rfl rfl rfl rfl (Vf.load rfl rfl rfl (hl45.cell hcell)) ?_
  refine W.go 99 rfl ?_
  refine W.drawn (by kernel_rfl) J hgo.1 ?_
  refine DD.run' [0, 1, 2] rfl ?_
  refine DD.act 3 rfl rfl rfl rfl rfl (Ef.call rfl (hcl)) ((by rintro _ _ _ ⟨_, rfl, rfl, J', hg, hpo⟩; exact ⟨hg.1.trans hpo.le, rfl, .inl rfl⟩)) ?_
  rintro _ _ _ ⟨v6, rfl, rfl, J', hg, hpo⟩
  rename_i L6
  have hgJ := hgo.call hpo
  obtain ⟨ua, uc, rfl, huc⟩ := hg.slice
  refine DD.run' [4] rfl ?_
  refine DD.act 5 rfl rfl rfl rfl rfl (Ef.grow rfl rfl rfl rfl rfl rfl rfl rfl rfl encRw_len encRw_sg hgJ (ls := [((ua, lf.length, uc), lf)]) (.own rfl rfl rfl rfl) (by simp; omega)) ((by rintro _ _ _ ⟨_, rfl, rfl, hg', _⟩; exact ⟨hg.1.trans hg'.1, rfl, .inl rfl⟩)) ?_
  rintro _ _ _ ⟨v7, rfl, rfl, hg7, _⟩
  obtain ⟨va7, vc7, rfl, _⟩ := hg7.slice
  refine DD.run' [6] rfl ?_
  refine DD.act 7 rfl rfl rfl rfl rfl (Ef.sto rfl) (by rintro _ _ _ ⟨rfl, rfl, rfl⟩; exact ⟨hg.1.trans hg7.1, rfl, .inr rfl⟩) ?_
  rintro _ _ _ ⟨rfl, rfl, rfl⟩
  refine .fin rfl ?_
  refine W.go 99 rfl ?_
  refine W.again (again _ _ _ _ (by omega) ⟨k + 1, _, rfl, by omega, ⟨J', rs ++ [((ua, lf.length, uc), lf)], hLJ.trans hg.1, ?_, hg7, ?_⟩, rfl, rfl⟩) (by exact ⟨rfl, rfl, rfl, rfl, rfl, congrArg some (inc64 (by omega)), trivial⟩) (by exact ⟨rfl, rfl, rfl, rfl, trivial⟩)
  ·rw [List.map_append, hrs, htk]; rfl
  ·intro z hz
   rcases List.mem_append.1 hz with hz | hz
   ·exact (hrk z hz).le hg.1
   ·rw [List.mem_singleton.1 hz]; exact ⟨(hg.at encI_len).2, rfl, huc⟩
 ·have hke : k = s.loaves.length := by simp at e4; omega
  subst hke
  rw [List.take_length] at hgr
  have hl45 := hgr.hle
  obtain ⟨va, vc, rfl⟩ := hgr.slice
  refine W.eff rfl rfl rfl (Ef.call rfl (CloneG_sp p.sa p.sc s.stock L5 (hs4.st.le hl45) (by omega))) ?_
  rintro _ _ _ ⟨v8, rfl, rfl, hg8⟩
  rename_i L8 _
  obtain ⟨ua, uc, rfl, _⟩ := hg8.slice
  refine W.go 99 rfl ?_
  refine W.ret r rfl rfl ?_
  refine ⟨⟨va, ua, some ⟨b5, 0, none⟩, vc, uc, cap5⟩, rfl, ⟨(hgr.at.2).le hg8.1, (hg8.at encI_len).2, hwx.le (hl24.trans (hl45.trans hg8.1)), hcp5⟩, hle.trans (hL12.trans (hl24.trans (hl45.trans hg8.1)))⟩
end Go.Mz


set_option maxRecDepth 100000
namespace Go.Mz
open Go.Conc Go.Proofs
variable {X : Logic Tryz.prog}
end Go.Mz


namespace Go.Mz
open Go
end Go.Mz


namespace Go.Mz
open Go
section
variable {s : Sw} (hok : SOk s) {M : List (List Nat)} (hM : ∀ w, w ∈ M ↔ w ∈ picksW s.wants.length s.wants.length)
include hok hM
def topL (s : Sw) (M : List (List Nat)) : List (List Nat) := M.filter fun w => srvB s w && payW s w == payW s (crWants (bestW s fun _ => true))
omit hok in
theorem top_mem {w : List Nat} : w ∈ topL s M ↔ w ∈ picksW s.wants.length s.wants.length ∧ srvB s w = true ∧ payW s w = payW s (crWants (bestW s fun _ => true)) := by
 unfold topL
 rw [List.mem_filter, Bool.and_eq_true, beq_iff_eq, hM]
end
end Go.Mz


namespace Go.Mz
open Go
end Go.Mz


namespace Go.Mz
open Go
def cntAt (ms : List (List Int × Nat)) (i : Nat) : List (List Int × Nat) := ms.modify i fun x => (x.1, x.2 + 1)
def sumC (ms : List (List Int × Nat)) : Nat := (ms.map (·.2)).sum
theorem sumC_at : ∀ {ms : List (List Int × Nat)} {i : Nat}, i < ms.length → sumC (cntAt ms i) = sumC ms + 1
 | [], i, h => absurd h (Nat.not_lt_zero _)
 | x :: ms, 0, _ => by simp [sumC, cntAt]; omega
 | x :: ms, i + 1, h => by
  have ih := sumC_at (ms := ms) (i := i) (by simpa using h)
  unfold sumC cntAt at ih ⊢
  rw [List.modify_succ_cons, List.map_cons, List.map_cons, List.sum_cons, List.sum_cons, ih]; omega
theorem sumC_new (ms : List (List Int × Nat)) (k : List Int) : sumC (ms ++ [(k, 0)]) = sumC ms := by simp [sumC]
def seenC (ms : List (List Int × Nat)) (sl : List Nat) : Nat := (sl.map fun i => (ms[i]?.map (·.2)).getD 0).sum
theorem seenC_snoc (ms : List (List Int × Nat)) (sl : List Nat) {i : Nat} {x : List Int × Nat} (hx : ms[i]? = some x) : seenC ms (sl ++ [i]) = seenC ms sl + x.2 := by
 unfold seenC
 rw [List.map_append, List.sum_append, List.map_cons, List.map_nil, hx]
 simp
theorem range_sum (ms : List (List Int × Nat)) : seenC ms (List.range ms.length) = sumC ms := by
 unfold seenC sumC
 congr 1
 apply List.ext_getElem?
 intro i
 rw [List.getElem?_map, List.getElem?_map]
 rcases Nat.lt_or_ge i ms.length with h | h
 ·rw [List.getElem?_range h, List.getElem?_eq_getElem h]; simp [List.getElem?_eq_getElem h]
 ·rw [List.getElem?_eq_none (by simpa using h), List.getElem?_eq_none h]; rfl
theorem perm_sum {a b : List Nat} (h : a.Perm b) : a.sum = b.sum := by
 induction h with
 | nil => rfl
 | cons x _ ih => rw [List.sum_cons, List.sum_cons, ih]
 | swap x y l => rw [List.sum_cons, List.sum_cons, List.sum_cons, List.sum_cons]; omega
 | trans _ _ ih1 ih2 => rw [ih1, ih2]
theorem seenC_all {ms : List (List Int × Nat)} {sl : List Nat} (hn : sl.Nodup) (hm : ∀ i, i ∈ sl ↔ i < ms.length) : seenC ms sl = sumC ms := by
 rw [← range_sum]
 have hp : sl.Perm (List.range ms.length) := (List.perm_ext_iff_of_nodup hn List.nodup_range).2 fun i => by rw [hm, List.mem_range]
 unfold seenC
 exact perm_sum (hp.map _)
theorem seenC_le {ms : List (List Int × Nat)} {sl : List Nat} (hn : sl.Nodup) (hm : ∀ i ∈ sl, i < ms.length) : sl.length ≤ ms.length := by
 have := List.Nodup.length_le_of_subset hn (l₂ := List.range ms.length) fun i hi => List.mem_range.2 (hm i hi)
 simpa using this
theorem seenC_bd {ms : List (List Int × Nat)} {B : Nat} (hB : ∀ x ∈ ms, x.2 ≤ B) (sl : List Nat) : seenC ms sl ≤ sl.length * B := by
 unfold seenC
 induction sl with
 | nil => simp
 | cons i sl ih =>
  rw [List.map_cons, List.sum_cons, List.length_cons, Nat.succ_mul]
  have : (ms[i]?.map (·.2)).getD 0 ≤ B := by
   cases h : ms[i]? with
   | none => simp
   | some x => exact hB x (List.mem_of_getElem? h)
  omega
theorem verd_cnt (s : Sw) (i : Nat) : verdW s i =
  if (((allW s).filterMap id).filter fun c => payW s c.w == payW s (crWants (bestW s fun _ => true))).countP (fun c => c.w.contains i) = 0 then 2 else
  if (((allW s).filterMap id).filter fun c => payW s c.w == payW s (crWants (bestW s fun _ => true))).countP (fun c => c.w.contains i) = (((allW s).filterMap id).filter fun c => payW s c.w == payW s (crWants (bestW s fun _ => true))).length then 1 else 3 := by
 unfold verdW
 simp only
 generalize ((allW s).filterMap id).filter (fun c => payW s c.w == payW s (crWants (bestW s fun _ => true))) = l
 have e1 : (l.all fun c => !c.w.contains i) = true ↔ l.countP (fun c => c.w.contains i) = 0 := by
  rw [List.countP_eq_zero, List.all_eq_true]
  constructor
  ·intro h x hx hc
   have := h x hx
   rw [hc] at this
   cases this
  ·intro h x hx
   have := h x hx
   simpa using this
 have e2 : (l.all fun c => c.w.contains i) = true ↔ l.countP (fun c => c.w.contains i) = l.length := by
  rw [List.countP_eq_length, List.all_eq_true]
 by_cases h1 : l.countP (fun c => c.w.contains i) = 0
 ·rw [if_pos (e1.2 h1), if_pos h1]
 ·rw [if_neg (mt e1.1 h1), if_neg h1]
  by_cases h2 : l.countP (fun c => c.w.contains i) = l.length
  ·rw [if_pos (e2.2 h2), if_pos h2]
  ·rw [if_neg (mt e2.1 h2), if_neg h2]
end Go.Mz


set_option maxRecDepth 100000
namespace Go.Mz
open Go.Conc Go.Proofs
section
variable {P : Program} {C : Cx P} {E : Look} {B : List (Option Bx)} {L : LH} {dst : Option Tmp} {ty : TypeId} {pos : String} {af : Array Edge} {gd : Option (Nat × Bool)}
theorem Ef.entryNew {t kt et : TypeId} {x y : Operand} {r : Nat} {sk : SV} {kv z : Value} {es : Array MapEntry} {clk : Nat} (hx : evS E x = some (.v (.map (some r)))) (hy : evS E y = some sk) (dk : den nm0 sk = some kv) (hu : P.underlying t = some (.map kt et)) (hz : (P.info? et).bind (·.zero) = some z) (hL : L r = some (.map es clk, true))
  (hc : ∀ (e : Bool) (Q : Unit → LH → Prop) (H : Value → LH → Prop) (R : LH), wpS P Q H (Instr.checkKey e 10000 kt kv) R = Q () R) (hf : ∀ (Q : Option (Nat × Value) → LH → Prop) (H : Value → LH → Prop) (R : LH), wpS P Q H (Instr.findKey kt kv es.toList) R = Q none R) :
  Ef C ⟨dst, .mapEntry t x y, ty, pos, af, gd⟩ E B L (fun sv B' L' => sv = .v (.tuple #[z, .int .i64 clk]) ∧ B' = B ∧ L' = L.put r (.map (es.push { key := kv, val := z, born := clk }) (clk + 1))) := by
 intro T R β hE hH
 have ex := (Option.some.inj (hE.val hx)).symm
 have ey : ev T y = kv := Option.some.inj ((hE.val hy).symm.trans (den_nil dk β))
 refine ⟨rfl, ?_⟩
 simp only [execOp, ex, ey]
 rw [wpS_bind]
 unfold Instr.mapEntry
 rw [wpS_bind, wpS_underlying hu]
 simp only
 rw [wpS_bind, wpS_getMap (hH.le _ _ hL)]
 simp only
 rw [wpS_bind, hc, wpS_bind, hf]
 simp only
 rw [wpS_bind, wpS_zeroValue hz, wpS_bind, wpS_setObj (hH.le _ _ hL) rfl rfl]
 exact ⟨_, B, _, ⟨rfl, rfl, rfl⟩, rfl, hH.setF hL (put_same _ _ _) (fun b' hb' => put_ne R _ hb'), fun _ _ => rfl⟩
theorem Ef.entryOld {t kt et : TypeId} {x y : Operand} {r i : Nat} {sk : SV} {kv v : Value} {es : Array MapEntry} {clk : Nat} {e : MapEntry} (hx : evS E x = some (.v (.map (some r)))) (hy : evS E y = some sk) (dk : den nm0 sk = some kv) (hu : P.underlying t = some (.map kt et)) (hL : L r = some (.map es clk, true)) (he : es[i]? = some e) (hk : e.key = kv) (hsb : Instr.sameBits 10000 kv kv = true)
  (hc : ∀ (e : Bool) (Q : Unit → LH → Prop) (H : Value → LH → Prop) (R : LH), wpS P Q H (Instr.checkKey e 10000 kt kv) R = Q () R) (hf : ∀ (Q : Option (Nat × Value) → LH → Prop) (H : Value → LH → Prop) (R : LH), wpS P Q H (Instr.findKey kt kv es.toList) R = Q (some (i, v)) R) :
  Ef C ⟨dst, .mapEntry t x y, ty, pos, af, gd⟩ E B L (fun sv B' L' => sv = .v (.tuple #[v, .int .i64 e.born]) ∧ B' = B ∧ L' = L.put r (.map es clk)) := by
 intro T R β hE hH
 have ex := (Option.some.inj (hE.val hx)).symm
 have ey : ev T y = kv := Option.some.inj ((hE.val hy).symm.trans (den_nil dk β))
 refine ⟨rfl, ?_⟩
 simp only [execOp, ex, ey]
 rw [wpS_bind]
 unfold Instr.mapEntry
 rw [wpS_bind, wpS_underlying hu]
 simp only
 rw [wpS_bind, wpS_getMap (hH.le _ _ hL)]
 simp only
 rw [wpS_bind, hc, wpS_bind, hf]
 simp only [he, Option.map_some, Option.getD_some, hk]
 unfold Instr.keyThatStays
 rw [if_pos hsb, wpS_bind, wpS_pure]
 have em : es.modify i (fun e => { e with key := kv }) = es := by
  apply Array.ext_getElem?
  intro j
  rw [Array.getElem?_modify]
  split
  ·rename_i hij
   subst hij
   rw [he]
   cases e
   simp only at hk
   subst hk
   rfl
  ·rfl
 rw [em, wpS_bind, wpS_setObj (hH.le _ _ hL) rfl rfl]
 exact ⟨_, B, _, ⟨rfl, rfl, rfl⟩, rfl, hH.setF hL (put_same _ _ _) (fun b' hb' => put_ne R _ hb'), fun _ _ => rfl⟩
theorem Ef.entryStore {t : TypeId} {x y u : Operand} {r i : Nat} {j : Int} {k : IntKind} {su : SV} {uv : Value} {es : Array MapEntry} {clk : Nat} (hx : evS E x = some (.v (.map (some r)))) (hy : evS E y = some (.v (.int k j))) (hw : evS E u = some su) (du : den nm0 su = some uv) (hL : L r = some (.map es clk, true)) (hi : es.findIdx? (fun e => (e.born : Int) == j) = some i) :
  Ef C ⟨dst, .entryStore t x y u, ty, pos, af, gd⟩ E B L (StoQ (L.put r (.map (es.modify i fun e => { e with val := uv }) clk)) B) := by
 intro T R β hE hH
 have ex := (Option.some.inj (hE.val hx)).symm
 have ey : ev T y = .int k j := (Option.some.inj (hE.val hy)).symm
 have eu : ev T u = uv := Option.some.inj ((hE.val hw).symm.trans (den_nil du β))
 refine ⟨rfl, ?_⟩
 simp only [execOp, ex, ey, eu]
 rw [wpS_bind]
 unfold Instr.entryStore
 simp only
 rw [wpS_bind, wpS_getMap (hH.le _ _ hL)]
 simp only
 rw [wpS_bind]
 show wpS P _ _ (match es.findIdx? (fun e => (e.born : Int) == j) with | some i => _ | none => _) R
 rw [hi]
 simp only
 rw [wpS_setObj (hH.le _ _ hL) rfl rfl]
 exact ⟨.v undef, B, _, ⟨rfl, rfl, rfl⟩, rfl, hH.setF hL (put_same _ _ _) (fun b' hb' => put_ne R _ hb'), fun _ _ => rfl⟩
theorem Ef.range {t kt et : TypeId} {x : Operand} {r : Nat} {es : Array MapEntry} {clk : Nat} {wr : Bool} (hx : evS E x = some (.v (.map (some r)))) (hu : P.underlying t = some (.map kt et)) (hL : L r = some (.map es clk, wr)) :
  Ef C ⟨dst, .range t x, ty, pos, af, gd⟩ E B L (fun sv B' L' => ∃ b, sv = .v (.pointer (some ⟨b, 0, none⟩)) ∧ B' = B ∧ L b = none ∧ L' = L.put b (.mapIter (some r) clk #[] clk)) := by
 intro T R β hE hH
 have ex := (Option.some.inj (hE.val hx)).symm
 refine ⟨rfl, ?_⟩
 simp only [execOp, ex]
 rw [wpS_bind]
 unfold Instr.range
 rw [wpS_bind, wpS_underlying hu]
 simp only
 rw [wpS_bind, wpS_getMap (hH.le _ _ hL)]
 simp only
 rw [wpS_bind, wpS_pure, wpS_bind, wpS_newObj]
 intro b hb
 exact ⟨_, B, _, ⟨b, rfl, rfl, (hH.free hb).1, rfl⟩, rfl, hH.newF hb _, fun _ _ => rfl⟩
theorem Ef.next {y : Operand} {q r since last : Nat} {es : Array MapEntry} {clk : Nat} {seen : Array Nat} {wr : Bool} (hy : evS E y = some (.v (.pointer (some ⟨q, 0, none⟩)))) (hq : L q = some (.mapIter (some r) since seen last, true)) (hL : L r = some (.map es clk, wr)) (hb : ∀ e ∈ es, e.born < since ∧ e.born < last) :
  Ef C ⟨dst, .next y false, ty, pos, af, gd⟩ E B L (fun sv B' L' => B' = B ∧ ((sv = .v (.tuple #[.bool false]) ∧ (∀ e ∈ es, seen.contains e.born = true) ∧ L' = L) ∨ ∃ e ∈ es, seen.contains e.born = false ∧ sv = .v (.tuple #[.bool true, e.key, e.val]) ∧ L' = L.put q (.mapIter (some r) since (seen.push e.born) clk))) := by
 intro T R β hE hH
 have ey := (Option.some.inj (hE.val hy)).symm
 refine ⟨rfl, ?_⟩
 simp only [execOp, ey]
 rw [wpS_bind]
 unfold Instr.next
 simp only
 rw [wpS_bind]
 show wpS P _ _ (.getObj q .pure) R
 unfold wpS
 rw [hH.le _ _ hq]
 simp only [special, Bool.false_eq_true, if_false]
 show wpS P _ _ (getObj r >>= _) R
 rw [wpS_bind, wpS_getMap (hH.le _ _ hL)]
 simp only
 have h1 : (!seen.isEmpty && !es.isEmpty && es.all (fun e => decide (e.born ≥ last))) = false := by
  cases he : es.all (fun e => decide (e.born ≥ last)) with
  | false => rw [Bool.and_false]
  | true =>
   have : es = #[] := by
    apply Array.eq_empty_of_size_eq_zero
    rcases Nat.eq_zero_or_pos es.size with h | h
    ·exact h
    ·have h2 := Array.all_eq_true.1 he 0 h
     have h3 := (hb _ (Array.getElem_mem h)).2
     simp at h2
     omega
   subst this
   rw [show (#[] : Array MapEntry).isEmpty = true from rfl]
   cases seen.isEmpty <;> rfl
 rw [h1]
 simp only [Bool.false_eq_true, if_false]
 have hold : (es.filter fun e => !seen.contains e.born).filter (fun e => decide (e.born < since)) = es.filter fun e => !seen.contains e.born := by
  rw [Array.filter_eq_self]
  intro e he
  have := (hb e (Array.mem_filter.1 he).1).1
  simpa using this
 have hnew : (es.filter fun e => !seen.contains e.born).filter (fun e => decide (e.born ≥ since)) = #[] := by
  rw [Array.filter_eq_empty_iff]
  intro e he
  have := (hb e (Array.mem_filter.1 he).1).1
  simp
  omega
 rw [hold, hnew, Array.append_empty]
 have hmem : ∀ e, e ∈ (es.filter fun e => !seen.contains e.born) ↔ e ∈ es ∧ seen.contains e.born = false := fun e => by rw [Array.mem_filter]; simp
 generalize (es.filter fun e => !seen.contains e.born) = lf at hmem
 rw [wpS_bind, wpS_choose]
 intro n hn
 have done : ∀ {K : Value → LH → Prop}, K (.tuple #[.bool false]) R → wpS P K (fun _ _ => False) (pure (.tuple #[.bool false]) : Sem Value) R := fun h => h
 cases hl : lf.isEmpty with
 | true =>
  have h0 : lf = #[] := by rw [Array.isEmpty_iff] at hl; exact hl
  subst h0
  simp only [if_true, Array.map_empty, Array.append_empty]
  have hn0 : n = 0 := by
   unfold Answers at hn
   rw [if_pos (by simp [Question.forced])] at hn
   exact hn
  subst hn0
  refine ⟨_, B, L, ⟨rfl, .inl ⟨rfl, fun e he => ?_, rfl⟩⟩, rfl, hH, fun _ _ => rfl⟩
  cases hs : seen.contains e.born with
  | true => rfl
  | false => have := (hmem e).2 ⟨he, hs⟩; simp at this
 | false =>
  simp only [Bool.false_eq_true, if_false, Array.empty_append]
  have hpos : 0 < lf.size := by
   rcases Nat.eq_zero_or_pos lf.size with h | h
   ·rw [Array.isEmpty] at hl; simp [h] at hl
   ·exact h
  have hlt : n < lf.size := by
   rw [hl] at hn
   simp only [Bool.false_eq_true, if_false, Array.empty_append, Array.size_map] at hn
   unfold Answers at hn
   split at hn
   ·omega
   ·obtain ⟨t, rfl⟩ := hn
    exact Nat.mod_lt _ hpos
  rw [Array.getElem?_map, Array.getElem?_eq_getElem hlt]
  simp only [Option.map_some]
  obtain ⟨g1, g2⟩ := (hmem _).1 (Array.getElem_mem hlt)
  rw [wpS_bind, wpS_setObj (hH.le _ _ hq) rfl rfl]
  exact ⟨_, B, _, ⟨rfl, .inr ⟨lf[n], g1, g2, rfl, rfl⟩⟩, rfl, hH.setF hq (put_same _ _ _) (fun b' hb' => put_ne R _ hb'), fun _ _ => rfl⟩
theorem Vf.entry {y : Operand} {q r since : Nat} {es : Array MapEntry} {clk : Nat} {seen : Array Nat} {wr wr' : Bool} {e : MapEntry} (hy : evS E y = some (.v (.pointer (some ⟨q, 0, none⟩)))) (hq : L q = some (.mapIter (some r) since seen clk, wr)) (hL : L r = some (.map es clk, wr')) (hb : seen.back? = some e.born) (he : es.find? (·.born == e.born) = some e) :
  Vf P (.entry y) E B L (.v (.tuple #[e.key, e.val])) := fun T R β hE _ hR => by
 have ey := (Option.some.inj (hE.val hy)).symm
 refine ⟨_, rfl, fun ty dst pos af gd Q H hq' => ?_⟩
 simp only [execOp, ey]
 rw [wpS_bind]
 unfold Instr.entry
 simp only
 rw [wpS_bind]
 show wpS P _ _ (.getObj q .pure) R
 unfold wpS
 rw [hR _ _ hq]
 simp only [special, Bool.false_eq_true, if_false]
 show wpS P _ _ (match seen.back? with | some stamp => _ | _ => _) R
 rw [hb]
 simp only
 show wpS P _ _ (getObj r >>= _) R
 rw [wpS_bind, wpS_getMap (hR _ _ hL)]
 simp only [bne_self_eq_false, Bool.false_eq_true, if_false]
 show wpS P _ _ (match es.find? (·.born == e.born) with | some e => _ | none => _) R
 rw [he]
 exact hq'
theorem Vf.lookup1 {t kt et : TypeId} {x y : Operand} {r : Nat} {sk : SV} {kv z : Value} {es : Array MapEntry} {clk : Nat} {wr : Bool} {res : Option (Nat × Value)} (hx : evS E x = some (.v (.map (some r)))) (hy : evS E y = some sk) (dk : den nm0 sk = some kv) (hu : P.underlying t = some (.map kt et)) (hL : L r = some (.map es clk, wr)) (hz : (P.info? et).bind (·.zero) = some z)
  (hc : ∀ (e : Bool) (Q : Unit → LH → Prop) (H : Value → LH → Prop) (R : LH), wpS P Q H (Instr.checkKey e 10000 kt kv) R = Q () R) (hf : ∀ (Q : Option (Nat × Value) → LH → Prop) (H : Value → LH → Prop) (R : LH), wpS P Q H (Instr.findKey kt kv es.toList) R = Q res R) :
  Vf P (.lookup t x y false) E B L (.v ((res.map (·.2)).getD z)) := fun T R β hE _ hR => by
 have ex := (Option.some.inj (hE.val hx)).symm
 have ey : ev T y = kv := Option.some.inj ((hE.val hy).symm.trans (den_nil dk β))
 refine ⟨_, rfl, fun ty dst pos af gd Q H hq => ?_⟩
 simp only [execOp, ex, ey]
 rw [wpS_bind]
 unfold Instr.lookup
 rw [wpS_bind, wpS_underlying hu]
 simp only
 rw [wpS_bind, wpS_getMap (hR _ _ hL)]
 show wpS P _ H (Instr.checkKey es.isEmpty 10000 kt kv >>= _) R
 rw [wpS_bind, hc, wpS_bind, hf]
 cases res with
 | none => simp only; rw [wpS_bind, wpS_zeroValue hz]; exact hq
 | some p => exact hq
end
end Go.Mz


set_option maxRecDepth 100000
namespace Go.Mz
open Go.Conc Go.Proofs
theorem eq99 {a b c a' b' c' : Int} {n : Nat} {Q : Bool → LH → Prop} {H : Value → LH → Prop} {L : LH} : wpS Tryz.prog Q H (Op.equalIn (n + 3) 99 (intsV [a, b, c]) (intsV [a', b', c'])) L = Q ((a == a') && ((b == b') && (c == c'))) L := by
 unfold intsV
 rw [Op.equalIn, wpS_bind, wpS_underlying Tryz.underlying99, wpS_bind, wpS_sizeOf size3, wpS_bind]
 simp only [Std.Legacy.Range.forIn_eq_forIn_range', Std.Legacy.Range.size, Nat.sub_zero, Nat.add_sub_cancel, Nat.div_one, List.range'_succ, List.range'_zero, List.forIn_cons, List.forIn_nil]
 rw [wpS_bind, wpS_bind, wpS_part1 (v := .int .i64 a) agg3 rfl, wpS_bind, wpS_part1 (v := .int .i64 a') agg3 rfl, wpS_bind, eqIn_int Tryz.underlying3]
 cases e1 : (a == a')
 ·rfl
 rw [Bool.true_and]
 show wpS Tryz.prog _ H (_ >>= _) L = _
 rw [wpS_bind, wpS_bind, wpS_part1 (v := .int .i64 b) agg3 rfl, wpS_bind, wpS_part1 (v := .int .i64 b') agg3 rfl, wpS_bind, eqIn_int Tryz.underlying3]
 cases e2 : (b == b')
 ·rfl
 rw [Bool.true_and]
 show wpS Tryz.prog _ H (_ >>= _) L = _
 rw [wpS_bind, wpS_bind, wpS_part1 (v := .int .i64 c) agg3 rfl, wpS_bind, wpS_part1 (v := .int .i64 c') agg3 rfl, wpS_bind, eqIn_int Tryz.underlying3]
 cases e3 : (c == c')
 ·rfl
 ·rfl
theorem key99 {a b c : Int} (em : Bool) (Q : Unit → LH → Prop) (H : Value → LH → Prop) (R : LH) : wpS Tryz.prog Q H (Instr.checkKey em 10000 99 (intsV [a, b, c])) R = Q () R := by
 kernel_rfl
theorem bits99 (a b c : Int) : Instr.sameBits 10000 (intsV [a, b, c]) (intsV [a, b, c]) = true := by
 show Instr.sameBits (9998 + 2) _ _ = true
 simp [intsV, Instr.sameBits]
theorem ints3 {k : List Int} (h : k.length = 3) : ∃ a b c, k = [a, b, c] := list3 h
def mapL : List (List Int × Nat) → Nat → List MapEntry
 | [], _ => []
 | x :: t, i => { key := intsV x.1, val := .int .i64 x.2, born := i } :: mapL t (i + 1)
theorem mapL_get : ∀ (ms : List (List Int × Nat)) (j i : Nat), (mapL ms j)[i]? = ms[i]?.map fun x => { key := intsV x.1, val := .int .i64 x.2, born := j + i }
 | [], j, i => by simp [mapL]
 | x :: ms, j, 0 => by simp [mapL]
 | x :: ms, j, i + 1 => by
  rw [mapL, List.getElem?_cons_succ, mapL_get ms (j + 1) i, List.getElem?_cons_succ]
  congr 1
  funext y
  congr 1
  omega
theorem mapL_len (ms : List (List Int × Nat)) (j : Nat) : (mapL ms j).length = ms.length := by
 induction ms generalizing j with
 | nil => rfl
 | cons x ms ih => rw [mapL, List.length_cons, List.length_cons, ih]
theorem mapL_snoc (ms : List (List Int × Nat)) (x : List Int × Nat) (j : Nat) : mapL (ms ++ [x]) j = mapL ms j ++ [{ key := intsV x.1, val := .int .i64 x.2, born := j + ms.length }] := by
 induction ms generalizing j with
 | nil => rfl
 | cons y ms ih =>
  rw [List.cons_append, mapL, ih, mapL, List.cons_append, List.length_cons]
  congr 4
  omega
theorem mapL_set (ms : List (List Int × Nat)) (i c : Nat) : (mapL ms 0).modify i (fun e => { e with val := .int .i64 c }) = mapL (ms.modify i fun x => (x.1, c)) 0 := by
 apply List.ext_getElem?
 intro j
 rw [List.getElem?_modify, mapL_get, mapL_get, List.getElem?_modify]
 cases ms[j]? with
 | none => rfl
 | some x =>
  simp only [Option.map_some, Option.map_eq_map]
  split <;> rfl
def mapE (ms : List (List Int × Nat)) : Array MapEntry := (mapL ms 0).toArray
theorem mapE_get {ms : List (List Int × Nat)} {i : Nat} {x : List Int × Nat} (h : ms[i]? = some x) : (mapE ms)[i]? = some { key := intsV x.1, val := .int .i64 x.2, born := i } := by
 unfold mapE
 rw [List.getElem?_toArray, mapL_get, h]
 simp
theorem mapE_push (ms : List (List Int × Nat)) (k : List Int) : (mapE ms).push { key := intsV k, val := .int .i64 0, born := ms.length } = mapE (ms ++ [(k, 0)]) := by
 unfold mapE
 rw [mapL_snoc, List.push_toArray]
 simp
theorem mapE_set (ms : List (List Int × Nat)) (i c : Nat) : (mapE ms).modify i (fun e => { e with val := .int .i64 c }) = mapE (ms.modify i fun x => (x.1, c)) := by
 unfold mapE
 rw [← mapL_set]
 apply Array.ext_getElem?
 intro j
 rw [Array.getElem?_modify, List.getElem?_toArray, List.getElem?_toArray, List.getElem?_modify]
 split
 ·rename_i h; subst h; simp
 ·rename_i h
  cases (mapL ms 0)[j]? <;> rfl
theorem mapE_born {ms : List (List Int × Nat)} {i : Nat} (h : i < ms.length) : (mapE ms).findIdx? (fun e => (e.born : Int) == (i : Int)) = some i := by
 unfold mapE
 rw [List.findIdx?_toArray, List.findIdx?_eq_some_iff_getElem]
 have hg : ∀ (j : Nat) (hj : j < (mapL ms 0).length), (mapL ms 0)[j].born = j := fun j hj => by
  have := mapL_get ms 0 j
  rw [List.getElem?_eq_getElem hj, List.getElem?_eq_getElem (by rw [mapL_len] at hj; exact hj)] at this
  have := Option.some.inj this
  rw [this]
  simp
 refine ⟨by rw [mapL_len]; exact h, by rw [hg]; simp, fun j hj => ?_⟩
 rw [hg]
 simp
 omega
theorem mapE_mem {ms : List (List Int × Nat)} {e : MapEntry} (h : e ∈ mapE ms) : ∃ x, ms[e.born]? = some x ∧ e.val = .int .i64 x.2 ∧ (mapE ms).find? (·.born == e.born) = some e := by
 unfold mapE at h ⊢
 rw [List.mem_toArray] at h
 obtain ⟨i, hi⟩ := List.mem_iff_getElem?.1 h
 have hi' := hi
 rw [mapL_get] at hi
 rw [Option.map_eq_some_iff] at hi
 obtain ⟨x, hx, rfl⟩ := hi
 simp only [Nat.zero_add] at hi' ⊢
 refine ⟨x, hx, rfl, ?_⟩
 rw [List.find?_toArray, List.find?_eq_some_iff_getElem]
 refine ⟨by simp, i, by rw [mapL_len]; exact (List.getElem?_eq_some_iff.1 hx).1, ?_, fun j hj => ?_⟩
 ·have := (List.getElem?_eq_some_iff.1 hi').2
  exact this
 ·have hjl : j < (mapL ms 0).length := by rw [mapL_len]; have := (List.getElem?_eq_some_iff.1 hx).1; omega
  have := mapL_get ms 0 j
  rw [List.getElem?_eq_getElem hjl, List.getElem?_eq_getElem (by rw [mapL_len] at hjl; exact hjl)] at this
  have := Option.some.inj this
  rw [this]
  simp
  omega
def fndK (k : List Int) : List (List Int × Nat) → Nat → Option (Nat × Value)
 | [], _ => none
 | x :: t, i => if k = x.1 then some (i, .int .i64 x.2) else fndK k t (i + 1)
theorem fndK_some {k : List Int} : ∀ {ms : List (List Int × Nat)} {i n : Nat} {v : Value}, fndK k ms i = some (n, v) → ∃ x, i ≤ n ∧ ms[n - i]? = some x ∧ x.1 = k ∧ v = .int .i64 x.2
 | [], i, n, v, h => by cases h
 | x :: ms, i, n, v, h => by
  rw [fndK] at h
  split at h
  ·rename_i e
   cases h
   exact ⟨x, Nat.le_refl _, by simp, e.symm, rfl⟩
  ·obtain ⟨y, h1, h2, h3, h4⟩ := fndK_some h
   refine ⟨y, by omega, ?_, h3, h4⟩
   rw [show n - i = (n - (i + 1)) + 1 by omega, List.getElem?_cons_succ]
   exact h2
theorem findA {k : List Int} (hk : k.length = 3) : ∀ (ms : List (List Int × Nat)) (j i : Nat), (∀ x ∈ ms, x.1.length = 3) → ∀ (Q : Option (Nat × Value) → LH → Prop) (H : Value → LH → Prop) (R : LH), wpS Tryz.prog Q H (Instr.findAsking 99 (intsV k) (mapL ms j) i) R = Q (fndK k ms i) R
 | [], j, i, _, Q, H, R => rfl
 | x :: ms, j, i, h, Q, H, R => by
  have ih := findA hk ms (j + 1) (i + 1) (fun y hy => h y (List.mem_cons_of_mem _ hy)) Q H R
  obtain ⟨a, b, c, rfl⟩ := ints3 hk
  obtain ⟨a', b', c', e⟩ := ints3 (h x List.mem_cons_self)
  rw [mapL, Instr.findAsking, wpS_bind, e]
  show wpS Tryz.prog _ H (Op.equalIn (9997 + 3) 99 _ _) R = _
  rw [eq99, fndK, e]
  by_cases hq : ([a, b, c] : List Int) = [a', b', c']
  ·rw [if_pos hq]
   simp only [List.cons.injEq, and_true] at hq
   obtain ⟨rfl, rfl, rfl⟩ := hq
   simp only [BEq.rfl, Bool.and_self, if_true]
   rfl
  ·rw [if_neg hq, ← ih]
   have : ((a == a') && ((b == b') && (c == c'))) = false := by
    rw [← Bool.not_eq_true]
    intro hh
    simp only [Bool.and_eq_true, beq_iff_eq] at hh
    exact hq (by rw [hh.1, hh.2.1, hh.2.2])
   rw [this]
   simp only [Bool.false_eq_true, if_false]
theorem findM {k : List Int} (hk : k.length = 3) (ms : List (List Int × Nat)) (h : ∀ x ∈ ms, x.1.length = 3) (Q : Option (Nat × Value) → LH → Prop) (H : Value → LH → Prop) (R : LH) : wpS Tryz.prog Q H (Instr.findKey 99 (intsV k) (mapE ms).toList) R = Q (fndK k ms 0) R := by
 unfold Instr.findKey mapE
 rw [wpS_bind, wpS_underlying Tryz.underlying99]
 cases ms with
 | nil => rfl
 | cons x ms => exact findA hk (x :: ms) 0 0 h Q H R
end Go.Mz


set_option maxRecDepth 100000
namespace Go.Mz
open Go.Conc Go.Proofs
variable {Post : Value → World → Prop} {W0 : World}
def candU (s : Sw) (k : Nat) : List Cr := ((firstsW s k).filterMap id).filter fun c => payW s c.w == payW s (crWants (bestW s fun _ => true))
theorem candU_none {s : Sw} {k : Nat} (h : crushW s (bits5 k) = none) : candU s (k + 1) = candU s k := by
 unfold candU; rw [firstsW_succ, h, List.filterMap_append]; simp
theorem candU_no {s : Sw} {k : Nat} {c : Cr} (h : crushW s (bits5 k) = some c) (hp : payW s c.w ≠ payW s (crWants (bestW s fun _ => true))) : candU s (k + 1) = candU s k := by
 unfold candU; rw [firstsW_succ, h, List.filterMap_append, List.filter_append]; simp [hp]
theorem candU_yes {s : Sw} {k : Nat} {c : Cr} (h : crushW s (bits5 k) = some c) (hp : payW s c.w = payW s (crWants (bestW s fun _ => true))) : candU s (k + 1) = candU s k ++ [c] := by
 unfold candU; rw [firstsW_succ, h, List.filterMap_append, List.filter_append]; simp [hp]
theorem candU_len (s : Sw) (k : Nat) : (candU s k).length ≤ k := by
 unfold candU
 refine Nat.le_trans (List.length_filter_le _ _) (Nat.le_trans (List.length_filterMap_le _ _) ?_)
 unfold firstsW
 simp
structure CntM (s : Sw) (i k : Nat) (ms : List (List Int × Nat)) : Prop where
 k3 : ∀ x ∈ ms, x.1.length = 3
 ln : ms.length ≤ k
 sm : sumC ms = (candU s k).countP fun c => c.w.contains i
theorem sumC_le {ms : List (List Int × Nat)} {i : Nat} {x : List Int × Nat} (h : ms[i]? = some x) : x.2 ≤ sumC ms := by
 have hm := List.mem_of_getElem? h
 unfold sumC
 have : ∀ (l : List Nat) (y : Nat), y ∈ l → y ≤ l.sum := fun l y hy => by
  induction l with
  | nil => cases hy
  | cons z l ih =>
   rw [List.sum_cons]
   rcases List.mem_cons.1 hy with rfl | hy
   ·omega
   ·have := ih hy; omega
 exact this _ _ (List.mem_map.2 ⟨x, hm, rfl⟩)
theorem CntM.le {s : Sw} {i k : Nat} {ms : List (List Int × Nat)} (h : CntM s i k ms) : sumC ms ≤ k := by
 rw [h.sm]
 exact Nat.le_trans List.countP_le_length (candU_len s k)
theorem CntM.old {s : Sw} {i k n : Nat} {ms : List (List Int × Nat)} (h : CntM s i k ms) {c : Cr} (hc : candU s (k + 1) = candU s k ++ [c]) (hi : c.w.contains i = true) (hn : n < ms.length) : CntM s i (k + 1) (ms.modify n fun x => (x.1, x.2 + 1)) := by
 refine ⟨fun x hx => ?_, by rw [List.length_modify]; have := h.ln; omega, ?_⟩
 ·obtain ⟨j, hj, rfl⟩ := List.getElem_of_mem hx
  rw [List.length_modify] at hj
  rw [List.getElem_modify]
  have := h.k3 _ (List.getElem_mem hj)
  split <;> exact this
 ·have := sumC_at hn
  unfold cntAt at this
  rw [this, h.sm, hc, List.countP_append, List.countP_singleton, if_pos hi]
theorem CntM.new {s : Sw} {i k : Nat} {ms : List (List Int × Nat)} (h : CntM s i k ms) {c : Cr} (hc : candU s (k + 1) = candU s k ++ [c]) (hi : c.w.contains i = true) {q : List Int} (hq : q.length = 3) : CntM s i (k + 1) ((ms ++ [(q, 0)]).modify ms.length fun x => (x.1, x.2 + 1)) := by
 refine ⟨fun x hx => ?_, by rw [List.length_modify, List.length_append, List.length_singleton]; have := h.ln; omega, ?_⟩
 ·obtain ⟨j, hj, rfl⟩ := List.getElem_of_mem hx
  rw [List.length_modify] at hj
  rw [List.getElem_modify]
  have : ((ms ++ [(q, 0)])[j]).1.length = 3 := by
   rcases List.mem_append.1 (List.getElem_mem hj) with hm | hm
   ·exact h.k3 _ hm
   ·rw [List.mem_singleton.1 hm]; exact hq
  split <;> exact this
 ·have := sumC_at (ms := ms ++ [(q, 0)]) (i := ms.length) (by simp)
  unfold cntAt at this
  rw [this, sumC_new, h.sm, hc, List.countP_append, List.countP_singleton, if_pos hi]
theorem CntM.no {s : Sw} {i k : Nat} {ms : List (List Int × Nat)} (h : CntM s i k ms) {c : Cr} (hc : candU s (k + 1) = candU s k ++ [c]) (hi : c.w.contains i = false) : CntM s i (k + 1) ms :=
 ⟨h.k3, Nat.le_succ_of_le h.ln, by rw [h.sm, hc, List.countP_append, List.countP_singleton, if_neg (by rw [hi]; decide)]; omega⟩
theorem fndK_new {k : List Int} : ∀ {ms : List (List Int × Nat)} {i : Nat}, fndK k ms i = none → fndK k (ms ++ [(k, 0)]) i = some (i + ms.length, .int .i64 0)
 | [], i, _ => by simp [fndK]
 | x :: ms, i, h => by
  rw [fndK] at h
  split at h
  ·cases h
  ·rename_i hne
   rw [List.cons_append, fndK, if_neg hne, fndK_new h, List.length_cons]
   congr 2
   omega
theorem modify_at {ms : List (List Int × Nat)} {n : Nat} {x : List Int × Nat} (h : ms[n]? = some x) : (ms.modify n fun y => (y.1, x.2 + 1)) = ms.modify n fun y => (y.1, y.2 + 1) := by
 apply List.ext_getElem?
 intro j
 rw [List.getElem?_modify, List.getElem?_modify]
 by_cases e : n = j
 ·subst e; rw [h]; simp
 ·simp [e]
theorem Verdict_sp (s : Sw) (p : Wp) (n : Int) (L : LH) (h : SwAt L s p) (hn : Sm s) : Sp (LFGo Tryz.prog Post W0) 59 [swA s p, .int .i64 n] L (fun v L' => v = .tuple #[.int .i64 (VerdW s n).1, .int .i64 (VerdW s n).2] ∧ Dim L L') := by
 refine Sp.enter (n := 80) Tryz.func59 rfl rfl rfl rfl fun C hX _ hL0 r => ?_
 refine W.go 99 rfl ?_
 refine W.pub 19 (.inr ⟨_, _, _, rfl⟩) rfl rfl ?_
 intro b12 hb12 _
 have f1 := Le.put hb12 (.cells #[.int .i64 n] 3)
 have g1 := put_same L b12 (.cells #[.int .i64 n] 3)
 change W _ _ _ _ _ _ (L.put b12 (.cells #[.int .i64 n] 3))
 generalize L.put b12 (.cells #[.int .i64 n] 3) = L1 at f1 g1 ⊢
 refine W.eff rfl rfl rfl (Ef.call rfl (open_sp s p none (some ⟨b12, 0, none⟩) 0 1 [] [n] L1 (h.le f1) hn SlAt.empty (ints1 g1) (by simp) (by simp))) ?_
 rintro _ _ _ ⟨v0, rfl, rfl, hle, hq⟩
 rename_i L2
 have hl2 := f1.trans hle
 rcases hq with ⟨he, rfl⟩ | ⟨he, rfl⟩
 ·refine W.go 99 rfl ?_
  refine W.split rfl rfl rfl (fun e1 => W.go 99 rfl ?_) (fun e1 => W.go 99 rfl ?_)
  ·refine W.ret r rfl rfl ?_
   have : VerdW s n = (0, openW s [] [n]) := by unfold VerdW; rw [if_pos he]
   rw [this]
   exact ⟨rfl, Dim.of_le hl2⟩
  ·simp at e1; exact absurd e1 he
 have hSE : VerdW s n = (verdW s n.toNat, 0) := by unfold VerdW; rw [if_neg (by simp [he])]
 rw [hSE] at r
 obtain ⟨h0, _, hk⟩ := openW_0 he
 have hok := sawE_0 h0
 have hk := hk n (by simp)
 have hw5 := hok.w5
 have h5 := pow5 hok
 obtain ⟨i, rfl⟩ : ∃ i : Nat, n = (i : Int) := ⟨n.toNat, by omega⟩
 have hi : i < s.wants.length := by omega
 rw [Int.toNat_natCast] at r
 refine W.go 99 rfl ?_
 refine W.split rfl rfl rfl (fun e1 => ?_) (fun e1 => ?_)
 ·simp at e1
 refine W.weak (E' := [(1, .v (.int .i64 i)), (6, .p 2 0), (24, .lit false)]) (B' := [some ⟨cellsS (.v (swA s p)), 26⟩, none, some ⟨cellsS (.v (swA s p)), 83⟩]) (by exact ⟨rfl, rfl, rfl, trivial⟩) (by exact ⟨rfl, rfl, rfl, trivial⟩) ?_
 refine W.go 99 rfl ?_
 refine W.drawn (by kernel_rfl) LH.nil (fun _ _ h => by cases h) ?_
 refine DD.run' [0, 1] rfl ?_
 have hb2 := best0_sp (Post := Post) (W0 := W0) s p L2 (h.le hl2) hok
 rw [← hX] at hb2
 refine DD.act 2 rfl rfl rfl rfl rfl (Ef.call rfl (hb2)) ((by rintro _ _ _ ⟨_, rfl, rfl, _, _, _, rfl, _⟩; exact ⟨(fun _ _ h => by cases h), rfl, .inl rfl⟩)) ?_
 rintro _ _ _ ⟨v2, rfl, rfl, gv2, y2, sm2, rfl, hbe2, hd2⟩
 have hyw2 := hbe2.wn hok
 have hd3 := (Dim.of_le hl2).trans hd2
 refine DD.vf 3 rfl rfl rfl rfl rfl (Vf.fieldN (cs := fsF gv2 :: (encC y2 ++ [Value.bool sm2])) (ds := encC y2) rfl rfl Tryz.underlying112 rfl agg101 size101 rfl) ?_
 refine DD.vf 4 rfl rfl rfl rfl rfl (Vf.field1 (cs := encC y2) rfl rfl Tryz.underlying101 rfl agg95 rfl) ?_
 refine DD.act 5 rfl rfl rfl rfl rfl (Ef.call rfl (pay_sp s p y2.w _ (hd3.sw h) hok hyw2.1 hyw2.2)) ((by rintro _ _ _ ⟨_, rfl, rfl, rfl, hl⟩; exact ⟨(fun _ _ h => by cases h), rfl, .inl rfl⟩)) ?_
 rintro _ _ _ ⟨v3, rfl, rfl, rfl, hl6⟩
 refine DD.run' [6] rfl ?_
 refine .fin rfl ?_
 refine W.go 99 rfl ?_
 rename_i L4
 have hd4 := hd3.trans (Dim.of_le hl6)
 have hmw : payW s (bits5 y2.w) = payW s (crWants (bestW s fun _ => true)) := by rw [hbe2.wants]
 rw [hmw]
 refine W.eff rfl rfl rfl (Ef.makeMap) ?_
 rintro _ _ _ ⟨r0, rfl, rfl, hr0, rfl⟩
 have hmr0 : ∀ o, Le L4 ((L4.put r0 o).less [r0]) := fun o b x hx => by
  have hb : b ≠ r0 := fun e => by subst e; rw [hr0] at hx; cases hx
  rw [less_get (by simpa using hb), put_ne _ _ hb]; exact hx
 have hal := (all_sp (Post := Post) (W0 := W0) s p ((L4.put r0 (.map #[] 0)).less [r0]) ((hd4.sw h).le (hmr0 _)) hok).frame (less_le (L4.put r0 (.map #[] 0)) [r0])
 rw [← hX] at hal
 refine W.go 99 rfl ?_
 refine W.eff rfl rfl rfl (Ef.call rfl (hal)) ?_
 rintro _ _ _ ⟨v1, rfl, rfl, L5, ⟨bn, rfl, ho, hd5⟩, hpo⟩
 rename_i L6
 have hmr : L6 r0 = some (.map #[] 0, true) := hpo.keep r0 _ (by unfold LH.less; rw [if_pos (by simp)]) (put_same _ _ _)
 have h5r : L5 r0 = none := by
  cases hx : L5 r0 with
  | none => rfl
  | some x =>
   rcases hpo.fresh r0 (by rw [hx]; simp) with e | e
   ·exact absurd (by unfold LH.less; rw [if_pos (by simp)]) e
   ·rw [put_same] at e; cases e
 have hd5 : Dim L L5 := hd4.trans ((Dim.of_le (hmr0 _)).trans hd5)
 have hs5 := hd5.sw h
 clear hal hb2
 generalize hM : payW s (crWants (bestW s fun _ => true)) = M
 have hcn := fun k => candU_none (s := s) (k := k)
 refine W.go 99 rfl ?_
 refine W.loop (fun m E B L' => ∃ (k : Nat) (ms : List (List Int × Nat)), m = 2 ^ s.wants.length - k ∧ k ≤ 2 ^ s.wants.length ∧ CntM s i k ms ∧ Le L5 L' ∧ L' r0 = some (.map (mapE ms) ms.length, true) ∧
   E = [(1, .v (.int .i64 i)), (6, .p 2 0), (8, .v (.int .i64 M)), (9, .v (.map (some r0))), (10, .v (.int .i64 ((candU s k).length : Nat))), (11, .v (.int .i64 0)), (34, .v (.slice (some ⟨bn, 0, none⟩) (2 ^ s.wants.length) (2 ^ s.wants.length))), (35, .v (.int .i64 ((2 ^ s.wants.length : Nat) : Int))), (36, .v (.int .i64 k))] ∧ B = [some ⟨cellsS (.v (swA s p)), 26⟩, none, some ⟨cellsS (.v (swA s p)), 83⟩])
  ⟨0, [], rfl, Nat.zero_le _, ⟨(fun x hx => by cases hx), Nat.le_refl _, rfl⟩, hpo.le, hmr, rfl, rfl⟩ (by exact ⟨rfl, rfl, rfl, rfl, rfl, rfl, rfl, rfl, rfl, trivial⟩) (by exact ⟨rfl, rfl, rfl, trivial⟩) ?_
 rintro _ _ _ L7 ⟨k, ms, rfl, hk8, hcm, hl7, hr7, rfl, rfl⟩ again
 have hcl := candU_len s k
 refine W.go 99 rfl ?_
 refine W.split rfl rfl rfl (fun e2 => W.go 99 rfl ?_) (fun e2 => W.go 99 rfl ?_)
 ·have hk2 : k < 2 ^ s.wants.length := Int.ofNat_lt.1 (of_decide_eq_true e2)
  have hgk : (outs s)[k]? = some (found s k) := by unfold outs; rw [List.getElem?_map, List.getElem?_range hk2]; rfl
  refine W.vf rfl rfl rfl rfl (Vf.idx rfl rfl rfl rfl rfl rfl (hk2)) ?_
  cases hc : crushW s (bits5 k) with
  | none =>
   have hfe : found s k = ⟨k, 0, 0, 0, 0, 0, false⟩ := by unfold found; rw [hc]; rfl
   rw [hfe] at hgk
   refine W.vf rfl rfl rfl rfl (Vf.loadN rfl rfl rfl ((ho.le hl7).whole hgk rfl)) ?_
   refine W.go 99 rfl ?_
   refine W.asLit 43 (p := true) rfl rfl ?_
   refine W.go 99 rfl ?_
   exact W.again (again _ _ _ _ (by omega) ⟨k + 1, ms, rfl, by omega, ⟨hcm.k3, Nat.le_succ_of_le hcm.ln, by rw [hcn _ hc]; exact hcm.sm⟩, hl7, hr7, by rw [hcn _ hc], rfl⟩) (by exact ⟨rfl, rfl, rfl, rfl, rfl, rfl, rfl, rfl, congrArg some (inc64 (by omega)), trivial⟩) (by exact ⟨rfl, rfl, rfl, trivial⟩)
  | some c =>
   have hcw := (crushW_some hc).1
   rw [found_some hc] at hgk
   refine W.vf rfl rfl rfl rfl (Vf.loadN rfl rfl rfl ((ho.le hl7).whole hgk rfl)) ?_
   refine W.go 99 rfl ?_
   refine W.asLit 43 (p := false) rfl rfl ?_
   refine W.go 99 rfl ?_
   have hpk := pay_sp (X := C.X) s p k L7 (hs5.le hl7) hok (by omega) (bits_wn hk2)
   refine W.eff rfl rfl rfl (Ef.call rfl (hpk)) ?_
   rintro _ _ _ ⟨_, rfl, rfl, rfl, hl8⟩
   rename_i L8
   have hr8 := hl8 _ _ hr7
   have hl58 := hl7.trans hl8
   refine W.go 99 rfl ?_
   refine W.split rfl rfl rfl (fun e3 => W.go 99 rfl ?_) (fun e3 => W.go 99 rfl ?_)
   ·have hne : payW s c.w ≠ payW s (crWants (bestW s fun _ => true)) := by rw [hM, hcw]; simpa using e3
    have hno := candU_no hc hne
    exact W.again (again _ _ _ _ (by omega) ⟨k + 1, ms, rfl, by omega, ⟨hcm.k3, Nat.le_succ_of_le hcm.ln, by rw [hno]; exact hcm.sm⟩, hl58, hr8, by rw [hno], rfl⟩) (by exact ⟨rfl, rfl, rfl, rfl, rfl, rfl, rfl, rfl, congrArg some (inc64 (by omega)), trivial⟩) (by exact ⟨rfl, rfl, rfl, trivial⟩)
   have heq : payW s c.w = payW s (crWants (bestW s fun _ => true)) := by rw [hM, hcw]; simpa using e3
   have hyes := candU_yes hc heq
   refine W.eff rfl rfl rfl (Ef.call rfl (has_sp k i (by omega) (by omega) L8)) ?_
   rintro _ _ _ ⟨_, rfl, rfl, rfl, rfl⟩
   refine W.go 99 rfl ?_
   have hin : (bits5 k).contains i = k.testBit i := contains_bits k i (by omega)
   refine W.split rfl rfl rfl (fun e4 => ?_) (fun e4 => ?_)
   ·have hci : c.w.contains i = true := by rw [hcw, hin]; exact e4
    have hput : ∀ o, Le L5 (L8.put r0 o) := fun o b x hx => by
     rw [put_ne _ _ (fun e => by subst e; rw [h5r] at hx; cases hx)]; exact hl58 _ _ hx
    have hfm := findM (k := [c.l.getD 0 0, c.l.getD 1 0, c.l.getD 2 0]) rfl ms hcm.k3
    have hmle := hcm.le
    refine W.go 99 rfl ?_
    refine W.drawn (by kernel_rfl) L5 hl58 ?_
    refine DD.run' [0, 1, 2] rfl ?_
    have hput2 : ∀ o o', Le L5 ((L8.put r0 o).put r0 o') := fun o o' b x hx => by
     rw [put_ne _ _ (fun e => by subst e; rw [h5r] at hx; cases hx)]; exact hput o _ _ hx
    have hput3 : ∀ o o' o'', Le L5 (((L8.put r0 o).put r0 o').put r0 o'') := fun o o' o'' b x hx => by
     rw [put_ne _ _ (fun e => by subst e; rw [h5r] at hx; cases hx)]; exact hput2 o o' _ _ hx
    cases hres : fndK [c.l.getD 0 0, c.l.getD 1 0, c.l.getD 2 0] ms 0 with
    | none =>
     rw [hres] at hfm
     have hnew := hcm.new hyes hci (q := [c.l.getD 0 0, c.l.getD 1 0, c.l.getD 2 0]) rfl
     have hms1 : ∀ x ∈ ms ++ [([c.l.getD 0 0, c.l.getD 1 0, c.l.getD 2 0], 0)], x.1.length = 3 := fun x hx => by
      rcases List.mem_append.1 hx with hx | hx
      ·exact hcm.k3 x hx
      ·rw [List.mem_singleton.1 hx]; rfl
     have hfm1 := findM (k := [c.l.getD 0 0, c.l.getD 1 0, c.l.getD 2 0]) rfl (ms ++ [([c.l.getD 0 0, c.l.getD 1 0, c.l.getD 2 0], 0)]) hms1
     rw [fndK_new hres, Nat.zero_add] at hfm1
     have hx1 : (ms ++ [([c.l.getD 0 0, c.l.getD 1 0, c.l.getD 2 0], 0)])[ms.length]? = some ([c.l.getD 0 0, c.l.getD 1 0, c.l.getD 2 0], 0) := by simp
     have hlen : ms.length < (ms ++ [([c.l.getD 0 0, c.l.getD 1 0, c.l.getD 2 0], 0)]).length := by simp
     have hbn := mapE_born hlen
     have hmd := modify_at hx1
     have hl1 : (ms ++ [([c.l.getD 0 0, c.l.getD 1 0, c.l.getD 2 0], 0)]).length = ms.length + 1 := by simp
     have hl2 : ((ms ++ [([c.l.getD 0 0, c.l.getD 1 0, c.l.getD 2 0], 0)]).modify ms.length fun y => (y.1, y.2 + 1)).length = ms.length + 1 := by simp
     refine DD.act2 3 5 rfl rfl rfl rfl rfl rfl rfl rfl (Ef.val rfl (Vf.lookup1 (kv := intsV [c.l.getD 0 0, c.l.getD 1 0, c.l.getD 2 0]) rfl rfl rfl Tryz.underlying131 hr8 zero3 (key99 (a := c.l.getD 0 0) (b := c.l.getD 1 0) (c := c.l.getD 2 0)) hfm)) (Ef.entryNew (kv := intsV [c.l.getD 0 0, c.l.getD 1 0, c.l.getD 2 0]) rfl rfl rfl Tryz.underlying131 zero3 hr8 (key99 (a := c.l.getD 0 0) (b := c.l.getD 1 0) (c := c.l.getD 2 0)) hfm) (by rintro _ _ _ ⟨rfl, rfl, rfl⟩; exact ⟨hl58, rfl, .inl rfl⟩) (by rintro _ _ _ ⟨rfl, rfl, rfl⟩; exact ⟨hput _, rfl, .inl rfl⟩) ?_ ?_
     ·rintro _ _ _ ⟨rfl, rfl, rfl⟩
      refine DD.run' [4] rfl ?_
      refine DD.act 5 rfl rfl rfl rfl rfl (Ef.entryNew (kv := intsV [c.l.getD 0 0, c.l.getD 1 0, c.l.getD 2 0]) rfl rfl rfl Tryz.underlying131 zero3 hr8 (key99 (a := c.l.getD 0 0) (b := c.l.getD 1 0) (c := c.l.getD 2 0)) hfm) ((by rintro _ _ _ ⟨rfl, rfl, rfl⟩; exact ⟨hput _, rfl, .inl rfl⟩)) ?_
      rintro _ _ _ ⟨rfl, rfl, rfl⟩
      rw [mapE_push]
      refine DD.run' [6] rfl ?_
      refine DD.act 7 rfl rfl rfl rfl rfl (Ef.entryStore rfl rfl rfl rfl (put_same _ _ _) hbn) ((by rintro _ _ _ ⟨rfl, rfl, rfl⟩; exact ⟨hput2 _ _, rfl, .inl rfl⟩)) ?_
      rintro _ _ _ ⟨rfl, rfl, rfl⟩
      refine .fin rfl ?_
      refine W.go 99 rfl ?_
      exact W.again (again _ _ _ _ (by omega) ⟨k + 1, _, rfl, by omega, hnew, hput2 _ _, (by rw [put_same, hl2, ← hmd, ← mapE_set]; rfl), by rw [hyes, List.length_append, List.length_singleton], rfl⟩) (by exact ⟨rfl, rfl, rfl, rfl, congrArg some (inc64 (by omega)), rfl, rfl, rfl, congrArg some (inc64 (by omega)), trivial⟩) (by exact ⟨rfl, rfl, rfl, trivial⟩)
     ·rintro _ _ _ ⟨rfl, rfl, rfl⟩
      rw [mapE_push]
      refine DD.run' [6] rfl ?_
      refine DD.act 3 rfl rfl rfl rfl rfl (Ef.val rfl (Vf.lookup1 (kv := intsV [c.l.getD 0 0, c.l.getD 1 0, c.l.getD 2 0]) rfl rfl rfl Tryz.underlying131 (put_same _ _ _) zero3 (key99 (a := c.l.getD 0 0) (b := c.l.getD 1 0) (c := c.l.getD 2 0)) hfm1)) (by rintro _ _ _ ⟨rfl, rfl, rfl⟩; exact ⟨hput _, rfl, .inl rfl⟩) ?_
      rintro _ _ _ ⟨rfl, rfl, rfl⟩
      refine DD.run' [4] rfl ?_
      refine DD.act 7 rfl rfl rfl rfl rfl (Ef.entryStore rfl rfl rfl rfl (put_same _ _ _) hbn) ((by rintro _ _ _ ⟨rfl, rfl, rfl⟩; exact ⟨hput2 _ _, rfl, .inl rfl⟩)) ?_
      rintro _ _ _ ⟨rfl, rfl, rfl⟩
      refine .fin rfl ?_
      refine W.go 99 rfl ?_
      exact W.again (again _ _ _ _ (by omega) ⟨k + 1, _, rfl, by omega, hnew, hput2 _ _, (by rw [put_same, hl2, ← hmd, ← mapE_set]; rfl), by rw [hyes, List.length_append, List.length_singleton], rfl⟩) (by exact ⟨rfl, rfl, rfl, rfl, congrArg some (inc64 (by omega)), rfl, rfl, rfl, congrArg some (inc64 (by omega)), trivial⟩) (by exact ⟨rfl, rfl, rfl, trivial⟩)
    | some q =>
     obtain ⟨n, v⟩ := q
     rw [hres] at hfm
     obtain ⟨x, _, hx, hxk, rfl⟩ := fndK_some hres
     rw [Nat.sub_zero] at hx
     have hnl : n < ms.length := (List.getElem?_eq_some_iff.1 hx).1
     have hold := hcm.old hyes hci hnl
     have hxs := sumC_le hx
     have hbn := mapE_born hnl
     have hmd := modify_at hx
     have hl2 : (ms.modify n fun y => (y.1, y.2 + 1)).length = ms.length := by simp
     have hge := mapE_get hx
     have hkk : ({ key := intsV x.1, val := .int .i64 x.2, born := n } : MapEntry).key = intsV [c.l.getD 0 0, c.l.getD 1 0, c.l.getD 2 0] := by rw [hxk]
     refine DD.act2 3 5 rfl rfl rfl rfl rfl rfl rfl rfl (Ef.val rfl (Vf.lookup1 (kv := intsV [c.l.getD 0 0, c.l.getD 1 0, c.l.getD 2 0]) rfl rfl rfl Tryz.underlying131 hr8 zero3 (key99 (a := c.l.getD 0 0) (b := c.l.getD 1 0) (c := c.l.getD 2 0)) hfm)) (Ef.entryOld (kv := intsV [c.l.getD 0 0, c.l.getD 1 0, c.l.getD 2 0]) rfl rfl rfl Tryz.underlying131 hr8 hge hkk (bits99 _ _ _) (key99 (a := c.l.getD 0 0) (b := c.l.getD 1 0) (c := c.l.getD 2 0)) hfm) (by rintro _ _ _ ⟨rfl, rfl, rfl⟩; exact ⟨hl58, rfl, .inl rfl⟩) (by rintro _ _ _ ⟨rfl, rfl, rfl⟩; exact ⟨hput _, rfl, .inl rfl⟩) ?_ ?_
     ·rintro _ _ _ ⟨rfl, rfl, rfl⟩
      refine DD.run' [4] rfl ?_
      refine DD.act 5 rfl rfl rfl rfl rfl (Ef.entryOld (kv := intsV [c.l.getD 0 0, c.l.getD 1 0, c.l.getD 2 0]) rfl rfl rfl Tryz.underlying131 hr8 hge hkk (bits99 _ _ _) (key99 (a := c.l.getD 0 0) (b := c.l.getD 1 0) (c := c.l.getD 2 0)) hfm) ((by rintro _ _ _ ⟨rfl, rfl, rfl⟩; exact ⟨hput _, rfl, .inl rfl⟩)) ?_
      rintro _ _ _ ⟨rfl, rfl, rfl⟩
      refine DD.run' [6] rfl ?_
      refine DD.act 7 rfl rfl rfl rfl rfl (Ef.entryStore rfl rfl rfl rfl (put_same _ _ _) hbn) ((by rintro _ _ _ ⟨rfl, rfl, rfl⟩; exact ⟨hput2 _ _, rfl, .inl rfl⟩)) ?_
      rintro _ _ _ ⟨rfl, rfl, rfl⟩
      refine .fin rfl ?_
      refine W.go 99 rfl ?_
      exact W.again (again _ _ _ _ (by omega) ⟨k + 1, _, rfl, by omega, hold, hput2 _ _, (by rw [put_same, hl2, ← hmd, ← mapE_set]; exact congrArg (fun z => some (Obj.map ((mapE ms).modify n fun e => { e with val := .int .i64 z }) ms.length, true)) (nat1 (by omega))), by rw [hyes, List.length_append, List.length_singleton], rfl⟩) (by exact ⟨rfl, rfl, rfl, rfl, congrArg some (inc64 (by omega)), rfl, rfl, rfl, congrArg some (inc64 (by omega)), trivial⟩) (by exact ⟨rfl, rfl, rfl, trivial⟩)
     ·rintro _ _ _ ⟨rfl, rfl, rfl⟩
      refine DD.run' [6] rfl ?_
      refine DD.act 3 rfl rfl rfl rfl rfl (Ef.val rfl (Vf.lookup1 (kv := intsV [c.l.getD 0 0, c.l.getD 1 0, c.l.getD 2 0]) rfl rfl rfl Tryz.underlying131 (put_same _ _ _) zero3 (key99 (a := c.l.getD 0 0) (b := c.l.getD 1 0) (c := c.l.getD 2 0)) hfm)) (by rintro _ _ _ ⟨rfl, rfl, rfl⟩; exact ⟨hput _, rfl, .inl rfl⟩) ?_
      rintro _ _ _ ⟨rfl, rfl, rfl⟩
      refine DD.run' [4] rfl ?_
      refine DD.act 7 rfl rfl rfl rfl rfl (Ef.entryStore rfl rfl rfl rfl (put_same _ _ _) hbn) ((by rintro _ _ _ ⟨rfl, rfl, rfl⟩; exact ⟨hput2 _ _, rfl, .inl rfl⟩)) ?_
      rintro _ _ _ ⟨rfl, rfl, rfl⟩
      refine .fin rfl ?_
      refine W.go 99 rfl ?_
      exact W.again (again _ _ _ _ (by omega) ⟨k + 1, _, rfl, by omega, hold, hput2 _ _, (by rw [put_same, hl2, ← hmd, ← mapE_set]; exact congrArg (fun z => some (Obj.map ((mapE ms).modify n fun e => { e with val := .int .i64 z }) ms.length, true)) (nat1 (by omega))), by rw [hyes, List.length_append, List.length_singleton], rfl⟩) (by exact ⟨rfl, rfl, rfl, rfl, congrArg some (inc64 (by omega)), rfl, rfl, rfl, congrArg some (inc64 (by omega)), trivial⟩) (by exact ⟨rfl, rfl, rfl, trivial⟩)
   ·have hci : c.w.contains i = false := by rw [hcw, hin]; exact e4
    refine W.go 99 rfl ?_
    exact W.again (again _ _ _ _ (by omega) ⟨k + 1, ms, rfl, by omega, hcm.no hyes hci, hl58, hr8, by rw [hyes, List.length_append, List.length_singleton], rfl⟩) (by exact ⟨rfl, rfl, rfl, rfl, congrArg some (inc64 (by omega)), rfl, rfl, rfl, congrArg some (inc64 (by omega)), trivial⟩) (by exact ⟨rfl, rfl, rfl, trivial⟩)
 ·have hke : k = 2 ^ s.wants.length := by
   have : ¬ (k : Int) < ((2 ^ s.wants.length : Nat) : Int) := of_decide_eq_false e2
   have := mt Int.ofNat_lt.2 this
   omega
  subst hke
  have hcand : candU s (2 ^ s.wants.length) = ((allW s).filterMap id).filter fun c => payW s c.w == payW s (crWants (bestW s fun _ => true)) := rfl
  have hv := verd_cnt s i
  rw [← hcand, ← hcm.sm] at hv
  have hmle := hcm.le
  clear hcand again hcn
  refine W.eff rfl rfl rfl (Ef.range rfl Tryz.underlying131 hr7) ?_
  rintro _ _ _ ⟨q0, rfl, rfl, hq0, rfl⟩
  have hqr : r0 ≠ q0 := fun e => by subst e; rw [hr7] at hq0; cases hq0
  have h5q : L5 q0 = none := by
   cases hx : L5 q0 with
   | none => rfl
   | some x => rw [hl7 _ _ hx] at hq0; cases hq0
  have hput : ∀ {L' : LH} o, Le L5 L' → Le L5 (L'.put q0 o) := fun {L'} o hL b x hx => by
   rw [put_ne _ _ (fun e => by subst e; rw [h5q] at hx; cases hx)]; exact hL _ _ hx
  refine W.go 99 rfl ?_
  refine W.loop (fun m E B L' => ∃ (seen : Array Nat), m = ms.length - seen.size ∧ seen.toList.Nodup ∧ (∀ j ∈ seen.toList, j < ms.length) ∧ Le L5 L' ∧ L' r0 = some (.map (mapE ms) ms.length, true) ∧ L' q0 = some (.mapIter (some r0) ms.length seen ms.length, true) ∧
    E = [(10, .v (.int .i64 ((candU s (2 ^ s.wants.length)).length : Nat))), (11, .v (.int .i64 (seenC ms seen.toList : Nat))), (66, .v (.pointer (some ⟨q0, 0, none⟩)))] ∧ B = [])
   ⟨#[], rfl, by simp, (fun j hj => by simp at hj), hput _ hl7, by rw [put_ne _ _ hqr]; exact hr7, put_same _ _ _, rfl, rfl⟩ (by exact ⟨rfl, rfl, rfl, trivial⟩) (by exact trivial) ?_
  rintro _ _ _ L8 ⟨seen, rfl, hnd, hlt, hl8, hr8, hq8, rfl, rfl⟩ again
  have hborn : ∀ e ∈ mapE ms, e.born < ms.length ∧ e.born < ms.length := fun e he => by
   obtain ⟨x, hx, _⟩ := mapE_mem he
   have := (List.getElem?_eq_some_iff.1 hx).1
   exact ⟨this, this⟩
  refine W.go 99 rfl ?_
  refine W.eff rfl rfl rfl (Ef.next rfl hq8 hr8 hborn) ?_
  rintro _ _ _ ⟨rfl, hcase⟩
  rcases hcase with ⟨rfl, hall, rfl⟩ | ⟨e, he, hns, rfl, rfl⟩
  ·have hsum : seenC ms seen.toList = sumC ms := seenC_all hnd fun j => by
    refine ⟨hlt j, fun hj => ?_⟩
    have hm : (mapE ms)[j]? = some _ := mapE_get (List.getElem?_eq_getElem hj)
    have := hall _ (Array.mem_of_getElem? hm)
    simpa using this
   rw [hsum]
   refine W.go 99 rfl ?_
   refine W.split rfl rfl rfl (fun c => absurd c (by decide)) (fun c => ?_)
   refine W.go 99 rfl ?_
   refine W.split rfl rfl rfl (fun e3 => W.go 99 rfl ?_) (fun e3 => W.go 99 rfl ?_)
   ·have h0 : sumC ms = 0 := by have : ((sumC ms : Nat) : Int) = 0 := (by simpa using e3); omega
    refine W.ret r rfl rfl ?_
    rw [hv, if_pos h0]
    exact ⟨rfl, hd5.trans (Dim.of_le hl8)⟩
   have h0 : ¬ sumC ms = 0 := by have : ¬ ((sumC ms : Nat) : Int) = 0 := (by simpa using e3); omega
   rw [if_neg h0] at hv
   refine W.split rfl rfl rfl (fun e4 => W.go 99 rfl ?_) (fun e4 => W.go 99 rfl ?_)
   ·have h1 : sumC ms = (candU s (2 ^ s.wants.length)).length := by have : ((sumC ms : Nat) : Int) = ((candU s (2 ^ s.wants.length)).length : Nat) := (by simpa using e4); omega
    refine W.ret r rfl rfl ?_
    rw [hv, if_pos h1]
    exact ⟨rfl, hd5.trans (Dim.of_le hl8)⟩
   have h1 : ¬ sumC ms = (candU s (2 ^ s.wants.length)).length := by have : ¬ ((sumC ms : Nat) : Int) = ((candU s (2 ^ s.wants.length)).length : Nat) := (by simpa using e4); omega
   refine W.ret r rfl rfl ?_
   rw [hv, if_neg h1]
   exact ⟨rfl, hd5.trans (Dim.of_le hl8)⟩
  ·obtain ⟨x, hx, hxv, hfe⟩ := mapE_mem he
   obtain ⟨ek, ev, eb⟩ := e
   obtain rfl : ev = .int .i64 x.2 := hxv
   dsimp only at hx hfe hns
   have hxl := (List.getElem?_eq_some_iff.1 hx).1
   have hnew : eb ∉ seen.toList := fun hm => by
    have : seen.contains eb = true := by simpa using hm
    rw [this] at hns; cases hns
   have hnd2 : (seen.push eb).toList.Nodup := by
    rw [Array.toList_push, List.nodup_append]
    exact ⟨hnd, by simp, fun a ha b hb => by rw [List.mem_singleton.1 hb]; exact fun e => hnew (e ▸ ha)⟩
   have hlt2 : ∀ j ∈ (seen.push eb).toList, j < ms.length := fun j hj => by
    rw [Array.toList_push] at hj
    rcases List.mem_append.1 hj with h | h
    ·exact hlt j h
    ·rw [List.mem_singleton.1 h]; exact hxl
   have hsz := seenC_le hnd2 hlt2
   rw [Array.toList_push, List.length_append, List.length_singleton, Array.length_toList] at hsz
   have hle1 := seenC_bd (ms := ms) (B := 32) (fun y hy => by obtain ⟨j, hj⟩ := List.mem_iff_getElem?.1 hy; have := sumC_le hj; omega) seen.toList
   have hxs := sumC_le hx
   have hln := hcm.ln
   rw [Array.length_toList] at hle1
   have hle3 : seen.size * 32 ≤ 32 * 32 := Nat.mul_le_mul_right _ (by omega)
   refine W.go 99 rfl ?_
   refine W.split rfl rfl rfl (fun c => ?_) (fun c => absurd c (by decide))
   refine W.go 99 rfl ?_
   refine W.vf rfl rfl rfl rfl (Vf.entry (e := ⟨ek, .int .i64 x.2, eb⟩) rfl (put_same _ _ _) (by rw [put_ne _ _ hqr]; exact hr8) (by simp) hfe) ?_
   refine W.go 99 rfl ?_
   have hwr : IntKind.i64.wrap (((seenC ms seen.toList : Nat) : Int) + ((x.2 : Nat) : Int)) = ((seenC ms (seen.push eb).toList : Nat) : Int) := by
    rw [Array.toList_push, seenC_snoc _ _ hx, wrap64_in _ (by omega) (by omega)]; omega
   exact W.again (again _ _ _ _ (by rw [Array.size_push]; omega) ⟨seen.push eb, rfl, hnd2, hlt2, hput _ hl8, by rw [put_ne _ _ hqr]; exact hr8, put_same _ _ _, rfl, rfl⟩) (by exact ⟨rfl, congrArg (fun z => some (SV.v (Value.int .i64 z))) hwr, rfl, trivial⟩) (by exact trivial)
end Go.Mz


set_option maxRecDepth 100000
namespace Go.Mz
open Go.Conc Go.Proofs
variable {X : Logic Tryz.prog}
abbrev shopR (b9 b10 : Nat) : List (Rw Int) := [((some ⟨b9, 0, none⟩, 3, 3), [5, 3, 2]), ((some ⟨b10, 0, none⟩, 2, 2), [4, 2])]
theorem shop2_sp (n : Int) (L : LH) : Sp X 69 [.int .i64 n] L (fun v L' => ∃ p F rs, v = swA (shopW n) p ∧ DupC (shopW n) L L' p F rs) := by
 refine Sp.enter (n := 16) Tryz.func69 rfl rfl rfl rfl fun C hX _ hL0 r => ?_
 refine W.goP [9] 99 rfl ?_
 refine W.pub 8 (.inr ⟨_, _, _, rfl⟩) rfl rfl ?_
 intro b8 hb8 _
 refine W.goP [10] 99 rfl ?_
 refine W.pub 9 (.inr ⟨_, _, _, rfl⟩) rfl rfl ?_
 intro b9 hb9 _
 refine W.goP [11] 99 rfl ?_
 refine W.pub 10 (.inr ⟨_, _, _, rfl⟩) rfl rfl ?_
 intro b10 hb10 _
 refine W.goP [12] 99 rfl ?_
 refine W.pub 11 (.inr ⟨_, _, _, rfl⟩) rfl rfl ?_
 intro b11 hb11 _
 refine W.goP [14] 99 rfl ?_
 refine W.pub 13 (.inr ⟨_, _, _, rfl⟩) rfl rfl ?_
 intro b13 hb13 _
 refine W.go 99 rfl ?_
 refine W.ret r rfl rfl ?_
 replace hb9 : (L.put b8 (.cells ((shopW n).wants.flatMap encWt).toArray 28)) b9 = none := hb9
 replace hb10 : ((L.put b8 (.cells ((shopW n).wants.flatMap encWt).toArray 28)).put b9 (.cells (([5, 3, 2] : List Int).flatMap encI).toArray 3)) b10 = none := hb10
 replace hb11 : (((L.put b8 (.cells ((shopW n).wants.flatMap encWt).toArray 28)).put b9 (.cells (([5, 3, 2] : List Int).flatMap encI).toArray 3)).put b10 (.cells (([4, 2] : List Int).flatMap encI).toArray 3)) b11 = none := hb11
 replace hb13 : ((((L.put b8 (.cells ((shopW n).wants.flatMap encWt).toArray 28)).put b9 (.cells (([5, 3, 2] : List Int).flatMap encI).toArray 3)).put b10 (.cells (([4, 2] : List Int).flatMap encI).toArray 3)).put b11 (.cells ((shopR b9 b10).flatMap encRw).toArray 23)) b13 = none := hb13
 have f8 := Le.put hb8 (.cells ((shopW n).wants.flatMap encWt).toArray 28)
 have f9 := Le.put hb9 (.cells (([5, 3, 2] : List Int).flatMap encI).toArray 3)
 have f10 := Le.put hb10 (.cells (([4, 2] : List Int).flatMap encI).toArray 3)
 have f11 := Le.put hb11 (.cells ((shopR b9 b10).flatMap encRw).toArray 23)
 have f13 := Le.put hb13 (.cells (([2, n] : List Int).flatMap encI).toArray 3)
 have k8 := put_same L b8 (.cells ((shopW n).wants.flatMap encWt).toArray 28)
 have k9 := put_same (L.put b8 (.cells ((shopW n).wants.flatMap encWt).toArray 28)) b9 (.cells (([5, 3, 2] : List Int).flatMap encI).toArray 3)
 have k10 := put_same ((L.put b8 (.cells ((shopW n).wants.flatMap encWt).toArray 28)).put b9 (.cells (([5, 3, 2] : List Int).flatMap encI).toArray 3)) b10 (.cells (([4, 2] : List Int).flatMap encI).toArray 3)
 have k11 := put_same (((L.put b8 (.cells ((shopW n).wants.flatMap encWt).toArray 28)).put b9 (.cells (([5, 3, 2] : List Int).flatMap encI).toArray 3)).put b10 (.cells (([4, 2] : List Int).flatMap encI).toArray 3)) b11 (.cells ((shopR b9 b10).flatMap encRw).toArray 23)
 have k13 := put_same ((((L.put b8 (.cells ((shopW n).wants.flatMap encWt).toArray 28)).put b9 (.cells (([5, 3, 2] : List Int).flatMap encI).toArray 3)).put b10 (.cells (([4, 2] : List Int).flatMap encI).toArray 3)).put b11 (.cells ((shopR b9 b10).flatMap encRw).toArray 23)) b13 (.cells (([2, n] : List Int).flatMap encI).toArray 3)
 have fr : ∀ {K : LH} {b c : Nat} {x : Obj × Bool}, K b = none → K c = some x → c ≠ b := fun {K b c x} h1 h2 e => by subst e; rw [h1] at h2; cases h2
 have sn : ∀ {K K' : LH} {b : Nat}, Le K K' → K' b = none → K b = none := fun {K K' b} h1 h2 => by
  cases h : K b with
  | none => rfl
  | some x => rw [h1 _ _ h] at h2; cases h2
 have n98 := fr hb9 k8
 have n1011 := fr hb11 k10
 have n911 := fr hb11 (f10 _ _ k9)
 have n913 := fr hb13 (f11 _ _ (f10 _ _ k9))
 have n1013 := fr hb13 (f11 _ _ k10)
 have n810 := fr hb10 (f9 _ _ k8)
 have l13 := f13 _ _ k11
 have l8 := f13 _ _ (f11 _ _ (f10 _ _ (f9 _ _ k8)))
 have l9 := f13 _ _ (f11 _ _ (f10 _ _ k9))
 have l10 := f13 _ _ (f11 _ _ k10)
 have hL := f8.trans (f9.trans (f10.trans (f11.trans f13)))
 have z11 := sn (f8.trans (f9.trans f10)) hb11
 have z13 := sn (f8.trans (f9.trans (f10.trans f11))) hb13
 change ∃ p F rs, _ = swA (shopW n) p ∧ DupC (shopW n) L (((((L.put b8 (.cells ((shopW n).wants.flatMap encWt).toArray 28)).put b9 (.cells (([5, 3, 2] : List Int).flatMap encI).toArray 3)).put b10 (.cells (([4, 2] : List Int).flatMap encI).toArray 3)).put b11 (.cells ((shopR b9 b10).flatMap encRw).toArray 23)).put b13 (.cells (([2, n] : List Int).flatMap encI).toArray 3)) p F rs
 generalize ((((L.put b8 (.cells ((shopW n).wants.flatMap encWt).toArray 28)).put b9 (.cells (([5, 3, 2] : List Int).flatMap encI).toArray 3)).put b10 (.cells (([4, 2] : List Int).flatMap encI).toArray 3)).put b11 (.cells ((shopR b9 b10).flatMap encRw).toArray 23)).put b13 (.cells (([2, n] : List Int).flatMap encI).toArray 3) = Z at *
 have hF : Le (((Z.but b8).but b11).but b13) Z := (but_le _ _).trans ((but_le _ _).trans (but_le _ _))
 have g9 : (((Z.but b8).but b11).but b13) b9 = Z b9 := by rw [but_get n913, but_get n911, but_get (Ne.symm n98)]
 have g10 : (((Z.but b8).but b11).but b13) b10 = Z b10 := by rw [but_get n1013, but_get n1011, but_get (Ne.symm n810)]
 have e8 : (((Z.but b8).but b11).but b13) b8 = none := sn ((but_le _ _).trans (but_le _ _)) (if_pos rfl)
 have e11 : (((Z.but b8).but b11).but b13) b11 = none := sn (but_le _ _) (if_pos rfl)
 have e13 : (((Z.but b8).but b11).but b13) b13 = none := if_pos rfl
 refine ⟨⟨some ⟨b11, 0, none⟩, some ⟨b13, 0, none⟩, some ⟨b8, 0, none⟩, 2, 2, 4⟩, ((Z.but b8).but b11).but b13, shopR b9 b10, rfl, le_but z13 (le_but z11 (le_but hb8 hL)), rfl, fun x hx => ?_, ⟨hF, some b11, ⟨2, _, rfl, l13, rfl, Nat.le_refl 2, rfl, fun i x hx => by simpa using hx⟩, fun b hb => by cases hb; exact e11⟩,
  ⟨hF, some b13, ⟨2, _, rfl, k13, rfl, Nat.le_refl 2, rfl, fun i x hx => by rw [List.getElem?_toArray]; exact hx⟩, fun b hb => by cases hb; exact e13⟩, ⟨hF, some b8, ⟨4, _, rfl, l8, rfl, Nat.le_refl 4, rfl, fun i x hx => by simpa using hx⟩, fun b hb => by cases hb; exact e8⟩, Nat.le_refl 4⟩
 simp only [List.mem_cons, List.not_mem_nil, or_false] at hx
 rcases hx with rfl | rfl
 ·exact ⟨sl_block encI_len (g9.trans l9), rfl, Nat.le_refl 3⟩
 ·exact ⟨sl_block encI_len (g10.trans l10), rfl, Nat.le_refl 2⟩
def shop1 : Sw := { shopW 2 with loaves := [] }
def shop2 : Sw := { shopW 2 with loaves := [[2, 3, 5], [4, 2]] }
def shop3 : Sw := { shopW 2 with kerf := 4 }
def shop4 : Sw := { shopW 2 with wants := [⟨0, -1, 0, 12⟩, ⟨2, 0, 1, 6⟩, ⟨1, -1, 9, 9⟩, ⟨1, 1, 5, 5⟩] }
def shop5 : Sw := { shopW 2 with wants := [⟨0, 0, 0, 12⟩, ⟨2, 0, 3, 6⟩, ⟨1, -1, 9, 9⟩, ⟨1, 1, 5, 5⟩] }
theorem known1 : sawE (shopW 2) = 0 ∧ sawE shop1 = 7 ∧ sawE shop2 = 5 ∧ sawE shop3 = 1 ∧ sawE shop4 = 3 ∧ sawE shop5 = 1 ∧ SlicesE (shopW 2) 0 10 = (3, 0) ∧ SlicesE (shopW 2) 0 11 = (0, 11) ∧ SlicesE (shopW 2) 0 0 = (0, 0) := by decide +kernel
theorem known2 : askW (shopW 2) [0, 1, 2, 3] [0, 2] = 0 ∧ askW (shopW 2) [0, 1, 2, 3] [0, 1] = 9 ∧ askW (shopW 2) [0, 1, 2, 3] [1, 2] = 12 ∧ askW (shopW 2) [1, 0] [0, 2] = 5 ∧ askW (shopW 2) [0, 4] [0, 0] = 3 := by decide +kernel
theorem known3 : LeftE (shopW 2) [1] [0, 0] = ([1, 2], 7, 0) ∧ CrushE (shopW 2) [2] = ([1, 0], 1, 0) ∧ CrushE (shopW 2) [2, 3] = ([1, 1], 2, 0) ∧ CrushE (shopW 2) [0, 1] = ([0, 0], 2, 0) ∧ FewestE (shopW 1) = ([], 0, 11) := by decide +kernel
theorem known4 : BestE (shopW 2) = ([0, 1, 2, 3], 32, 0) ∧ RefusedE (shopW 2) = ([], 0) ∧ VerdW (shopW 1) 3 = (2, 0) ∧ VerdW (shopW 1) 0 = (1, 0) ∧ WorthE (shopW 1) 3 = (0, 0) := by decide +kernel
theorem known5 : NeedE (shopW 1) 0 = (1, 0) ∧ NeedE (shopW 1) 1 = (1, 0) ∧ NeedE (shopW 2) 0 = (0, 0) ∧ KerfE (shopW 1) = (0, 0) ∧ (AddW (shopW 2) ⟨0, 0, 0, 2⟩).2 = 9 ∧ (AddW (shopW 2) ⟨3, 0, 0, 0⟩).2 = 8 ∧ (AddW (shopW 1) ⟨0, 0, 0, 2⟩).2 = 0 ∧ (AddW (shopW 1) ⟨0, 0, 0, 2⟩).1.wants.length = 5 := by decide +kernel
end Go.Mz

