/- Lemmas on which the claim leans. -/
import Derived.Test.YtjhpkghkgaekcaaGreatDoorMzLd
set_option maxRecDepth 100000
namespace Go.Mz
open Go.Conc Go.Proofs
variable {X : Logic Tryz.prog}
def encWt (x : Want) : List Value := [.int .i64 x.sort, .int .i64 x.kind, .int .i64 x.amount, .int .i64 x.pay]
theorem encWt_len (x : Want) : (encWt x).length = 4 := rfl
theorem encWt_sg (x : Want) : ∀ u ∈ encWt x, single u = true := singles rfl
structure Wp where
 la : Option Addr
 sa : Option Addr
 wa : Option Addr
 lc : Nat
 sc : Nat
 wc : Nat
abbrev encSw (s : Sw) (p : Wp) : List Value := [.slice p.la s.loaves.length p.lc, .slice p.sa s.stock.length p.sc, .int .i64 s.kerf, .slice p.wa s.wants.length p.wc]
abbrev swA (s : Sw) (p : Wp) : Value := .agg (encSw s p).toArray
structure SwAt (L : LH) (s : Sw) (p : Wp) : Prop where
 lo : RowsAt L p.la 1 encI s.loaves
 st : IntsAt L p.sa s.stock
 wt : SlAt L p.wa 4 encWt s.wants
 cap : s.wants.length ≤ p.wc
theorem SwAt.le {L L' : LH} {s : Sw} {p : Wp} (h : SwAt L s p) (hl : Le L L') : SwAt L' s p := ⟨h.lo.le hl, h.st.le hl, h.wt.le hl, h.cap⟩
structure Sm (s : Sw) : Prop where
 hl : s.loaves.length ≤ 1000
 hs : s.stock.length ≤ 1000
 hw : s.wants.length ≤ 1000
 hr : ∀ l ∈ s.loaves, l.length ≤ 1000
theorem within_sp (n lo hi : Int) (L : LH) : Sp X 103 [.int .i64 n, .int .i64 lo, .int .i64 hi] L (fun v L' => v = .bool (inB n lo hi) ∧ L = L') := by
 refine Sp.enter (n := 15) Tryz.func103 rfl rfl rfl rfl fun C hX _ hL0 r => ?_
 refine W.go 99 rfl ?_
 refine W.split rfl rfl rfl (fun c => ?_) (fun c => ?_)
 ·refine W.go 99 rfl ?_
  exact W.ret r rfl rfl ⟨by unfold inB; rw [c]; rfl, rfl⟩
 ·refine W.go 99 rfl ?_
  exact W.ret r rfl rfl ⟨by unfold inB; rw [c]; rfl, rfl⟩
theorem sized_sp (n lo hi : Int) (L : LH) : Sp X 136 [.int .i64 n, .int .i64 lo, .int .i64 hi] L (fun v L' => v = .int .i64 (sizedE n lo hi) ∧ L = L') := by
 refine Sp.enter (n := 15) Tryz.func136 rfl rfl rfl rfl fun C hX _ hL0 r => ?_
 refine W.go 99 rfl ?_
 refine W.split rfl rfl rfl (fun c => ?_) (fun c => ?_)
 ·refine W.go 99 rfl ?_
  exact W.ret r rfl rfl ⟨by unfold sizedE; rw [if_pos (by simpa using c)]; rfl, rfl⟩
 refine W.go 99 rfl ?_
 refine W.split rfl rfl rfl (fun c2 => ?_) (fun c2 => ?_)
 ·refine W.go 99 rfl ?_
  exact W.ret r rfl rfl ⟨by unfold sizedE; rw [if_neg (by simpa using c), if_pos (by simpa using c2)]; rfl, rfl⟩
 ·refine W.go 99 rfl ?_
  exact W.ret r rfl rfl ⟨by unfold sizedE; rw [if_neg (by simpa using c), if_neg (by simpa using c2)]; rfl, rfl⟩
theorem sumL_bk (K : Nat) : ∀ (l : List Int), (∀ x ∈ l, 0 ≤ x ∧ x ≤ K) → 0 ≤ sumL l ∧ sumL l ≤ K * l.length := by
 intro l
 generalize hn : l.length = n
 induction n generalizing l with
 | zero =>
  intro _
  rw [List.length_eq_zero_iff] at hn
  subst hn
  exact ⟨Int.le_refl _, by simp [sumL]⟩
 | succ n ih =>
  intro h
  have hne : l ≠ [] := fun e => by subst e; simp at hn
  obtain ⟨k, x, rfl⟩ : ∃ k x, l = k ++ [x] := ⟨l.dropLast, l.getLast hne, (List.dropLast_concat_getLast hne).symm⟩
  rw [sumL_add]
  have h1 := ih k (by simp at hn; omega) fun y hy => h y (List.mem_append_left _ hy)
  have h2 := h x (by simp)
  rw [show ((n + 1 : Nat) : Int) = (n : Int) + 1 by omega, Int.mul_add, Int.mul_one]
  omega
def prevO (l : List Int) (i : Nat) : Option Int := if i = 0 then none else l[i - 1]?
theorem prevO_succ {l : List Int} {i : Nat} (hi : i < l.length) : prevO l (i + 1) = some l[i] := by
 unfold prevO
 rw [if_neg (by omega)]
 simp [List.getElem?_eq_getElem hi]
theorem checkLoaf_sp (ad : Option Addr) (c : Nat) (l : List Int) (L : LH) (hl : IntsAt L ad l) (hn : l.length ≤ 1000000) : Sp X 137 [.slice ad l.length c] L (fun v L' => v = .int .i64 (loafE l) ∧ L = L') := by
 refine Sp.enter (n := 34) Tryz.func137 rfl rfl rfl rfl fun C hX _ hL0 r => ?_
 refine W.go 99 rfl ?_
 refine W.eff rfl rfl rfl (Ef.call rfl (sized_sp _ _ _ _)) ?_
 rintro _ _ _ ⟨_, rfl, rfl, rfl, rfl⟩
 refine W.go 99 rfl ?_
 refine W.split rfl rfl rfl (fun c1 => W.go 99 rfl ?_) (fun c1 => W.go 99 rfl ?_)
 ·exact W.ret r rfl rfl ⟨by unfold loafE; rw [if_pos (by simpa using c1)]; rfl, rfl⟩
 refine W.loop (fun m E B L' => ∃ (i : Nat), m = l.length - i ∧ i ≤ l.length ∧ loafGo (prevO l i) (l.drop i) = loafGo none l ∧ L = L' ∧
   E = [(0, .v (.slice ad l.length c)), (12, .v (.slice ad l.length c)), (13, .v (.int .i64 l.length)), (14, .v (.int .i64 i))] ∧ B = [])
  ⟨0, rfl, by omega, rfl, rfl, rfl, rfl⟩ (by exact ⟨rfl, rfl, rfl, rfl, trivial⟩) trivial ?_
 rintro _ _ _ _ ⟨i, rfl, h1, hg, rfl, rfl, rfl⟩ again
 refine W.go 99 rfl ?_
 refine W.split rfl rfl rfl (fun e1 => W.go 99 rfl ?_) (fun e1 => W.go 99 rfl ?_)
 ·have hi : i < l.length := by simpa using e1
  obtain ⟨lad, rfl⟩ := hl.addr hi
  rw [List.drop_eq_getElem_cons hi, loafGo] at hg
  refine W.vf rfl rfl rfl rfl (Vf.idx1 rfl rfl rfl rfl rfl rfl rfl (hi)) ?_
  refine W.go 99 rfl ?_
  refine W.vf rfl rfl rfl rfl (Vf.load rfl rfl rfl (hl.int (List.getElem?_eq_getElem hi))) ?_
  refine W.go 99 rfl ?_
  refine W.eff rfl rfl rfl (Ef.call rfl (within_sp _ _ _ _)) ?_
  rintro _ _ _ ⟨_, rfl, rfl, rfl, rfl⟩
  refine W.go 99 rfl ?_
  refine W.split rfl rfl rfl (fun e2 => W.go 99 rfl ?_) (fun e2 => W.go 99 rfl ?_)
  ·exact W.ret r rfl rfl ⟨by unfold loafE; rw [if_neg (by simpa using c1), ← hg, if_pos (by simpa using e2)]; rfl, rfl⟩
  rw [if_neg (by simpa using e2)] at hg
  refine W.split rfl rfl rfl (fun e3 => ?_) (fun e3 => ?_)
  ·have hi0 : 0 < i := by simpa using e3
   have hp : prevO l i = some l[i - 1] := by unfold prevO; rw [if_neg (by omega)]; exact List.getElem?_eq_getElem (by omega)
   rw [hp] at hg
   have hw : IntKind.i64.wrap ((i : Int) - 1) = ((i - 1 : Nat) : Int) := by rw [wrap64_in _ (by omega) (by omega)]; omega
   refine W.go 99 rfl ?_
   rw [hw]
   refine W.vf rfl rfl rfl rfl (Vf.idx1 rfl rfl rfl rfl rfl rfl rfl ((show i - 1 < l.length by omega))) ?_
   refine W.go 99 rfl ?_
   refine W.vf rfl rfl rfl rfl (Vf.load rfl rfl rfl (hl.int (List.getElem?_eq_getElem (show i - 1 < l.length by omega)))) ?_
   refine W.go 99 rfl ?_
   refine W.split rfl rfl rfl (fun e4 => W.go 99 rfl ?_) (fun e4 => W.go 99 rfl ?_)
   ·exact W.ret r rfl rfl ⟨by unfold loafE; rw [if_neg (by simpa using c1), ← hg, if_pos (by simpa [upB] using e4)]; rfl, rfl⟩
   ·rw [if_neg (by simpa [upB] using e4)] at hg
    exact W.again (again _ _ _ _ (by omega) ⟨i + 1, rfl, by omega, by rw [prevO_succ hi]; exact hg, rfl, rfl, rfl⟩) ⟨rfl, rfl, rfl, congrArg some (inc64 (by omega)), trivial⟩ trivial
  ·have hi0 : i = 0 := by simp at e3; omega
   subst hi0
   refine W.go 99 rfl ?_
   exact W.again (again _ _ _ _ (by omega) ⟨1, rfl, by omega, by rw [prevO_succ hi]; exact hg, rfl, rfl, rfl⟩) ⟨rfl, rfl, rfl, congrArg some (inc64 (by omega)), trivial⟩ trivial
 ·exact W.ret r rfl rfl ⟨by unfold loafE; rw [if_neg (by simpa using c1), ← hg, List.drop_of_length_le (by simp at e1; omega)]; rfl, rfl⟩
theorem want_in {ls : List (List Int)} {x : Want} (h1 : inB x.sort 0 2 = true) (h2 : inB x.kind (wKd x) ((ls.length : Int) - 1) = true) :
  wantE ls x = if (inB x.amount (wLo x) (wHi ls x) && inB x.pay 0 30) = true then 0 else 1 := by
 unfold wantE
 rw [h1, h2]
 simp
theorem checkWant_sp (s : Sw) (p : Wp) (x : Want) (L : LH) (hs : SwAt L s p) (hn : Sm s) : Sp X 138 [swA s p, .agg (encWt x).toArray] L (fun v L' => v = .int .i64 (wantE s.loaves x) ∧ L = L') := by
 have n1 := hn.hl
 have hw1 : IntKind.i64.wrap ((s.loaves.length : Int) - 1) = (s.loaves.length : Int) - 1 := wrap64_in _ (by omega) (by omega)
 refine Sp.enter (n := 47) Tryz.func138 rfl rfl rfl rfl fun C hX _ hL0 r => ?_
 refine W.go 99 rfl ?_
 refine W.split rfl rfl rfl (fun e1 => ?_) (fun e1 => ?_)
 ·have e1' : x.sort = 1 := by simpa using e1
  refine W.go 99 rfl ?_
  rw [hw1]
  refine W.eff rfl rfl rfl (Ef.call rfl (within_sp _ _ _ _)) ?_
  rintro _ _ _ ⟨_, rfl, rfl, rfl, rfl⟩
  refine W.go 99 rfl ?_
  refine W.split rfl rfl rfl (fun e2 => W.go 99 rfl ?_) (fun e2 => W.go 99 rfl ?_)
  ·exact W.ret r rfl rfl ⟨by unfold wantE; simp [e1', inB, wKd, retV] at e2 ⊢; intro h; omega, rfl⟩
  refine W.split rfl rfl rfl (fun c => absurd c (by decide)) (fun c => ?_)
  refine W.go 99 rfl ?_
  refine W.eff rfl rfl rfl (Ef.call rfl (within_sp _ _ _ _)) ?_
  rintro _ _ _ ⟨_, rfl, rfl, rfl, rfl⟩
  refine W.go 99 rfl ?_
  refine W.split rfl rfl rfl (fun e5 => W.go 99 rfl ?_) (fun e5 => W.go 99 rfl ?_)
  ·exact W.ret r rfl rfl ⟨by rw [want_in (by simp [inB, e1']) (by simpa [wKd, e1'] using e2), if_neg (by simp at e5; simp [wLo, wHi, e1', e5])]; rfl, rfl⟩
  refine W.eff rfl rfl rfl (Ef.call rfl (within_sp _ _ _ _)) ?_
  rintro _ _ _ ⟨_, rfl, rfl, rfl, rfl⟩
  refine W.go 99 rfl ?_
  refine W.split rfl rfl rfl (fun e6 => W.go 99 rfl ?_) (fun e6 => W.go 99 rfl ?_)
  ·exact W.ret r rfl rfl ⟨by rw [want_in (by simp [inB, e1']) (by simpa [wKd, e1'] using e2), if_neg (by simp at e6; simp [e6])]; rfl, rfl⟩
  ·exact W.ret r rfl rfl ⟨by rw [want_in (by simp [inB, e1']) (by simpa [wKd, e1'] using e2), if_pos (by simp at e5 e6; simp [wLo, wHi, e1', e5, e6])]; rfl, rfl⟩
 have e1' : x.sort ≠ 1 := by simpa using e1
 refine W.go 99 rfl ?_
 refine W.split rfl rfl rfl (fun e1 => ?_) (fun e1 => ?_)
 ·have e1' : x.sort = 2 := by simpa using e1
  refine W.go 99 rfl ?_
  rw [hw1]
  refine W.eff rfl rfl rfl (Ef.call rfl (within_sp _ _ _ _)) ?_
  rintro _ _ _ ⟨_, rfl, rfl, rfl, rfl⟩
  refine W.go 99 rfl ?_
  refine W.split rfl rfl rfl (fun e2 => W.go 99 rfl ?_) (fun e2 => W.go 99 rfl ?_)
  ·exact W.ret r rfl rfl ⟨by unfold wantE; simp [e1', inB, wKd, retV] at e2 ⊢; intro h; omega, rfl⟩
  have hk : 0 ≤ x.kind ∧ x.kind < s.loaves.length := by simp [inB] at e2; omega
  have hki : x.kind.toNat < s.loaves.length := by omega
  have hl : s.loaves[x.kind.toNat]? = some s.loaves[x.kind.toNat] := List.getElem?_eq_getElem hki
  obtain ⟨la, hla⟩ := hs.lo.addr hki
  have hlo := hs.lo
  rw [hla] at hlo
  obtain ⟨a, c, hc, hsl, hcp⟩ := hlo.row hl
  have hlen := hn.hr _ (List.mem_of_getElem? hl)
  generalize s.loaves[x.kind.toNat] = lf at *
  have hgd := hl
  obtain ⟨qa, qb, qc, qd, qe, qf⟩ := p
  obtain rfl : qa = some la := hla
  refine W.split rfl rfl rfl (fun c => ?_) (fun c => absurd c (by decide))
  refine W.go 99 rfl ?_
  refine W.vf rfl rfl rfl rfl (Vf.idx1 rfl rfl rfl rfl rfl rfl (show x.kind = ((x.kind.toNat : Nat) : Int) by omega) hki) ?_
  refine W.go 99 rfl ?_
  refine W.vf rfl rfl rfl rfl (Vf.load rfl rfl rfl (hc)) ?_
  refine W.go 99 rfl ?_
  rw [wrap64_in ((lf.length : Int) - 1) (by omega) (by omega)]
  refine W.eff rfl rfl rfl (Ef.call rfl (within_sp _ _ _ _)) ?_
  rintro _ _ _ ⟨_, rfl, rfl, rfl, rfl⟩
  refine W.go 99 rfl ?_
  refine W.split rfl rfl rfl (fun e5 => W.go 99 rfl ?_) (fun e5 => W.go 99 rfl ?_)
  ·exact W.ret r rfl rfl ⟨by rw [want_in (by simp [inB, e1']) (by simpa [wKd, e1'] using e2), if_neg (by simp at e5; simp [wLo, wHi, e1', hgd, e5])]; rfl, rfl⟩
  refine W.eff rfl rfl rfl (Ef.call rfl (within_sp _ _ _ _)) ?_
  rintro _ _ _ ⟨_, rfl, rfl, rfl, rfl⟩
  refine W.go 99 rfl ?_
  refine W.split rfl rfl rfl (fun e6 => W.go 99 rfl ?_) (fun e6 => W.go 99 rfl ?_)
  ·exact W.ret r rfl rfl ⟨by rw [want_in (by simp [inB, e1']) (by simpa [wKd, e1'] using e2), if_neg (by simp at e6; simp [e6])]; rfl, rfl⟩
  ·exact W.ret r rfl rfl ⟨by rw [want_in (by simp [inB, e1']) (by simpa [wKd, e1'] using e2), if_pos (by simp at e5 e6; simp [wLo, wHi, hgd, e1', e5, e6])]; rfl, rfl⟩
 have e1'' : x.sort ≠ 2 := by simpa using e1
 refine W.go 99 rfl ?_
 refine W.split rfl rfl rfl (fun e1 => ?_) (fun e1 => ?_)
 ·have e1' : x.sort = 0 := by simpa using e1
  have hgd : True := trivial
  refine W.go 99 rfl ?_
  rw [hw1]
  refine W.eff rfl rfl rfl (Ef.call rfl (within_sp _ _ _ _)) ?_
  rintro _ _ _ ⟨_, rfl, rfl, rfl, rfl⟩
  refine W.go 99 rfl ?_
  refine W.split rfl rfl rfl (fun e2 => W.go 99 rfl ?_) (fun e2 => W.go 99 rfl ?_)
  ·exact W.ret r rfl rfl ⟨by unfold wantE; simp [e1', inB, wKd, retV] at e2 ⊢; intro h; omega, rfl⟩
  refine W.split rfl rfl rfl (fun c => absurd c (by decide)) (fun c => ?_)
  refine W.go 99 rfl ?_
  refine W.eff rfl rfl rfl (Ef.call rfl (within_sp _ _ _ _)) ?_
  rintro _ _ _ ⟨_, rfl, rfl, rfl, rfl⟩
  refine W.go 99 rfl ?_
  refine W.split rfl rfl rfl (fun e5 => W.go 99 rfl ?_) (fun e5 => W.go 99 rfl ?_)
  ·exact W.ret r rfl rfl ⟨by rw [want_in (by simp [inB, e1']) (by simpa [wKd, e1'] using e2), if_neg (by simp at e5; simp [wLo, wHi, e1', hgd, e5])]; rfl, rfl⟩
  refine W.eff rfl rfl rfl (Ef.call rfl (within_sp _ _ _ _)) ?_
  rintro _ _ _ ⟨_, rfl, rfl, rfl, rfl⟩
  refine W.go 99 rfl ?_
  refine W.split rfl rfl rfl (fun e6 => W.go 99 rfl ?_) (fun e6 => W.go 99 rfl ?_)
  ·exact W.ret r rfl rfl ⟨by rw [want_in (by simp [inB, e1']) (by simpa [wKd, e1'] using e2), if_neg (by simp at e6; simp [e6])]; rfl, rfl⟩
  ·exact W.ret r rfl rfl ⟨by rw [want_in (by simp [inB, e1']) (by simpa [wKd, e1'] using e2), if_pos (by simp at e5 e6; simp [wLo, wHi, hgd, e1', e5, e6])]; rfl, rfl⟩
 ·refine W.go 99 rfl ?_
  have e3 : x.sort ≠ 0 := by simpa using e1
  exact W.ret r rfl rfl ⟨by unfold wantE; rw [if_pos (by simp [inB]; omega)]; rfl, rfl⟩
theorem Check_sp (s : Sw) (p : Wp) (L : LH) (hs : SwAt L s p) (hn : Sm s) : Sp X 102 [swA s p] L (fun v L' => v = .int .i64 (sawE s) ∧ L = L') := by
 have n1 := hn.hl
 have n2 := hn.hs
 have n3 := hn.hw
 refine Sp.enter (n := 72) Tryz.func102 rfl rfl rfl rfl fun C hX _ hL0 r => ?_
 refine W.go 99 rfl ?_
 refine W.eff rfl rfl rfl (Ef.call rfl (sized_sp _ _ _ _)) ?_
 rintro _ _ _ ⟨_, rfl, rfl, rfl, rfl⟩
 refine W.go 99 rfl ?_
 refine W.split rfl rfl rfl (fun c1 => W.go 99 rfl ?_) (fun c1 => W.go 99 rfl ?_)
 ·exact W.ret r rfl rfl ⟨by unfold sawE; rw [if_pos (by simpa using c1)]; rfl, rfl⟩
 refine W.loop (fun m E B L' => ∃ i : Nat, m = s.loaves.length - i ∧ i ≤ s.loaves.length ∧ loavesE (s.loaves.drop i) = loavesE s.loaves ∧ E = [(1, .p 0 0), (20, .v (.slice p.la s.loaves.length p.lc)), (21, .v (.int .i64 s.loaves.length)), (22, .v (.int .i64 i))] ∧ B = [some ⟨cellsS (.v (swA s p)), 52⟩] ∧ L = L')
  ⟨0, rfl, by omega, by simp, rfl, rfl, rfl⟩ (by exact ⟨rfl, rfl, rfl, rfl, trivial⟩) (by exact ⟨rfl, trivial⟩) ?_
 rintro _ _ _ _ ⟨i, rfl, h1, hg, rfl, rfl, rfl⟩ again
 refine W.go 99 rfl ?_
 refine W.split rfl rfl rfl (fun d1 => W.go 99 rfl ?_) (fun d1 => W.go 99 rfl ?_)
 ·have hi : i < s.loaves.length := by simpa using d1
  have hl : s.loaves[i]? = some s.loaves[i] := List.getElem?_eq_getElem hi
  rw [List.drop_eq_getElem_cons hi, loavesE] at hg
  obtain ⟨la, hla⟩ := hs.lo.addr hi
  have hlo := hs.lo
  rw [hla] at hlo
  obtain ⟨a, c, hc, hsl, hcp⟩ := hlo.row hl
  have hlen := hn.hr _ (List.mem_of_getElem? hl)
  generalize s.loaves[i] = lf at *
  obtain ⟨qa, qb, qc, qd, qe, qf⟩ := p
  obtain rfl : qa = some la := hla
  refine W.vf rfl rfl rfl rfl (Vf.idx1 rfl rfl rfl rfl rfl rfl rfl (hi)) ?_
  refine W.go 99 rfl ?_
  refine W.vf rfl rfl rfl rfl (Vf.load rfl rfl rfl (hc)) ?_
  refine W.go 99 rfl ?_
  refine W.eff rfl rfl rfl (Ef.call rfl (checkLoaf_sp _ _ _ _ hsl (by omega))) ?_
  rintro _ _ _ ⟨_, rfl, rfl, rfl, rfl⟩
  refine W.go 99 rfl ?_
  refine W.split rfl rfl rfl (fun d2 => W.go 99 rfl ?_) (fun d2 => W.go 99 rfl ?_)
  ·exact W.ret r rfl rfl ⟨by unfold sawE; rw [if_neg (by simpa using c1), ← hg, if_pos (show loafE lf ≠ 0 by simpa using d2), if_pos (show loafE lf ≠ 0 by simpa using d2)]; rfl, rfl⟩
  ·exact W.again (again _ _ _ _ (by omega) ⟨i + 1, rfl, by omega, by rw [← hg, if_neg (by simpa using d2)], rfl, rfl, rfl⟩) ⟨rfl, rfl, rfl, congrArg some (inc64 (by omega)), trivial⟩ ⟨rfl, trivial⟩
 have hlo : loavesE s.loaves = 0 := by rw [← hg, List.drop_of_length_le (by simp at d1; omega)]; rfl
 clear again hg
 refine W.split rfl rfl rfl (fun c2 => W.go 99 rfl ?_) (fun c2 => W.go 99 rfl ?_)
 ·exact W.ret r rfl rfl ⟨by unfold sawE; rw [if_neg (by simpa using c1), if_neg (by simp [hlo]), if_pos (by simp at c2; omega)]; rfl, rfl⟩
 have c2' : s.stock.length = s.loaves.length := by simp at c2; omega
 refine W.loop (fun m E B L' => ∃ i : Nat, m = s.stock.length - i ∧ i ≤ s.stock.length ∧ stockB (s.stock.drop i) = stockB s.stock ∧ E = [(1, .p 0 0), (40, .v (.slice p.sa s.stock.length p.sc)), (41, .v (.int .i64 s.stock.length)), (42, .v (.int .i64 i))] ∧ B = [some ⟨cellsS (.v (swA s p)), 52⟩] ∧ L = L')
  ⟨0, rfl, by omega, by simp, rfl, rfl, rfl⟩ (by exact ⟨rfl, rfl, rfl, rfl, trivial⟩) (by exact ⟨rfl, trivial⟩) ?_
 rintro _ _ _ _ ⟨i, rfl, h1, hg, rfl, rfl, rfl⟩ again
 refine W.go 99 rfl ?_
 refine W.split rfl rfl rfl (fun d1 => W.go 99 rfl ?_) (fun d1 => W.go 99 rfl ?_)
 ·have hi : i < s.stock.length := by simpa using d1
  rw [List.drop_eq_getElem_cons hi, stockB] at hg
  obtain ⟨la, hla⟩ := hs.st.addr hi
  have hst := hs.st
  rw [hla] at hst
  obtain ⟨qa, qb, qc, qd, qe, qf⟩ := p
  obtain rfl : qb = some la := hla
  refine W.vf rfl rfl rfl rfl (Vf.idx1 rfl rfl rfl rfl rfl rfl rfl (hi)) ?_
  refine W.go 99 rfl ?_
  refine W.vf rfl rfl rfl rfl (Vf.load rfl rfl rfl (hst.int (List.getElem?_eq_getElem hi))) ?_
  refine W.go 99 rfl ?_
  refine W.eff rfl rfl rfl (Ef.call rfl (within_sp _ _ _ _)) ?_
  rintro _ _ _ ⟨_, rfl, rfl, rfl, rfl⟩
  refine W.go 99 rfl ?_
  refine W.split rfl rfl rfl (fun d2 => W.go 99 rfl ?_) (fun d2 => W.go 99 rfl ?_)
  ·exact W.ret r rfl rfl ⟨by unfold sawE; rw [if_neg (by simpa using c1), if_neg (by simp [hlo]), if_neg (by omega), ← hg, if_pos (by simp at d2; simp [d2])]; rfl, rfl⟩
  ·exact W.again (again _ _ _ _ (by omega) ⟨i + 1, rfl, by omega, by simp at d2; rw [← hg, d2, Bool.true_and], rfl, rfl, rfl⟩) ⟨rfl, rfl, rfl, congrArg some (inc64 (by omega)), trivial⟩ ⟨rfl, trivial⟩
 have hsb : stockB s.stock = true := by rw [← hg, List.drop_of_length_le (by simp at d1; omega)]; rfl
 clear again hg
 have base : sawE s = if !inB s.kerf 0 3 then 1 else if 5 < s.wants.length then 6 else wantsE s.loaves s.wants := by
  unfold sawE
  rw [if_neg (by simpa using c1), if_neg (by simp [hlo]), if_neg (by omega), if_neg (by simp [hsb])]
 refine W.eff rfl rfl rfl (Ef.call rfl (within_sp _ _ _ _)) ?_
 rintro _ _ _ ⟨_, rfl, rfl, rfl, rfl⟩
 refine W.go 99 rfl ?_
 refine W.split rfl rfl rfl (fun c3 => W.go 99 rfl ?_) (fun c3 => W.go 99 rfl ?_)
 ·exact W.ret r rfl rfl ⟨by rw [base, if_pos (by simpa using c3)]; rfl, rfl⟩
 refine W.split rfl rfl rfl (fun c4 => W.go 99 rfl ?_) (fun c4 => W.go 99 rfl ?_)
 ·exact W.ret r rfl rfl ⟨by rw [base, if_neg (by simpa using c3), if_pos (by simp at c4; omega)]; rfl, rfl⟩
 refine W.loop (fun m E B L' => ∃ i : Nat, m = s.wants.length - i ∧ i ≤ s.wants.length ∧ wantsE s.loaves (s.wants.drop i) = wantsE s.loaves s.wants ∧ E = [(1, .p 0 0), (59, .v (.slice p.wa s.wants.length p.wc)), (60, .v (.int .i64 s.wants.length)), (61, .v (.int .i64 i))] ∧ B = [some ⟨cellsS (.v (swA s p)), 52⟩] ∧ L = L')
  ⟨0, rfl, by omega, by simp, rfl, rfl, rfl⟩ (by exact ⟨rfl, rfl, rfl, rfl, trivial⟩) (by exact ⟨rfl, trivial⟩) ?_
 rintro _ _ _ _ ⟨i, rfl, h1, hg, rfl, rfl, rfl⟩ again
 refine W.go 99 rfl ?_
 refine W.split rfl rfl rfl (fun d1 => W.go 99 rfl ?_) (fun d1 => W.go 99 rfl ?_)
 ·have hi : i < s.wants.length := by simpa using d1
  rw [List.drop_eq_getElem_cons hi, wantsE] at hg
  obtain ⟨la, hla⟩ := hs.wt.addr hi
  have hst := hs.wt
  rw [hla] at hst
  have hs0 := hs
  obtain ⟨qa, qb, qc, qd, qe, qf⟩ := p
  obtain rfl : qc = some la := hla
  refine W.vf rfl rfl rfl rfl (Vf.idx rfl rfl rfl rfl rfl rfl (hi)) ?_
  refine W.go 99 rfl ?_
  refine W.vf rfl rfl rfl rfl (Vf.loadN rfl rfl rfl (hst.whole (List.getElem?_eq_getElem hi) rfl)) ?_
  refine W.go 99 rfl ?_
  refine W.eff rfl rfl rfl (Ef.call rfl (checkWant_sp s _ s.wants[i] L hs hn)) ?_
  rintro _ _ _ ⟨_, rfl, rfl, rfl, rfl⟩
  refine W.go 99 rfl ?_
  refine W.split rfl rfl rfl (fun d2 => W.go 99 rfl ?_) (fun d2 => W.go 99 rfl ?_)
  ·exact W.ret r rfl rfl ⟨by rw [base, if_neg (by simpa using c3), if_neg (by simp at c4; omega), ← hg, if_pos (show wantE s.loaves s.wants[i] ≠ 0 by simpa using d2)]; rfl, rfl⟩
  ·exact W.again (again _ _ _ _ (by omega) ⟨i + 1, rfl, by omega, by rw [← hg, if_neg (by simpa using d2)], rfl, rfl, rfl⟩) ⟨rfl, rfl, rfl, congrArg some (inc64 (by omega)), trivial⟩ ⟨rfl, trivial⟩
 have hw : wantsE s.loaves s.wants = 0 := by rw [← hg, List.drop_of_length_le (by simp at d1; omega)]; rfl
 exact W.ret r rfl rfl ⟨by rw [base, if_neg (by simpa using c3), if_neg (by simp at c4; omega), hw]; rfl, rfl⟩
end Go.Mz


set_option maxRecDepth 100000
namespace Go.Mz
open Go.Conc Go.Proofs
section
variable {P : Program} {C : Cx P} {E : Look} {B : List (Option Bx)} {L : LH} {dst : Option Tmp} {ty : TypeId} {pos : String} {af : Array Edge} {gd : Option (Nat × Bool)}
theorem Ef.range {t kt et : TypeId} {x : Operand} {r : Nat} {es : Array MapEntry} {clk : Nat} {wr : Bool} (hx : evS E x = some (.v (.map (some r)))) (hu : P.underlying t = some (.map kt et)) (hL : L r = some (.map es clk, wr)) :
  Ef C ⟨dst, .range t x, ty, pos, af, gd⟩ E B L (fun sv B' L' => ∃ b, sv = .v (.pointer (some ⟨b, 0, none⟩)) ∧ B' = B ∧ L b = none ∧ L' = L.put b (.mapIter (some r) clk #[] clk)) := by
 intro T R β hE hH
 have ex := (Option.some.inj (hE.val hx)).symm
 refine ⟨rfl, ?_⟩
 simp only [execOp, ex]
 rw [wpS_bind]
 unfold Instr.range
 rw [wpS_bind, wpS_underlying hu]
 simp only
 rw [wpS_bind, wpS_getMap (hH.le _ _ hL)]
 simp only
 rw [wpS_bind, wpS_pure, wpS_bind, wpS_newObj]
 intro b hb
 exact ⟨_, B, _, ⟨b, rfl, rfl, (hH.free hb).1, rfl⟩, rfl, hH.newF hb _, fun _ _ => rfl⟩
theorem Ef.next {y : Operand} {q r since last : Nat} {es : Array MapEntry} {clk : Nat} {seen : Array Nat} {wr : Bool} (hy : evS E y = some (.v (.pointer (some ⟨q, 0, none⟩)))) (hq : L q = some (.mapIter (some r) since seen last, true)) (hL : L r = some (.map es clk, wr)) (hb : ∀ e ∈ es, e.born < since ∧ e.born < last) :
  Ef C ⟨dst, .next y false, ty, pos, af, gd⟩ E B L (fun sv B' L' => B' = B ∧ ((sv = .v (.tuple #[.bool false]) ∧ (∀ e ∈ es, seen.contains e.born = true) ∧ L' = L) ∨ ∃ e ∈ es, seen.contains e.born = false ∧ sv = .v (.tuple #[.bool true, e.key, e.val]) ∧ L' = L.put q (.mapIter (some r) since (seen.push e.born) clk))) := by
 intro T R β hE hH
 have ey := (Option.some.inj (hE.val hy)).symm
 refine ⟨rfl, ?_⟩
 simp only [execOp, ey]
 rw [wpS_bind]
 unfold Instr.next
 simp only
 rw [wpS_bind]
 show wpS P _ _ (.getObj q .pure) R
 unfold wpS
 rw [hH.le _ _ hq]
 simp only [special, Bool.false_eq_true, if_false]
 show wpS P _ _ (getObj r >>= _) R
 rw [wpS_bind, wpS_getMap (hH.le _ _ hL)]
 simp only
 have h1 : (!seen.isEmpty && !es.isEmpty && es.all (fun e => decide (e.born ≥ last))) = false := by
  cases he : es.all (fun e => decide (e.born ≥ last)) with
  | false => rw [Bool.and_false]
  | true =>
   have : es = #[] := by
    apply Array.eq_empty_of_size_eq_zero
    rcases Nat.eq_zero_or_pos es.size with h | h
    ·exact h
    ·have h2 := Array.all_eq_true.1 he 0 h
     have h3 := (hb _ (Array.getElem_mem h)).2
     simp at h2
     omega
   subst this
   rw [show (#[] : Array MapEntry).isEmpty = true from rfl]
   cases seen.isEmpty <;> rfl
 rw [h1]
 simp only [Bool.false_eq_true, if_false]
 have hold : (es.filter fun e => !seen.contains e.born).filter (fun e => decide (e.born < since)) = es.filter fun e => !seen.contains e.born := by
  rw [Array.filter_eq_self]
  intro e he
  have := (hb e (Array.mem_filter.1 he).1).1
  simpa using this
 have hnew : (es.filter fun e => !seen.contains e.born).filter (fun e => decide (e.born ≥ since)) = #[] := by
  rw [Array.filter_eq_empty_iff]
  intro e he
  have := (hb e (Array.mem_filter.1 he).1).1
  simp
  omega
 rw [hold, hnew, Array.append_empty]
 have hmem : ∀ e, e ∈ (es.filter fun e => !seen.contains e.born) ↔ e ∈ es ∧ seen.contains e.born = false := fun e => by rw [Array.mem_filter]; simp
 generalize (es.filter fun e => !seen.contains e.born) = lf at hmem
 rw [wpS_bind, wpS_choose]
 intro n hn
 have done : ∀ {K : Value → LH → Prop}, K (.tuple #[.bool false]) R → wpS P K (fun _ _ => False) (pure (.tuple #[.bool false]) : Sem Value) R := fun h => h
 cases hl : lf.isEmpty with
 | true =>
  have h0 : lf = #[] := by rw [Array.isEmpty_iff] at hl; exact hl
  subst h0
  simp only [if_true, Array.map_empty, Array.append_empty]
  have hn0 : n = 0 := by
   unfold Answers at hn
   rw [if_pos (by simp [Question.forced])] at hn
   exact hn
  subst hn0
  refine ⟨_, B, L, ⟨rfl, .inl ⟨rfl, fun e he => ?_, rfl⟩⟩, rfl, hH, fun _ _ => rfl⟩
  cases hs : seen.contains e.born with
  | true => rfl
  | false => have := (hmem e).2 ⟨he, hs⟩; simp at this
 | false =>
  simp only [Bool.false_eq_true, if_false, Array.empty_append]
  have hpos : 0 < lf.size := by
   rcases Nat.eq_zero_or_pos lf.size with h | h
   ·rw [Array.isEmpty] at hl; simp [h] at hl
   ·exact h
  have hlt : n < lf.size := by
   rw [hl] at hn
   simp only [Bool.false_eq_true, if_false, Array.empty_append, Array.size_map] at hn
   unfold Answers at hn
   split at hn
   ·omega
   ·obtain ⟨t, rfl⟩ := hn
    exact Nat.mod_lt _ hpos
  rw [Array.getElem?_map, Array.getElem?_eq_getElem hlt]
  simp only [Option.map_some]
  obtain ⟨g1, g2⟩ := (hmem _).1 (Array.getElem_mem hlt)
  rw [wpS_bind, wpS_setObj (hH.le _ _ hq) rfl rfl]
  exact ⟨_, B, _, ⟨rfl, .inr ⟨lf[n], g1, g2, rfl, rfl⟩⟩, rfl, hH.setF hq (put_same _ _ _) (fun b' hb' => put_ne R _ hb'), fun _ _ => rfl⟩
end
end Go.Mz


set_option maxRecDepth 100000
namespace Go.Mz
open Go.Conc
section
variable {P : Program} {H : Value → LH → Prop} {R : LH}
theorem eqIn_arr {d : Nat} {t e : TypeId} {n : Nat} {xs ys : List Int} {Q : Bool → LH → Prop} (hu : P.underlying t = some (.array n e)) (he : P.underlying e = some (.int .i64)) (hs : (P.info? e).map (·.size) = some 1) (ha : aggB P e = some false) (hx : xs.length = n) (hy : ys.length = n) :
  wpS P Q H (Op.equalIn (d + 2) t (intsV xs) (intsV ys)) R = Q (decide (xs = ys)) R := by
 unfold intsV
 rw [Op.equalIn, wpS_bind, wpS_underlying hu, wpS_bind, wpS_sizeOf hs, wpS_bind]
 simp only [Std.Legacy.Range.forIn_eq_forIn_range', Std.Legacy.Range.size, Nat.sub_zero, Nat.add_sub_cancel, Nat.div_one]
 suffices h : ∀ (k m : Nat) (Q' : Option Bool × Unit → LH → Prop), m + k = n → wpS P Q' H (forIn (List.range' m k 1) ((none, ()) : Option Bool × Unit) fun i __s => do
    let __do_lift ← Go.part e (xs.map (Value.int .i64)).toArray (i * 1)
    let __do_lift_1 ← Go.part e (ys.map (Value.int .i64)).toArray (i * 1)
    let __do_lift ← Op.equalIn (d + 1) e __do_lift __do_lift_1
    if (!__do_lift) = true then pure (ForInStep.done (some false, ()))
     else pure (ForInStep.yield (none, ()))) R = if xs.drop m = ys.drop m then Q' (none, ()) R else Q' (some false, ()) R by
  rw [h n 0 _ (by omega)]
  simp only [List.drop_zero]
  by_cases e : xs = ys
  ·rw [if_pos e, decide_eq_true e]; rfl
  ·rw [if_neg e, decide_eq_false e]; rfl
 intro k
 induction k with
 | zero =>
  intro m Q' hm
  rw [List.drop_of_length_le (by omega), List.drop_of_length_le (by omega), if_pos rfl]
  rfl
 | succ k ih =>
  intro m Q' hm
  have hxm : m < xs.length := by omega
  have hym : m < ys.length := by omega
  rw [List.range'_succ, List.forIn_cons, wpS_bind, wpS_bind, Nat.mul_one, wpS_part1 (v := .int .i64 xs[m]) ha (by simp [hxm]), wpS_bind, wpS_part1 (v := .int .i64 ys[m]) ha (by simp [hym]), wpS_bind, eqIn_int he]
  rw [List.drop_eq_getElem_cons hxm, List.drop_eq_getElem_cons hym]
  by_cases e1 : xs[m] = ys[m]
  ·have e2 : (xs[m] == ys[m]) = true := by simpa using e1
   rw [e2]
   have := ih (m + 1) Q' (by omega)
   rw [show (if xs[m] :: xs.drop (m + 1) = ys[m] :: ys.drop (m + 1) then Q' (none, ()) R else Q' (some false, ()) R) = if xs.drop (m + 1) = ys.drop (m + 1) then Q' (none, ()) R else Q' (some false, ()) R by rw [e1]; simp only [List.cons.injEq, true_and]]
   exact this
  ·have e2 : (xs[m] == ys[m]) = false := by simpa using e1
   rw [e2, if_neg (fun h => e1 (List.cons.inj h).1)]
   rfl
theorem find_arr {t e : TypeId} {n : Nat} {xs : List Int} (hu : P.underlying t = some (.array n e)) (he : P.underlying e = some (.int .i64)) (hs : (P.info? e).map (·.size) = some 1) (ha : aggB P e = some false) (hx : xs.length = n) :
  ∀ (es : List MapEntry) (i : Nat), (∀ y ∈ es, ∃ ys : List Int, ys.length = n ∧ y.key = intsV ys ∧ ys ≠ xs) → ∀ (Q : Option (Nat × Value) → LH → Prop), wpS P Q H (Instr.findAsking t (intsV xs) es i) R = Q none R
 | [], _, _, _ => rfl
 | y :: es, i, h, Q => by
  obtain ⟨ys, h1, h2, h3⟩ := h y List.mem_cons_self
  rw [Instr.findAsking, h2, wpS_bind]
  show wpS P _ H (Op.equalIn (9998 + 2) t _ _) R = _
  rw [eqIn_arr hu he hs ha hx h1, decide_eq_false (fun e => h3 e.symm)]
  exact find_arr hu he hs ha hx es (i + 1) (fun z hz => h z (List.mem_cons_of_mem _ hz)) Q
theorem findNow_arr {t : TypeDesc} {xs : List Int} (es : List MapEntry) (h : ∀ y ∈ es, ∃ ys : List Int, y.key = intsV ys) (i : Nat) : es ≠ [] → Instr.findNow t (intsV xs) es i = none := by
 cases es with
 | nil => exact fun h => absurd rfl h
 | cons y es =>
  intro _
  obtain ⟨ys, hy⟩ := h y List.mem_cons_self
  unfold Instr.findNow
  rw [hy]
  cases t <;> rfl
theorem findKey_arr {t e : TypeId} {n : Nat} {xs : List Int} {es : List MapEntry} (hu : P.underlying t = some (.array n e)) (he : P.underlying e = some (.int .i64)) (hs : (P.info? e).map (·.size) = some 1) (ha : aggB P e = some false) (hx : xs.length = n)
  (h : ∀ y ∈ es, ∃ ys : List Int, ys.length = n ∧ y.key = intsV ys ∧ ys ≠ xs) (Q : Option (Nat × Value) → LH → Prop) : wpS P Q H (Instr.findKey t (intsV xs) es) R = Q none R := by
 unfold Instr.findKey
 rw [wpS_bind, wpS_underlying hu]
 cases es with
 | nil => rfl
 | cons y es =>
  rw [findNow_arr (y :: es) (fun z hz => let ⟨ys, _, h2, _⟩ := h z hz; ⟨ys, h2⟩) 0 (by simp)]
  exact find_arr hu he hs ha hx (y :: es) 0 h Q
end
section
variable {P : Program} [S : Seat P] {C : Cx P} {E : Look} {B : List (Option Bx)} {L : LH} {dst : Option Tmp} {ty : TypeId} {pos : String} {af : Array Edge} {gd : Option (Nat × Bool)}
omit S in
theorem Vf.entry {y : Operand} {q r since clk : Nat} {es : Array MapEntry} {seen : Array Nat} {wr wr' : Bool} {e : MapEntry} (hy : evS E y = some (.v (.pointer (some ⟨q, 0, none⟩)))) (hq : L q = some (.mapIter (some r) since seen clk, wr)) (hL : L r = some (.map es clk, wr')) (hb : seen.back? = some e.born) (he : es.find? (fun x => x.born == e.born) = some e) :
  Vf P (.entry y) E B L (.v (.tuple #[e.key, e.val])) := fun T R β hE _ hLR => by
 have ey := (Option.some.inj (hE.val hy)).symm
 refine ⟨_, rfl, fun ty dst pos af gd Q H hq' => ?_⟩
 simp only [execOp, ey]
 rw [wpS_bind]
 unfold Instr.entry
 simp only
 rw [wpS_bind]
 show wpS P _ _ (.getObj q .pure) R
 unfold wpS
 rw [hLR _ _ hq]
 simp only [special, Bool.false_eq_true, if_false]
 show wpS P _ _ _ R
 simp only [pure, wpS, hb]
 rw [wpS_bind, wpS_getMap (hLR _ _ hL)]
 simp only [bne_self_eq_false, Bool.false_eq_true, if_false, he]
 exact hq'
omit S in
theorem Vf.lenMap {x : Operand} {t kt et : TypeId} {r clk : Nat} {es : Array MapEntry} {wr : Bool} (hx : evS E x = some (.v (.map (some r)))) (hu : P.underlying t = some (.map kt et)) (hL : L r = some (.map es clk, wr)) : Vf P (.call { callee := .builtin .len, args := #[x], argTypes := #[t] }) E B L (.v (.int .i64 es.size)) := fun T R β hE _ hLR => by
 have ex := (Option.some.inj (hE.val hx)).symm
 refine ⟨_, rfl, fun ty dst pos af gd Q H hq => ?_⟩
 simp only [execOp, resolve, List.map_toArray, List.map_cons, List.map_nil, ex, pure, Sem.bind, bind, invoke, builtin, Builtin.len_]
 simp only [List.getElem?_toArray, List.getElem?_cons_zero]
 show wpS P Q H ((_ >>= _) >>= _) R
 rw [wpS_bind, wpS_bind, wpS_underlying hu]
 show wpS P _ H (getObj r >>= _) R
 rw [wpS_bind, wpS_getMap (hLR _ _ hL)]
 exact hq
theorem Vf.idxSl {x y : Operand} {t e : TypeId} {ti te : TI} {kk off len cap i : Nat} {ik : IntKind} {j : Int} (hx : evS E x = some (.sl kk off len cap)) (hy : evS E y = some (.v (.int ik j))) (ht : S.τ.find t = some ti) (hd : ti.d = .slice e) (he : S.τ.find e = some te) (hj : j = (i : Int)) (hi : i < len) : Vf P (.indexAddr t x y) E B L (.p kk (off + i * te.size)) := fun T R β hE _ _ => by
 have h1 := (TT.find_ok S.ok ht).d
 rw [hd] at h1
 subst hj
 have hv := hE.val hx
 unfold den at hv
 cases hk : β kk with
 | none => rw [hk] at hv; cases hv
 | some b =>
  rw [hk] at hv
  refine ⟨.pointer (some ⟨b, off + i * te.size, none⟩), by unfold den; rw [hk], fun ty => ?_⟩
  have := Val.indexSlice (P := P) (L := R) (ty := ty) h1 (TT.find_ok S.ok he).size (Option.some.inj hv).symm (Option.some.inj (hE.val hy)).symm hi
  rw [add_of] at this; exact this
end
end Go.Mz


set_option maxRecDepth 100000
namespace Go.Mz
open Go.Conc Go.Proofs
variable {X : Logic Tryz.prog}
structure Bk where
 b : Bl
 ro : Ro
 s : Sw
 ls : List Bs
 an : List Bs
structure Kp where
 b : BP
 r : BP
 s : Wp
 la : Option Addr
 lc : Nat
 aa : Option Addr
 ac : Nat
abbrev bkL (k : Bk) (p : Kp) : List Value := blL k.b p.b ++ roL k.ro p.r ++ encSw k.s p.s ++ [.slice p.la k.ls.length p.lc, .slice p.aa k.an.length p.ac]
abbrev bkA (k : Bk) (p : Kp) : Value := .agg (bkL k p).toArray
structure BkAt (L : LH) (k : Bk) (p : Kp) : Prop where
 b : BlAt L k.b p.b
 r : RoAt L k.ro p.r
 s : SwAt L k.s p.s
 l : SlAt L p.la 1 encS k.ls
 a : SlAt L p.aa 1 encS k.an
theorem BkAt.le {L L' : LH} {k : Bk} {p : Kp} (h : BkAt L k p) (hl : Le L L') : BkAt L' k p := ⟨h.b.le hl, h.r.le hl, h.s.le hl, h.l.le hl, h.a.le hl⟩
def LineOk (l : Bs) : Prop := l.length ≤ 100 ∧ cntB l 63 = 0 ∧ ∃ v a, parseB l = some (v, a)
structure BkOk (k : Bk) : Prop where
 b : boilE k.b = 0
 r : rowE k.ro = 0
 s : sawE k.s = 0
 sm : Sm k.s
 l6 : k.ls.length ≤ 6
 ln : ∀ l ∈ k.ls, LineOk l
 al : k.an.length = k.ls.length
 a40 : ∀ l ∈ k.an, l.length ≤ 40
theorem CheckBk_t (k : Bk) (p : Kp) (L : LH) (hk : BkAt L k p) (ok : BkOk k) : Sp X 92 [bkA k p] L (fun v L' => v = .int .i64 0 ∧ Le L L') := by
 refine Sp.enter (n := 73) Tryz.func92 rfl rfl rfl rfl fun C hX _ hL0 r => ?_
 refine W.go 99 rfl ?_
 refine W.drawn (by kernel_rfl) _ (Le.refl _) ?_
 refine DD.run' [0, 1, 3, 4, 6, 7, 11] rfl ?_
 refine DD.act 2 rfl rfl rfl rfl rfl (Ef.call rfl (Check_t k.b p.b _ hk.b)) (by rintro _ _ _ ⟨_, rfl, rfl, rfl, rfl⟩; exact ⟨Le.refl _, rfl, .inl rfl⟩) ?_
 rintro _ _ _ ⟨_, rfl, rfl, rfl, rfl⟩
 refine DD.act 5 rfl rfl rfl rfl rfl (Ef.call rfl (CheckRow_t k.ro p.r _ hk.r)) ((by rintro _ _ _ ⟨_, rfl, rfl, rfl, hl⟩; exact ⟨hl, rfl, .inl rfl⟩)) ?_
 rintro _ _ _ ⟨_, rfl, rfl, rfl, hle⟩
 rename_i L1
 have hk1 := hk.le hle
 rw [ok.b, ok.r]
 refine DD.act 8 rfl rfl rfl rfl rfl (Ef.call rfl (Check_sp k.s p.s _ hk1.s ok.sm)) ((by rintro _ _ _ ⟨_, rfl, rfl, rfl, rfl⟩; exact ⟨hle, rfl, .inl rfl⟩)) ?_
 rintro _ _ _ ⟨_, rfl, rfl, rfl, rfl⟩
 rw [ok.s]
 refine DD.run' [9, 10] rfl ?_
 refine .fin rfl ?_
 refine W.go 99 rfl ?_
 have hl6 := ok.l6
 have hal := ok.al
 refine W.loop (fun m' E B L' => ∃ i : Nat, m' = 3 - i ∧ i ≤ 3 ∧ L1 = L' ∧ E = [(1, .p 0 0), (20, .sl 1 0 3 3), (21, .v (.int .i64 3)), (22, .v (.int .i64 i))] ∧ B = [some ⟨(bkL k p).map .v, 56⟩, some ⟨[.v (.int .i64 0), .v (.int .i64 0), .v (.int .i64 0)], 39⟩])
  ⟨0, rfl, Nat.zero_le _, rfl, rfl, rfl⟩ (by exact ⟨rfl, rfl, rfl, rfl, trivial⟩) (by exact ⟨rfl, rfl, trivial⟩) ?_
 rintro _ _ _ _ ⟨i, rfl, hi, rfl, rfl, rfl⟩ again
 have hc : i = 0 ∨ i = 1 ∨ i = 2 ∨ i = 3 := by omega
 rcases hc with rfl | rfl | rfl | rfl
 ·rw [show ((0 : Nat) : Int) = 0 from rfl]
  refine W.go 99 rfl ?_
  refine W.split rfl rfl rfl (fun c => ?_) (fun c => absurd c (by decide))
  refine W.go 99 rfl ?_
  refine W.vf rfl rfl rfl rfl (Vf.idxSl (i := 0) rfl rfl rfl rfl rfl rfl (by decide)) ?_
  refine W.go 99 rfl ?_
  refine W.split rfl rfl rfl (fun c => absurd c (by decide)) (fun c => ?_)
  refine W.go 99 rfl ?_
  exact W.again (again _ _ _ _ (by omega) ⟨1, rfl, by omega, rfl, rfl, rfl⟩) ⟨rfl, rfl, rfl, congrArg some rfl, trivial⟩ ⟨rfl, rfl, trivial⟩
 ·rw [show ((1 : Nat) : Int) = 1 from rfl]
  refine W.go 99 rfl ?_
  refine W.split rfl rfl rfl (fun c => ?_) (fun c => absurd c (by decide))
  refine W.go 99 rfl ?_
  refine W.vf rfl rfl rfl rfl (Vf.idxSl (i := 1) rfl rfl rfl rfl rfl rfl (by decide)) ?_
  refine W.go 99 rfl ?_
  refine W.split rfl rfl rfl (fun c => absurd c (by decide)) (fun c => ?_)
  refine W.go 99 rfl ?_
  exact W.again (again _ _ _ _ (by omega) ⟨2, rfl, by omega, rfl, rfl, rfl⟩) ⟨rfl, rfl, rfl, congrArg some rfl, trivial⟩ ⟨rfl, rfl, trivial⟩
 ·rw [show ((2 : Nat) : Int) = 2 from rfl]
  refine W.go 99 rfl ?_
  refine W.split rfl rfl rfl (fun c => ?_) (fun c => absurd c (by decide))
  refine W.go 99 rfl ?_
  refine W.vf rfl rfl rfl rfl (Vf.idxSl (i := 2) rfl rfl rfl rfl rfl rfl (by decide)) ?_
  refine W.go 99 rfl ?_
  refine W.split rfl rfl rfl (fun c => absurd c (by decide)) (fun c => ?_)
  refine W.go 99 rfl ?_
  exact W.again (again _ _ _ _ (by omega) ⟨3, rfl, by omega, rfl, rfl, rfl⟩) ⟨rfl, rfl, rfl, congrArg some rfl, trivial⟩ ⟨rfl, rfl, trivial⟩
 ·clear again
  rw [show ((3 : Nat) : Int) = 3 from rfl]
  refine W.go 99 rfl ?_
  refine W.split rfl rfl rfl (fun c => absurd c (by decide)) (fun c => ?_)
  refine W.go 99 rfl ?_
  refine W.split rfl rfl rfl (fun h => absurd h (by simp; omega)) (fun _ => ?_)
  refine W.go 99 rfl ?_
  refine W.loop (fun m' E B L' => ∃ i : Nat, m' = k.ls.length - i ∧ i ≤ k.ls.length ∧ Le L1 L' ∧ E = [(1, .p 0 0), (35, .v (.slice p.la k.ls.length p.lc)), (36, .v (.int .i64 k.ls.length)), (37, .v (.int .i64 i))] ∧ B = [some ⟨(bkL k p).map .v, 56⟩])
   ⟨0, rfl, Nat.zero_le _, Le.refl _, rfl, rfl⟩ (by exact ⟨rfl, rfl, rfl, rfl, trivial⟩) (by exact ⟨rfl, trivial⟩) ?_
  rintro _ _ _ L2 ⟨i, rfl, hi, hl2, rfl, rfl⟩ again
  refine W.go 99 rfl ?_
  refine W.split rfl rfl rfl (fun c1 => W.go 99 rfl ?_) (fun c1 => W.go 99 rfl ?_)
  ·have hi : i < k.ls.length := by simpa using c1
   have hk2 := hk1.le hl2
   obtain ⟨a, ha⟩ := hk2.l.addr hi
   have hl := hk2.l
   rw [ha] at hl ⊢
   have hx := List.getElem?_eq_getElem hi
   obtain ⟨q1, q2, v, aa, q3⟩ := ok.ln _ (List.getElem_mem hi)
   generalize k.ls[i] = x at hx q1 q2 q3
   refine W.vf rfl rfl rfl rfl (Vf.idx1 rfl rfl rfl rfl rfl rfl rfl (hi)) ?_
   refine W.go 99 rfl ?_
   refine W.vf rfl rfl rfl rfl (Vf.load rfl rfl rfl (str_at hl hx)) ?_
   refine W.go 99 rfl ?_
   refine W.eff rfl rfl rfl (Ef.call rfl (ReplaceAll_t x _ q2)) ?_
   rintro _ _ _ ⟨_, rfl, rfl, rfl, rfl⟩
   refine W.go 99 rfl ?_
   refine W.eff rfl rfl rfl (Ef.call rfl (Parse_t x v aa _ (by omega) q3)) ?_
   rintro _ _ _ ⟨_, rfl, rfl, ad, cap, rfl, hg⟩
   refine W.go 99 rfl ?_
   refine W.split rfl rfl rfl (fun c => absurd c (by decide)) (fun c => ?_)
   refine W.go 99 rfl ?_
   exact W.again (again _ _ _ _ (by omega) ⟨i + 1, rfl, hi, hl2.trans hg.1, rfl, rfl⟩) ⟨rfl, congrArg (fun a => some (SV.v (.slice a _ _))) ha.symm, rfl, congrArg some (inc64 (by omega)), trivial⟩ ⟨rfl, trivial⟩
  ·clear again c1 hi
   have hk2 := hk1.le hl2
   refine W.eff rfl rfl rfl (Ef.call rfl (torn_t p.la p.lc k.ls _ hk2.l (by omega) (fun x hx => (ok.ln x hx).2.1))) ?_
   rintro _ _ _ ⟨_, rfl, rfl, rfl, rfl⟩
   refine W.go 99 rfl ?_
   refine W.split rfl rfl rfl (fun c => absurd c (by decide)) (fun c => ?_)
   refine W.go 99 rfl ?_
   refine W.split rfl rfl rfl (fun h => absurd h (by rw [ok.al]; simp)) (fun _ => ?_)
   refine W.go 99 rfl ?_
   refine W.loop (fun m' E B L' => ∃ i : Nat, m' = k.an.length - i ∧ i ≤ k.an.length ∧ L2 = L' ∧ E = [(63, .v (.slice p.aa k.an.length p.ac)), (64, .v (.int .i64 k.an.length)), (65, .v (.int .i64 i))] ∧ B = [])
    ⟨0, rfl, Nat.zero_le _, rfl, rfl, rfl⟩ (by exact ⟨rfl, rfl, rfl, trivial⟩) (by exact trivial) ?_
   rintro _ _ _ _ ⟨i, rfl, hi, rfl, rfl, rfl⟩ again
   refine W.go 99 rfl ?_
   refine W.split rfl rfl rfl (fun c1 => W.go 99 rfl ?_) (fun c1 => W.go 99 rfl ?_)
   ·have hi : i < k.an.length := by simpa using c1
    obtain ⟨a, ha⟩ := hk2.a.addr hi
    have hl := hk2.a
    rw [ha] at hl ⊢
    have hx := List.getElem?_eq_getElem hi
    have q1 := ok.a40 _ (List.getElem_mem hi)
    generalize k.an[i] = x at hx q1
    refine W.vf rfl rfl rfl rfl (Vf.idx1 rfl rfl rfl rfl rfl rfl rfl (hi)) ?_
    refine W.go 99 rfl ?_
    refine W.vf rfl rfl rfl rfl (Vf.load rfl rfl rfl (str_at hl hx)) ?_
    refine W.go 99 rfl ?_
    refine W.split rfl rfl rfl (fun h => absurd h (by simp; omega)) (fun _ => ?_)
    refine W.go 99 rfl ?_
    exact W.again (again _ _ _ _ (by omega) ⟨i + 1, rfl, hi, rfl, rfl, rfl⟩) ⟨congrArg (fun a => some (SV.v (.slice a _ _))) ha.symm, rfl, congrArg some (inc64 (by omega)), trivial⟩ trivial
   ·refine W.ret r rfl rfl ?_
    exact ⟨rfl, hle.trans hl2⟩
end Go.Mz


set_option maxRecDepth 100000
namespace Go.Mz
open Go.Conc Go.Proofs
variable {X : Logic Tryz.prog}
def actV (v : Nat) (ad : Option Addr) (cap : Nat) (a : List Int) : Value :=
 if v = 3 then .iface 209 (.agg #[.int .i64 (a.getD 0 0)]) else if v = 4 then .iface 153 (.agg #[.int .i64 (a.getD 0 0)]) else if v = 5 then .iface 155 (.agg #[.int .i64 (a.getD 0 0)])
 else if v = 6 then .iface 157 (.agg #[]) else .iface 252 (.agg #[.int .i64 v, .slice ad a.length cap])
theorem newAct_t (v : Nat) (ad : Option Addr) (cap : Nat) (a : List Int) (L : LH) (hv : v < 7) (hn : a.length = sizeV v) (ha : IntsAt L ad a) : Sp X 132 [.agg #[.int .i64 v, .slice ad a.length cap]] L (fun u L' => u = actV v ad cap a ∧ L = L') := by
 have hc : v = 0 ∨ v = 1 ∨ v = 2 ∨ v = 3 ∨ v = 4 ∨ v = 5 ∨ v = 6 := by omega
 have h0 : (hl : 0 < a.length) → a[0]? = some (a.getD 0 0) := fun hl => by
  rw [List.getD_eq_getElem?_getD, List.getElem?_eq_getElem hl]; rfl
 rcases hc with rfl | rfl | rfl | rfl | rfl | rfl | rfl
 ·refine Sp.enter (n := 36) Tryz.func132 rfl rfl rfl rfl fun C hX _ hL0 r => ?_
  refine W.go 99 rfl ?_
  refine W.split rfl rfl rfl (fun c => absurd c (by decide)) (fun c => ?_)
  refine W.go 99 rfl ?_
  refine W.split rfl rfl rfl (fun c => absurd c (by decide)) (fun c => ?_)
  refine W.go 99 rfl ?_
  refine W.split rfl rfl rfl (fun c => absurd c (by decide)) (fun c => ?_)
  refine W.go 99 rfl ?_
  refine W.split rfl rfl rfl (fun c => absurd c (by decide)) (fun c => ?_)
  refine W.go 99 rfl ?_
  exact W.ret r rfl rfl ⟨rfl, rfl⟩
 ·refine Sp.enter (n := 36) Tryz.func132 rfl rfl rfl rfl fun C hX _ hL0 r => ?_
  refine W.go 99 rfl ?_
  refine W.split rfl rfl rfl (fun c => absurd c (by decide)) (fun c => ?_)
  refine W.go 99 rfl ?_
  refine W.split rfl rfl rfl (fun c => absurd c (by decide)) (fun c => ?_)
  refine W.go 99 rfl ?_
  refine W.split rfl rfl rfl (fun c => absurd c (by decide)) (fun c => ?_)
  refine W.go 99 rfl ?_
  refine W.split rfl rfl rfl (fun c => absurd c (by decide)) (fun c => ?_)
  refine W.go 99 rfl ?_
  exact W.ret r rfl rfl ⟨rfl, rfl⟩
 ·refine Sp.enter (n := 36) Tryz.func132 rfl rfl rfl rfl fun C hX _ hL0 r => ?_
  refine W.go 99 rfl ?_
  refine W.split rfl rfl rfl (fun c => absurd c (by decide)) (fun c => ?_)
  refine W.go 99 rfl ?_
  refine W.split rfl rfl rfl (fun c => absurd c (by decide)) (fun c => ?_)
  refine W.go 99 rfl ?_
  refine W.split rfl rfl rfl (fun c => absurd c (by decide)) (fun c => ?_)
  refine W.go 99 rfl ?_
  refine W.split rfl rfl rfl (fun c => absurd c (by decide)) (fun c => ?_)
  refine W.go 99 rfl ?_
  exact W.ret r rfl rfl ⟨rfl, rfl⟩
 ·have hl : 0 < a.length := by rw [hn]; decide
  obtain ⟨ad', rfl⟩ := ha.addr hl
  refine Sp.enter (n := 36) Tryz.func132 rfl rfl rfl rfl fun C hX _ hL0 r => ?_
  refine W.go 99 rfl ?_
  refine W.split rfl rfl rfl (fun c => ?_) (fun c => absurd c (by decide))
  refine W.go 99 rfl ?_
  refine W.vf rfl rfl rfl rfl (Vf.idx1 rfl rfl rfl rfl rfl rfl rfl ((show 0 < a.length from hl))) ?_
  refine W.go 99 rfl ?_
  refine W.vf rfl rfl rfl rfl (Vf.load rfl rfl rfl (ha.int (h0 hl))) ?_
  refine W.go 99 rfl ?_
  exact W.ret r rfl rfl ⟨rfl, rfl⟩
 ·have hl : 0 < a.length := by rw [hn]; decide
  obtain ⟨ad', rfl⟩ := ha.addr hl
  refine Sp.enter (n := 36) Tryz.func132 rfl rfl rfl rfl fun C hX _ hL0 r => ?_
  refine W.go 99 rfl ?_
  refine W.split rfl rfl rfl (fun c => absurd c (by decide)) (fun c => ?_)
  refine W.go 99 rfl ?_
  refine W.split rfl rfl rfl (fun c => ?_) (fun c => absurd c (by decide))
  refine W.go 99 rfl ?_
  refine W.vf rfl rfl rfl rfl (Vf.idx1 rfl rfl rfl rfl rfl rfl rfl ((show 0 < a.length from hl))) ?_
  refine W.go 99 rfl ?_
  refine W.vf rfl rfl rfl rfl (Vf.load rfl rfl rfl (ha.int (h0 hl))) ?_
  refine W.go 99 rfl ?_
  exact W.ret r rfl rfl ⟨rfl, rfl⟩
 ·have hl : 0 < a.length := by rw [hn]; decide
  obtain ⟨ad', rfl⟩ := ha.addr hl
  refine Sp.enter (n := 36) Tryz.func132 rfl rfl rfl rfl fun C hX _ hL0 r => ?_
  refine W.go 99 rfl ?_
  refine W.split rfl rfl rfl (fun c => absurd c (by decide)) (fun c => ?_)
  refine W.go 99 rfl ?_
  refine W.split rfl rfl rfl (fun c => absurd c (by decide)) (fun c => ?_)
  refine W.go 99 rfl ?_
  refine W.split rfl rfl rfl (fun c => ?_) (fun c => absurd c (by decide))
  refine W.go 99 rfl ?_
  refine W.vf rfl rfl rfl rfl (Vf.idx1 rfl rfl rfl rfl rfl rfl rfl ((show 0 < a.length from hl))) ?_
  refine W.go 99 rfl ?_
  refine W.vf rfl rfl rfl rfl (Vf.load rfl rfl rfl (ha.int (h0 hl))) ?_
  refine W.go 99 rfl ?_
  exact W.ret r rfl rfl ⟨rfl, rfl⟩
 ·refine Sp.enter (n := 36) Tryz.func132 rfl rfl rfl rfl fun C hX _ hL0 r => ?_
  refine W.go 99 rfl ?_
  refine W.split rfl rfl rfl (fun c => absurd c (by decide)) (fun c => ?_)
  refine W.go 99 rfl ?_
  refine W.split rfl rfl rfl (fun c => absurd c (by decide)) (fun c => ?_)
  refine W.go 99 rfl ?_
  refine W.split rfl rfl rfl (fun c => absurd c (by decide)) (fun c => ?_)
  refine W.go 99 rfl ?_
  refine W.split rfl rfl rfl (fun c => ?_) (fun c => absurd c (by decide))
  refine W.go 99 rfl ?_
  exact W.ret r rfl rfl ⟨rfl, rfl⟩
structure AP where
 v : Nat
 a : List Int
 ad : Option Addr
 cap : Nat
def AP.x (u : AP) : Nat × List Int := (u.v, u.a)
abbrev AP.u (u : AP) : Value := actV u.v u.ad u.cap u.a
abbrev encU (u : AP) : List Value := [u.u]
theorem encU_len (u : AP) : (encU u).length = 1 := rfl
theorem encU_sg (x : AP) : ∀ u ∈ encU x, single u = true := fun u hu => by
 rw [List.mem_singleton.1 hu]
 unfold AP.u actV
 repeat' split
 all_goals rfl
def ActsAt (L : LH) (us : List AP) : Prop := ∀ u ∈ us, IntsAt L u.ad u.a
theorem ActsAt.le {L L' : LH} {us : List AP} (h : ActsAt L us) (hl : Le L L') : ActsAt L' us := fun u hu => (h u hu).le hl
structure CkAt (L : LH) (bc : Nat) (k : Bk) (p : Kp) (xs : List (Nat × List Int)) (us : List AP) (ua : Option Addr) (uc : Nat) : Prop where
 o : L bc = some (.cells (bkL k p ++ [Value.slice ua us.length uc]).toArray 195 (0, 0), true)
 k : BkAt L k p
 s : SlAt L ua 1 encU us
 a : ActsAt L us
 x : us.map AP.x = xs
 c : us.length ≤ uc
theorem actV_if {u : Value} {v : Nat} {ad : Option Addr} {cap : Nat} {a : List Int} (h : u = actV v ad cap a) : ∃ t w, u = .iface t w := by
 unfold actV at h
 split at h
 ·exact ⟨_, _, h⟩
 ·split at h
  ·exact ⟨_, _, h⟩
  ·split at h
   ·exact ⟨_, _, h⟩
   ·split at h <;> exact ⟨_, _, h⟩
theorem Grow.base {α : Type} {I L1 L2 : LH} {k : Nat} {e : TypeId} {enc : α → List Value} {v : Value} {l : List α} (h : Grow I k e enc L1 v l) (h2 : Le L1 L2) : ∃ J, Le I J ∧ Le J L2 ∧ Grow J k e enc L2 v l ∧ ∀ b, L1 b = none → J b = L2 b := by
 obtain ⟨h1, ob, ho, hn⟩ := h
 cases ob with
 | none => exact ⟨L2, h1.trans h2, Le.refl _, ⟨Le.refl _, none, ho.le h2, fun b hb => by cases hb⟩, fun _ _ => rfl⟩
 | some c =>
  have hJ : ∀ b, b ≠ c → (fun b => if b = c then none else L2 b : LH) b = L2 b := fun b hb => if_neg hb
  have hc : (fun b => if b = c then none else L2 b : LH) c = none := if_pos rfl
  refine ⟨fun b => if b = c then none else L2 b, fun b x hx => ?_, fun b x hx => ?_, ⟨fun b x hx => ?_, some c, ho.le h2, fun b hb => by cases hb; exact hc⟩, fun b hb => ?_⟩
  ·have e : b ≠ c := fun e => by subst e; rw [hn _ rfl] at hx; cases hx
   exact (hJ b e).trans (h2 _ _ (h1 _ _ hx))
  ·by_cases e : b = c
   ·subst e; rw [show (fun b' => if b' = b then none else L2 b' : LH) b = none from if_pos rfl] at hx; cases hx
   ·rw [hJ b e] at hx; exact hx
  ·by_cases e : b = c
   ·subst e; rw [show (fun b' => if b' = b then none else L2 b' : LH) b = none from if_pos rfl] at hx; cases hx
   ·rw [hJ b e] at hx; exact hx
  ·exact hJ b fun e => by subst e; exact ho.blk hb
theorem Grow.under {α : Type} {I J L : LH} {k : Nat} {e : TypeId} {enc : α → List Value} {ad : Option Addr} {len cap : Nat} {l : List α} (h : Grow I k e enc L (.slice ad len cap) l) (hk : ∀ x, (enc x).length = k) (hJ : ∀ b, I b = none → J b = L b) : SlAt J ad k enc l := by
 obtain ⟨_, ob, h2, h3⟩ := h
 obtain ⟨_, _, e1, _⟩ := h2.slice
 cases e1
 exact (h2.keep fun b hb => hJ b (h3 b hb)).at hk
theorem newClerk_t (k : Bk) (p : Kp) (la : Option Addr) (lc : Nat) (ls : List Bs) (xs : List (Nat × List Int)) (L : LH) (hk : BkAt L k p) (hl : SlAt L la 1 encS ls) (h6 : ls.length ≤ 6) (hn : ∀ l ∈ ls, l.length ≤ 100) (hp : ls.map parseB = xs.map some) :
  Sp X 94 [bkA k p, .slice la ls.length lc] L (fun v L' => ∃ bc us ua uc, v = pt bc ∧ L bc = none ∧ Le L L' ∧ CkAt L' bc { k with ls := ls } { p with la := la, lc := lc } xs us ua uc) := by
 refine Sp.enter (n := 42) Tryz.func94 rfl rfl rfl rfl fun C hX _ hL0 r => ?_
 refine W.go 99 rfl ?_
 have hxl : ls.length = xs.length := by have := congrArg List.length hp; simpa using this
 refine W.loop (fun m' E B L' => ∃ (i : Nat) (us : List AP) (ua : Option Addr) (uc : Nat) (I : LH), m' = ls.length - i ∧ i ≤ ls.length ∧ us.map AP.x = xs.take i ∧ Le L I ∧ ActsAt I us ∧ Grow I 1 159 encU L' (.slice ua i uc) us ∧
   E = [(5, .p 1 0), (18, .v (.slice la ls.length lc)), (19, .v (.int .i64 ls.length)), (20, .v (.int .i64 i))] ∧ B = [some ⟨(bkL k p).map .v, 56⟩, some ⟨(bkL { k with ls := ls } { p with la := la, lc := lc } ++ [Value.slice ua i uc]).map .v, 195⟩])
  ⟨0, [], none, 0, L, rfl, Nat.zero_le _, rfl, Le.refl _, fun u hu => by simp at hu, Grow.nil (Le.refl _), rfl, rfl⟩ (by exact ⟨rfl, rfl, rfl, rfl, trivial⟩) (by exact ⟨rfl, rfl, trivial⟩) ?_
 rintro _ _ _ L1 ⟨i, us, ua, uc, I, rfl, hi, hx, hLI, hus, hg, rfl, rfl⟩ again
 have hui : us.length = i := by
  have := congrArg List.length hx
  rw [List.length_map, List.length_take] at this; omega
 refine W.go 99 rfl ?_
 refine W.split rfl rfl rfl (fun c1 => W.go 99 rfl ?_) (fun c1 => W.go 99 rfl ?_)
 ·have hi : i < ls.length := by simpa using c1
  obtain ⟨a, rfl⟩ := hl.addr hi
  have hlx := List.getElem?_eq_getElem hi
  have hxi : i < xs.length := by omega
  have hxx := List.getElem?_eq_getElem hxi
  have hps : parseB ls[i] = some xs[i] := by
   have := congrArg (fun l => l[i]?) hp
   simp only [List.getElem?_map, hlx, hxx, Option.map_some] at this
   exact Option.some.inj this
  have hln := hn _ (List.getElem_mem hi)
  have htk : xs.take (i + 1) = xs.take i ++ [xs[i]] := List.take_succ_eq_append_getElem hxi
  generalize ls[i] = l at hlx hps hln
  generalize xs[i] = x at hxx hps htk
  obtain ⟨v, aa⟩ := x
  obtain ⟨_, _, hv7, hsz, hag⟩ := parse_some hps
  have hsz : aa.length = sizeV v := by rw [argsB_len hag]; exact hsz
  refine W.vf rfl rfl rfl rfl (Vf.idx1 rfl rfl rfl rfl rfl rfl rfl (hi)) ?_
  refine W.go 99 rfl ?_
  refine W.vf rfl rfl rfl rfl (Vf.load rfl rfl rfl (str_at (hl.le (hLI.trans hg.1)) hlx)) ?_
  refine W.go 99 rfl ?_
  refine W.eff rfl rfl rfl (Ef.call rfl (Parse_t l v aa _ (by omega) hps)) ?_
  rintro _ _ _ ⟨_, rfl, rfl, ad, cap, rfl, hpg⟩
  rename_i L2
  have hat := (hpg.at encI_len).2
  refine W.go 99 rfl ?_
  refine W.drawn (by kernel_rfl) noL (noL_le _) ?_
  refine DD.run' [0, 1, 2, 3, 4, 5] rfl ?_
  refine DD.act 6 rfl rfl rfl rfl rfl (Ef.call rfl (newAct_t v ad cap aa _ hv7 hsz hat)) (by rintro _ _ _ ⟨_, rfl, rfl, _⟩; exact ⟨noL_le _, rfl, .inl rfl⟩) ?_
  rintro _ _ _ ⟨u, rfl, rfl, hu, rfl⟩
  obtain ⟨t1, w1, rfl⟩ := actV_if hu
  refine DD.run' [7] rfl ?_
  obtain ⟨J, hIJ, _, hg2, hJ⟩ := hg.base hpg.1
  have hus2 : ActsAt J (us ++ [(⟨v, aa, ad, cap⟩ : AP)]) := fun u hu => by
   rcases List.mem_append.1 hu with hu | hu
   ·exact (hus u hu).le hIJ
   ·rw [List.mem_singleton.1 hu]; exact hpg.under encI_len hJ
  refine DD.act 8 rfl rfl rfl rfl rfl (Ef.grow rfl rfl rfl rfl rfl rfl rfl rfl rfl encU_len encU_sg hg2 (ls := [(⟨v, aa, ad, cap⟩ : AP)]) (.own rfl rfl rfl (congrArg (fun u => some [u]) hu)) (by rw [List.length_singleton]; omega)) ((by rintro _ _ _ ⟨_, rfl, rfl, _, _⟩; exact ⟨noL_le _, rfl, .inl rfl⟩)) ?_
  rintro _ _ _ ⟨v1, rfl, rfl, hg3, _⟩
  obtain ⟨ad1, cap1, rfl, _⟩ := hg3.slice
  rw [show (us ++ [(⟨v, aa, ad, cap⟩ : AP)]).length = i + 1 by rw [List.length_append, List.length_singleton, hui]] at hg3 ⊢
  refine DD.run' [9, 10] rfl ?_
  refine DD.act 11 rfl rfl rfl rfl rfl (Ef.sto rfl) (by rintro _ _ _ ⟨rfl, rfl, rfl⟩; exact ⟨noL_le _, rfl, .inr rfl⟩) ?_
  rintro _ _ _ ⟨rfl, rfl, rfl⟩
  refine .fin rfl ?_
  refine W.go 99 rfl ?_
  exact W.again (again _ _ _ _ (by omega) ⟨i + 1, us ++ [(⟨v, aa, ad, cap⟩ : AP)], ad1, cap1, J, rfl, hi, by rw [List.map_append, hx, htk]; rfl, hLI.trans hIJ, hus2, hg3, rfl, rfl⟩) (by exact ⟨rfl, rfl, rfl, congrArg some (inc64 (by omega)), trivial⟩) (by exact ⟨rfl, rfl, trivial⟩)
 ·have hie : i = ls.length := by simp at c1; omega
  refine W.pub 4 (.inl ⟨_, rfl⟩) rfl rfl ?_
  intro bc hbc _
  refine W.ret r rfl rfl ?_
  have hle := hLI.trans hg.1
  have hp2 := Le.put hbc (.cells (bkL { k with ls := ls } { p with la := la, lc := lc } ++ [Value.slice ua i uc]).toArray 195)
  have hcap : us.length ≤ uc := by
   rw [← hui] at hg
   obtain ⟨_, _, g1, g2⟩ := hg.slice
   cases g1; exact g2
  refine ⟨bc, us, ua, uc, rfl, none_of_le hle hbc, hle.trans hp2, ?_, ?_, ?_, ?_, ?_, hcap⟩
  ·rw [hui]; exact put_same _ _ _
  ·have h1 := hk.le (hle.trans hp2)
   exact ⟨h1.b, h1.r, h1.s, hl.le (hle.trans hp2), h1.a⟩
  ·rw [← hui] at hg
   exact (hg.at encU_len).2.le hp2
  ·exact hus.le (hg.1.trans hp2)
  ·rw [hx, List.take_of_length_le (by omega)]
end Go.Mz


namespace Go.Mz
open Go
def inS (x : Int) (s : Spn) : Prop := s.lo ≤ x ∧ x ≤ s.hi
theorem inS_meet {x : Int} {a b : Spn} (h1 : inS x a) (h2 : inS x b) : inS x (meetS a b) := by
 unfold inS meetS at *
 dsimp only
 omega
theorem thread_in {b : Bl} {m0 m1 m2 t : Int} {k : Nat} (hm : b.marks = [m0, m1, m2]) (h1 : m0 < m1) (h2 : m1 < m2) (ht : -1048576 ≤ t ∧ t < 1048576) (hk : threadB b t = k) : inS t (marksB b k) := by
 unfold threadB at hk
 rw [hm] at hk
 unfold marksB inS
 rw [hm]
 simp only [List.countP_cons, List.countP_nil, decide_eq_true_eq] at hk
 by_cases a0 : m0 ≤ t <;> by_cases a1 : m1 ≤ t <;> by_cases a2 : m2 ≤ t <;> simp [a0, a1, a2] at hk <;> subst hk <;> simp <;> omega
theorem thread_mono {b : Bl} {s t : Int} (h : s ≤ t) : threadB b s ≤ threadB b t := by
 unfold threadB
 induction b.marks with
 | nil => exact Nat.le_refl _
 | cons m l ih =>
  rw [List.countP_cons, List.countP_cons]
  by_cases a : m ≤ s
  ·rw [if_pos (by simpa using a), if_pos (by simp; omega)]; omega
  ·rw [if_neg (by simpa using a)]; omega
theorem heats_in : ∀ {l : List Spn} {h : List Int}, h.length = l.length → (∀ (i : Nat) (x : Int) (s : Spn), h[i]? = some x → l[i]? = some s → inS x s) → h ∈ heatsL l
 | [], [], _, _ => List.mem_singleton.2 rfl
 | s :: l, x :: h, hl, hh => by
  unfold heatsL
  refine List.mem_flatMap.2 ⟨x, ?_, List.mem_map.2 ⟨h, heats_in (by simpa using hl) fun i y t h1 h2 => hh (i + 1) y t (by simpa using h1) (by simpa using h2), rfl⟩⟩
  have h0 := hh 0 x s rfl rfl
  unfold inS at h0
  unfold spanL
  exact List.mem_map.2 ⟨(x - s.lo).toNat, List.mem_range.2 (by omega), by omega⟩
structure RunOk (b : Bl) (xs h : List Int) : Prop where
 xl : xs.length = b.starts.length
 xi : ∀ (i : Nat) (x : Int) (s : Spn), xs[i]? = some x → b.starts[i]? = some s → inS x s
 hl : h.length = b.heats.length
 hi : ∀ (i : Nat) (x : Int) (s : Spn), h[i]? = some x → b.heats[i]? = some s → inS x s
def rightP (b : Bl) (xs h : List Int) (p : Prf) : Prop := inS (xs.getD p.pan.toNat 0 + thickB b h p.pan.toNat p.tick.toNat) (marksB b p.thread.toNat)
theorem group_in {b : Bl} {xs h : List Int} : ∀ (ps : List Prf) (g : List Spn), (∀ p ∈ ps, rightP b xs h p) → (∀ (i : Nat) (x : Int) (s : Spn), xs[i]? = some x → g[i]? = some s → inS x s) →
  ∀ (i : Nat) (x : Int) (s : Spn), xs[i]? = some x → (ps.foldl (fun g p => g.modify p.pan.toNat fun s => meetS s ⟨(marksB b p.thread.toNat).lo - thickB b h p.pan.toNat p.tick.toNat, (marksB b p.thread.toNat).hi - thickB b h p.pan.toNat p.tick.toNat⟩) g)[i]? = some s → inS x s
 | [], _, _, hg => hg
 | p :: ps, g, hp, hg => by
  rw [List.foldl_cons]
  refine group_in ps _ (fun q hq => hp q (List.mem_cons_of_mem _ hq)) fun i x s hx hs => ?_
  rw [List.getElem?_modify] at hs
  obtain ⟨s0, h0, hs⟩ := Option.map_eq_some_iff.1 (show Option.map _ g[i]? = some s from hs)
  have h1 := hg i x s0 hx h0
  subst hs
  by_cases e : p.pan.toNat = i
  ·rw [if_pos e]
   have h2 := hp p List.mem_cons_self
   unfold rightP at h2
   rw [e, List.getD_eq_getElem?_getD, hx, Option.getD_some] at h2
   refine inS_meet h1 ?_
   rw [e]
   unfold inS at h2 ⊢
   dsimp only
   omega
  ·rw [if_neg e]
   exact h1
theorem prod_pos {l : List Int} (h : ∀ x ∈ l, 0 < x) : 0 < prodL l := by
 have key : ∀ (l : List Int) (a : Int), 0 < a → (∀ x ∈ l, 0 < x) → 0 < l.foldl (· * ·) a := by
  intro l
  induction l with
  | nil => exact fun a ha _ => ha
  | cons x l ih => exact fun a ha hx => ih (a * x) (Int.mul_pos ha (hx x List.mem_cons_self)) fun y hy => hx y (List.mem_cons_of_mem _ hy)
 exact key l 1 (by decide) h
theorem group_len (b : Bl) (h : List Int) (ps : List Prf) : (groupB b h ps).length = b.starts.length := by
 unfold groupB
 generalize b.starts = g
 induction ps generalizing g with
 | nil => rfl
 | cons p ps ih => rw [List.foldl_cons, ih, List.length_modify]
theorem run_known {b : Bl} {xs h : List Int} {ps : List Prf} (hr : RunOk b xs h) (hp : ∀ p ∈ ps, rightP b xs h p) : (h, groupB b h ps) ∈ knownB b ps := by
 unfold knownB
 refine List.mem_filter.2 ⟨List.mem_map.2 ⟨h, heats_in hr.hl hr.hi, rfl⟩, ?_⟩
 have : 0 < sizeB (groupB b h ps) := prod_pos fun n hn => by
  obtain ⟨s, hs, rfl⟩ := List.mem_map.1 hn
  obtain ⟨i, hi⟩ := List.mem_iff_getElem?.1 hs
  have hl := (List.getElem?_eq_some_iff.1 hi).1
  rw [group_len, ← hr.xl] at hl
  have := group_in ps b.starts hp hr.xi i xs[i] s (List.getElem?_eq_getElem hl) hi
  unfold inS at this
  unfold numS
  omega
 exact decide_eq_true (by dsimp only; omega)
theorem strike_long {b : Bl} {xs h : List Int} (hr : RunOk b xs h) (hp : ∀ p ∈ b.proofs, rightP b xs h p) {pan t : Nat} (hpan : pan < b.starts.length) (ht : t ∈ strikeB b pan) : threadB b (xs.getD pan 0 + thickB b h pan t) = 2 := by
 unfold strikeB at ht
 have h1 := (List.mem_filter.1 ht).2
 unfold sureB at h1
 have h2 := List.all_eq_true.1 h1 _ (run_known hr hp)
 simp only [Bool.and_eq_true, beq_iff_eq] at h2
 have hl : pan < (groupB b h b.proofs).length := by rw [group_len]; exact hpan
 have hx : pan < xs.length := by rw [hr.xl]; exact hpan
 have h3 := group_in b.proofs b.starts hp hr.xi pan xs[pan] (groupB b h b.proofs)[pan] (List.getElem?_eq_getElem hx) (List.getElem?_eq_getElem hl)
 rw [List.getD_eq_getElem?_getD, List.getElem?_eq_getElem hl, Option.getD_some] at h2
 rw [List.getD_eq_getElem?_getD, List.getElem?_eq_getElem hx, Option.getD_some]
 unfold inS at h3
 have a1 := thread_mono (b := b) (s := (groupB b h b.proofs)[pan].lo + thickB b h pan t) (t := xs[pan] + thickB b h pan t) (by omega)
 have a2 := thread_mono (b := b) (s := xs[pan] + thickB b h pan t) (t := (groupB b h b.proofs)[pan].hi + thickB b h pan t) (by omega)
 omega
end Go.Mz


namespace Go.Mz
open Go
structure BlOk (b : Bl) : Prop where
 s1 : 1 ≤ b.starts.length
 s3 : b.starts.length ≤ 3
 sb : ∀ s ∈ b.starts, 0 ≤ s.lo ∧ s.lo ≤ s.hi ∧ s.hi ≤ 40
 rl : b.rates.length = b.starts.length
 rb : ∀ r ∈ b.rates, 1 ≤ r ∧ r ≤ 3
 mrk : ∃ m0 m1 m2, b.marks = [m0, m1, m2] ∧ 1 ≤ m0 ∧ m0 < m1 ∧ m1 < m2 ∧ m2 ≤ 60
 h1 : 1 ≤ b.heats.length
 h5 : b.heats.length ≤ 5
 hb : ∀ s ∈ b.heats, 0 ≤ s.lo ∧ s.lo ≤ s.hi ∧ s.hi ≤ 4
 p8 : b.proofs.length ≤ 8
 pb : ∀ p ∈ b.proofs, proofE b p = 0
theorem spanE_ok {s : Spn} {m : Int} (h : spanE s m = 0) : 0 ≤ s.lo ∧ s.lo ≤ s.hi ∧ s.hi ≤ m := by
 unfold spanE at h
 by_cases h1 : (!inB s.lo 0 m || !inB s.hi 0 m) = true
 ·rw [if_pos h1] at h; cases h
 ·rw [if_neg h1] at h
  by_cases h2 : s.hi < s.lo
  ·rw [if_pos h2] at h; cases h
  ·simp only [Bool.or_eq_true, Bool.not_eq_true', not_or, Bool.not_eq_false] at h1
   have a := inB_iff.1 h1.1
   have b := inB_iff.1 h1.2
   omega
theorem spanLE_ok {m : Int} : ∀ {l : List Spn}, spanLE m l = 0 → ∀ s ∈ l, 0 ≤ s.lo ∧ s.lo ≤ s.hi ∧ s.hi ≤ m
 | [], _, s, hs => by cases hs
 | x :: l, h, s, hs => by
  unfold spanLE at h
  by_cases h1 : spanE x m ≠ 0
  ·rw [if_pos h1] at h; exact absurd h h1
  ·rw [if_neg h1] at h
   rcases List.mem_cons.1 hs with rfl | hs
   ·exact spanE_ok (by simpa using h1)
   ·exact spanLE_ok h s hs
theorem sizedE_ok {n lo hi : Int} (h : sizedE n lo hi = 0) : lo ≤ n ∧ n ≤ hi := by
 unfold sizedE at h
 split at h
 ·cases h
 ·split at h
  ·cases h
  ·omega
theorem spansE_ok {l : List Spn} {many m : Int} (h : spansE l many m = 0) : 1 ≤ (l.length : Int) ∧ (l.length : Int) ≤ many ∧ ∀ s ∈ l, 0 ≤ s.lo ∧ s.lo ≤ s.hi ∧ s.hi ≤ m := by
 unfold spansE at h
 by_cases h1 : sizedE l.length 1 many ≠ 0
 ·rw [if_pos h1] at h; exact absurd h h1
 ·rw [if_neg h1] at h
  have := sizedE_ok (by simpa using h1)
  exact ⟨this.1, this.2, spanLE_ok h⟩
theorem ratesB_ok : ∀ {l : List Int}, ratesB l = true → ∀ r ∈ l, 1 ≤ r ∧ r ≤ 3
 | [], _, r, hr => by cases hr
 | x :: l, h, r, hr => by
  unfold ratesB at h
  rw [Bool.and_eq_true] at h
  rcases List.mem_cons.1 hr with rfl | hr
  ·exact inB_iff.1 h.1
  ·exact ratesB_ok h.2 r hr
theorem proofsE_ok {b : Bl} : ∀ {l : List Prf}, proofsE b l = 0 → ∀ p ∈ l, proofE b p = 0
 | [], _, p, hp => by cases hp
 | x :: l, h, p, hp => by
  unfold proofsE at h
  by_cases h1 : proofE b x ≠ 0
  ·rw [if_pos h1] at h; exact absurd h h1
  ·rw [if_neg h1] at h
   rcases List.mem_cons.1 hp with rfl | hp
   ·simpa using h1
   ·exact proofsE_ok h p hp
theorem marksE_ok {l : List Int} (h : marksE l = 0) : ∃ m0 m1 m2, l = [m0, m1, m2] ∧ 1 ≤ m0 ∧ m0 < m1 ∧ m1 < m2 ∧ m2 ≤ 60 := by
 unfold marksE at h
 by_cases h1 : l.length ≠ 3
 ·rw [if_pos h1] at h; cases h
 ·rw [if_neg h1] at h
  match l, h1 with
  | [a, b, c], _ =>
   split at h
   ·cases h
   ·rename_i h2
    split at h
    ·cases h
    ·rename_i h3
     simp only [List.all_cons, List.all_nil, Bool.and_true, Bool.not_eq_true', Bool.not_eq_false, Bool.and_eq_true] at h2
     have i1 := inB_iff.1 h2.1
     have i3 := inB_iff.1 h2.2.2
     simp only [List.getD_eq_getElem?_getD, List.getElem?_cons_zero, List.getElem?_cons_succ, Option.getD_some, not_or, Int.not_le] at h3
     exact ⟨a, b, c, rfl, i1.1, h3.1, h3.2, i3.2⟩
  | [], h1 => simp at h1
  | [_], h1 => simp at h1
  | [_, _], h1 => simp at h1
  | _ :: _ :: _ :: _ :: _, h1 => simp at h1
theorem bl_ok {b : Bl} (h : boilE b = 0) : BlOk b := by
 unfold boilE at h
 by_cases c1 : spansE b.starts 3 40 ≠ 0
 ·rw [if_pos c1] at h; exact absurd h c1
 rw [if_neg c1] at h
 by_cases c2 : b.rates.length ≠ b.starts.length
 ·rw [if_pos c2] at h; cases h
 rw [if_neg c2] at h
 by_cases c3 : (!ratesB b.rates) = true
 ·rw [if_pos c3] at h; cases h
 rw [if_neg c3] at h
 by_cases c4 : marksE b.marks ≠ 0
 ·rw [if_pos c4] at h; exact absurd h c4
 rw [if_neg c4] at h
 by_cases c5 : spansE b.heats 5 4 ≠ 0
 ·rw [if_pos c5] at h; exact absurd h c5
 rw [if_neg c5] at h
 by_cases c6 : 8 < b.proofs.length
 ·rw [if_pos c6] at h; cases h
 rw [if_neg c6] at h
 obtain ⟨a1, a2, a3⟩ := spansE_ok (by simpa using c1)
 obtain ⟨d1, d2, d3⟩ := spansE_ok (by simpa using c5)
 exact ⟨by omega, by omega, a3, by simpa using c2, ratesB_ok (by simpa using c3), marksE_ok (by simpa using c4), by omega, by omega, d3, by omega, proofsE_ok h⟩
theorem proofE_ok {b : Bl} {p : Prf} (h : proofE b p = 0) : 0 ≤ p.pan ∧ p.pan < b.starts.length ∧ 0 ≤ p.tick ∧ p.tick ≤ b.heats.length ∧ 0 ≤ p.thread ∧ p.thread ≤ 3 := by
 unfold proofE at h
 by_cases h1 : (!inB p.pan 0 ((b.starts.length : Int) - 1) || !inB p.tick 0 b.heats.length) = true
 ·rw [if_pos h1] at h; cases h
 ·rw [if_neg h1] at h
  by_cases h2 : (!inB p.thread 0 3) = true
  ·rw [if_pos h2] at h; cases h
  ·simp only [Bool.or_eq_true, Bool.not_eq_true', not_or, Bool.not_eq_false] at h1 h2
   have a := inB_iff.1 h1.1
   have b := inB_iff.1 h1.2
   have c := inB_iff.1 h2
   omega
structure Hs (b : Bl) (h : List Int) : Prop where
 len : h.length = b.heats.length
 l5 : h.length ≤ 5
 bd : ∀ x ∈ h, 0 ≤ x ∧ x ≤ 4
theorem heats_mem : ∀ {l : List Spn} {h : List Int}, h ∈ heatsL l → h.length = l.length ∧ ∀ (i : Nat) (x : Int) (s : Spn), h[i]? = some x → l[i]? = some s → inS x s
 | [], h, hh => by
  cases List.mem_singleton.1 hh
  exact ⟨rfl, fun i x s hx => by simp at hx⟩
 | s :: l, h, hh => by
  unfold heatsL at hh
  obtain ⟨n, hn, h2⟩ := List.mem_flatMap.1 hh
  obtain ⟨t, ht, rfl⟩ := List.mem_map.1 h2
  obtain ⟨e1, e2⟩ := heats_mem ht
  refine ⟨by simp [e1], fun i x q hx hq => ?_⟩
  cases i with
  | zero =>
   cases hx; cases hq
   unfold spanL at hn
   obtain ⟨k, hk, rfl⟩ := List.mem_map.1 hn
   have := List.mem_range.1 hk
   unfold inS
   omega
  | succ i => exact e2 i x q hx hq
theorem BlOk.hs {b : Bl} (h : BlOk b) {l : List Int} (hl : l ∈ heatsL b.heats) : Hs b l := by
 obtain ⟨e1, e2⟩ := heats_mem hl
 refine ⟨e1, by have := h.h5; omega, fun x hx => ?_⟩
 obtain ⟨i, hi⟩ := List.mem_iff_getElem?.1 hx
 have hlt := (List.getElem?_eq_some_iff.1 hi).1
 have := e2 i x b.heats[i] hi (List.getElem?_eq_getElem (by omega))
 have hb := h.hb b.heats[i] (List.getElem_mem (by omega))
 unfold inS at this
 omega
theorem thick_bd {b : Bl} (hb : BlOk b) {h : List Int} (hh : Hs b h) {pan : Nat} (hp : pan < b.starts.length) (t : Nat) : 0 ≤ thickB b h pan t ∧ thickB b h pan t ≤ 1500 := by
 have hp' : pan < b.rates.length := by rw [hb.rl]; exact hp
 have hx := hb.rb b.rates[pan] (List.getElem_mem hp')
 have hs := sumL_bd _ (h.take t) rfl fun x hx => by have := hh.bd x (List.mem_of_mem_take hx); omega
 have hlt : (h.take t).length ≤ 5 := by have := hh.l5; rw [List.length_take]; omega
 unfold thickB
 rw [List.getD_eq_getElem?_getD, List.getElem?_eq_getElem hp', Option.getD_some]
 have h1 : 0 ≤ b.rates[pan] * sumL (h.take t) := Int.mul_nonneg (by omega) hs.1
 have h2 : b.rates[pan] * sumL (h.take t) ≤ 3 * 500 := Int.mul_le_mul hx.2 (by omega) hs.1 (by omega)
 omega
def smS (s : Spn) : Prop := 0 ≤ s.lo ∧ s.lo ≤ 100 ∧ -2000000 ≤ s.hi ∧ s.hi ≤ 40
theorem marksB_bd {b : Bl} (hb : BlOk b) {k : Nat} (hk : k ≤ 3) : -1048576 ≤ (marksB b k).lo ∧ (marksB b k).lo ≤ 60 ∧ -1048576 ≤ (marksB b k).hi ∧ (marksB b k).hi ≤ 1048576 := by
 obtain ⟨m0, m1, m2, hm, h1, h2, h3, h4⟩ := hb.mrk
 unfold marksB
 rw [hm]
 have : k = 0 ∨ k = 1 ∨ k = 2 ∨ k = 3 := by omega
 rcases this with rfl | rfl | rfl | rfl <;> simp <;> omega
theorem group_sm {b : Bl} (hb : BlOk b) {h : List Int} (hh : Hs b h) : ∀ {ps : List Prf} {g : List Spn}, (∀ p ∈ ps, proofE b p = 0) → (∀ s ∈ g, smS s) →
  ∀ s ∈ ps.foldl (fun g p => g.modify p.pan.toNat fun s => meetS s ⟨(marksB b p.thread.toNat).lo - thickB b h p.pan.toNat p.tick.toNat, (marksB b p.thread.toNat).hi - thickB b h p.pan.toNat p.tick.toNat⟩) g, smS s
 | [], _, _, hg => hg
 | p :: ps, g, hp, hg => by
  rw [List.foldl_cons]
  refine group_sm hb hh (fun q hq => hp q (List.mem_cons_of_mem _ hq)) fun s hs => ?_
  obtain ⟨i, hi⟩ := List.mem_iff_getElem?.1 hs
  rw [List.getElem?_modify] at hi
  obtain ⟨s0, h0, h1⟩ := Option.map_eq_some_iff.1 (show Option.map _ g[i]? = some s from hi)
  have hs0 := hg s0 (List.mem_of_getElem? h0)
  subst h1
  by_cases e : p.pan.toNat = i
  ·rw [if_pos e]
   obtain ⟨q1, q2, q3, q4, q5, q6⟩ := proofE_ok (hp p List.mem_cons_self)
   have hm := marksB_bd hb (k := p.thread.toNat) (by omega)
   have ht := thick_bd hb hh (pan := p.pan.toNat) (by omega) p.tick.toNat
   unfold smS at hs0 ⊢
   unfold meetS
   dsimp only
   omega
  ·rw [if_neg e]; exact hs0
theorem starts_sm {b : Bl} (hb : BlOk b) : ∀ s ∈ b.starts, smS s := fun s hs => by
 have := hb.sb s hs
 unfold smS; omega
theorem num_bd {s : Spn} (h : smS s) : 0 ≤ numS s ∧ numS s ≤ 41 := by unfold smS at h; unfold numS; omega
theorem prod_bd : ∀ (l : List Int) (a : Int), (∀ x ∈ l, 0 ≤ x ∧ x ≤ 41) → 0 ≤ a → 0 ≤ l.foldl (· * ·) a ∧ l.foldl (· * ·) a ≤ a * 41 ^ l.length
 | [], a, _, ha => by simp [ha]
 | x :: l, a, h, ha => by
  rw [List.foldl_cons]
  have hx := h x List.mem_cons_self
  obtain ⟨h1, h2⟩ := prod_bd l (a * x) (fun y hy => h y (List.mem_cons_of_mem _ hy)) (Int.mul_nonneg ha hx.1)
  refine ⟨h1, Int.le_trans h2 ?_⟩
  rw [List.length_cons, Int.pow_succ, Int.mul_comm (41 ^ l.length) 41, ← Int.mul_assoc]
  exact Int.mul_le_mul_of_nonneg_right (Int.mul_le_mul_of_nonneg_left hx.2 ha) (Int.pow_nonneg (by decide))
theorem prodL_snoc (l : List Int) (x : Int) : prodL (l ++ [x]) = prodL l * x := by unfold prodL; rw [List.foldl_append]; rfl
theorem size_bd {l : List Int} (hl : l.length ≤ 3) (h : ∀ x ∈ l, 0 ≤ x ∧ x ≤ 41) : 0 ≤ prodL l ∧ prodL l ≤ 68921 := by
 obtain ⟨h1, h2⟩ := prod_bd l 1 h (by decide)
 refine ⟨h1, Int.le_trans h2 ?_⟩
 have : l.length = 0 ∨ l.length = 1 ∨ l.length = 2 ∨ l.length = 3 := by omega
 rcases this with e | e | e | e <;> rw [e] <;> decide
theorem spanL_nodup (s : Spn) : (spanL s).Nodup := by
 unfold spanL
 unfold List.Nodup
 rw [List.pairwise_map]
 exact List.nodup_range.imp fun h e => h (by omega)
theorem heatsL_nodup : ∀ l : List Spn, (heatsL l).Nodup
 | [] => by unfold heatsL; exact List.pairwise_singleton _ _
 | s :: l => by
  unfold heatsL List.Nodup
  rw [List.pairwise_flatMap]
  refine ⟨fun n _ => ?_, ?_⟩
  ·rw [List.pairwise_map]
   exact (heatsL_nodup l).imp fun h e => h (List.cons.inj e).2
  ·refine (spanL_nodup s).imp fun {a c} h x hx y hy e => ?_
   obtain ⟨t, _, rfl⟩ := List.mem_map.1 hx
   obtain ⟨u, _, rfl⟩ := List.mem_map.1 hy
   exact h (List.cons.inj e).1
theorem known_mem {b : Bl} {ps : List Prf} {x : List Int × List Spn} (h : x ∈ knownB b ps) : x.1 ∈ heatsL b.heats ∧ x.2 = groupB b x.1 ps := by
 unfold knownB at h
 obtain ⟨h1, _⟩ := List.mem_filter.1 h
 obtain ⟨t, ht, rfl⟩ := List.mem_map.1 h1
 exact ⟨ht, rfl⟩
theorem known_nodup (b : Bl) (ps : List Prf) : (knownB b ps).Pairwise fun x y => x.1 ≠ y.1 := by
 unfold knownB
 refine List.Pairwise.filter _ ?_
 rw [List.pairwise_map]
 exact (heatsL_nodup _).imp fun h e => h e
end Go.Mz


set_option maxRecDepth 100000
namespace Go.Mz
open Go.Conc Go.Proofs
variable {X : Logic Tryz.prog}
def padI (k : Nat) (h : List Int) : List Int := h ++ List.replicate (k - h.length) 0
def encH (h : List Int) : List Value := (padI 5 h).map (Value.int .i64)
def padSp (g : List Spn) : List Spn := g ++ List.replicate (3 - g.length) ⟨0, 0⟩
def encGs (g : List Spn) : List Value := (padSp g).flatMap encSp
abbrev HG := List Int × List Spn
def encG (x : HG) : List Value := encH x.1 ++ (encGs x.2 ++ [.int .i64 (sizeB x.2)])
theorem encH_len {h : List Int} (hl : h.length ≤ 5) : (encH h).length = 5 := by
 unfold encH padI
 simp
 omega
theorem encGs_len {g : List Spn} (hl : g.length ≤ 3) : (encGs g).length = 6 := by
 unfold encGs
 rw [flat_len encSp_len]
 unfold padSp
 simp
 omega
theorem encG_len {x : HG} (h1 : x.1.length ≤ 5) (h2 : x.2.length ≤ 3) : (encG x).length = 12 := by
 unfold encG
 rw [List.length_append, List.length_append, encH_len h1, encGs_len h2]; rfl
theorem encH_get {h : List Int} {i : Nat} {x : Int} (hi : h[i]? = some x) : (encH h)[i]? = some (.int .i64 x) := by
 obtain ⟨hl, hg⟩ := List.getElem?_eq_some_iff.1 hi
 unfold encH padI
 rw [List.getElem?_map, List.getElem?_append_left hl, hi]; rfl
structure BoAt (L : LH) (bb : Nat) (b : Bl) (p : BP) (m : Nat) : Prop where
 cell : ∀ (i : Nat) (v : Value), (blL b p ++ [.map (some m)])[i]? = some v → L.cell? ⟨bb, i, none⟩ = some v
 bl : BlAt L b p
theorem BoAt.le {L L' : LH} {bb : Nat} {b : Bl} {p : BP} {m : Nat} (h : BoAt L bb b p m) (hl : Le L L') : BoAt L' bb b p m := ⟨fun i v hv => hl.cell (h.cell i v hv), h.bl.le hl⟩
theorem heatsum_t (h : List Int) (t : Nat) (L : LH) (hl : h.length ≤ 5) (ht : t ≤ h.length) (hb : ∀ x ∈ h, 0 ≤ x ∧ x ≤ 4) : Sp X 166 [.agg (encH h).toArray, .int .i64 t] L (fun v L' => v = .int .i64 (sumL (h.take t)) ∧ L = L') := by
 refine Sp.enter (n := 18) Tryz.func166 rfl rfl rfl rfl fun C hX _ hL0 r => ?_
 refine W.go 99 rfl ?_
 refine W.loop (fun m' E B L' => ∃ i : Nat, m' = t - i ∧ i ≤ t ∧ E = [(2, .p 0 0), (5, .v (.int .i64 (sumL (h.take i)))), (7, .v (.int .i64 t)), (8, .v (.int .i64 i))] ∧ B = [some ⟨(encH h).map .v, 185⟩] ∧ L = L')
  ⟨0, rfl, by omega, rfl, rfl, rfl⟩ ⟨rfl, rfl, rfl, rfl, trivial⟩ ⟨rfl, trivial⟩ ?_ rfl (scB_v _ _ rfl)
 rintro _ _ _ _ ⟨i, rfl, h1, rfl, rfl, rfl⟩ again
 refine W.go 99 rfl ?_
 refine W.split rfl rfl rfl (fun d1 => ?_) (fun d1 => ?_)
 ·refine W.go 99 rfl ?_
  have hi : i < t := by simpa using d1
  have hih : i < h.length := by omega
  refine W.vf rfl rfl rfl rfl (Vf.idxA rfl rfl rfl rfl rfl rfl (show i < 5 by omega)) ?_
  have hc : nth (Bx.cells ⟨(encH h).map SV.v, 185⟩) (0 + i * 1) = some (.v (.int .i64 h[i])) := by show nth ((encH h).map SV.v) _ = _; rw [nth_eq, List.getElem?_map, Nat.zero_add, Nat.mul_one, encH_get (List.getElem?_eq_getElem hih)]; rfl
  refine W.vf rfl rfl rfl rfl (Vf.loadA rfl rfl rfl rfl (by exact hc)) ?_
  refine W.go 99 rfl ?_
  have htk : h.take (i + 1) = h.take i ++ [h[i]] := List.take_succ_eq_append_getElem hih
  have hs := sumL_bd _ (h.take i) rfl fun x hx => by have := hb x (List.mem_of_mem_take hx); omega
  have hx := hb h[i] (List.getElem_mem hih)
  have hlt : (h.take i).length ≤ 5 := by rw [List.length_take]; omega
  exact W.again (again _ _ _ _ (by omega) ⟨i + 1, rfl, by omega, rfl, rfl, rfl⟩) ⟨rfl, congrArg some (w64 (by rw [htk, sumL_add]) (by rw [htk, sumL_add]; omega) (by rw [htk, sumL_add]; omega)), rfl, congrArg some (inc64 (by omega)), trivial⟩ ⟨rfl, trivial⟩ rfl (scB_v _ _ rfl)
 ·refine W.go 99 rfl ?_
  have hi : i = t := by simp at d1; omega
  subst hi
  exact W.ret r rfl rfl ⟨rfl, rfl⟩
theorem add_t (bb : Nat) (b : Bl) (p : BP) (m : Nat) (h : List Int) (pan t : Nat) (L : LH) (hB : BoAt L bb b p m) (ok : BlOk b) (hh : Hs b h) (hpan : pan < b.starts.length) (ht : t ≤ b.heats.length) :
  Sp X 128 [pt bb, .agg (encH h).toArray, .int .i64 pan, .int .i64 t] L (fun v L' => v = .int .i64 (thickB b h pan t) ∧ L = L') := by
 have hp : pan < b.rates.length := by rw [ok.rl]; exact hpan
 obtain ⟨ad, had⟩ := hB.bl.h1.addr hp
 have h1 := hB.bl.h1
 rw [had] at h1
 have hc := hB.cell 1 (.slice p.a1 b.rates.length p.c1) rfl
 rw [had] at hc
 refine Sp.enter (n := 21) Tryz.func128 rfl rfl rfl rfl fun C hX _ hL0 r => ?_
 refine W.go 99 rfl ?_
 refine W.drawn (by kernel_rfl) _ (Le.refl _) ?_
 refine DD.run' [0, 1, 2, 3, 5, 9] rfl ?_
 refine DD.vf 4 rfl rfl rfl rfl rfl (Vf.load rfl rfl rfl (hc)) ?_
 refine DD.vf 6 rfl rfl rfl rfl rfl (Vf.idx1 rfl rfl rfl rfl rfl rfl rfl (hp)) ?_
 refine DD.vf 7 rfl rfl rfl rfl rfl (Vf.load rfl rfl rfl (h1.int (List.getElem?_eq_getElem hp))) ?_
 refine DD.vf 8 rfl rfl rfl rfl rfl (Vf.loadAll rfl rfl rfl rfl rfl (encH_len hh.l5)) ?_
 refine DD.act 10 rfl rfl rfl rfl rfl (Ef.call rfl (heatsum_t h t _ hh.l5 (by rw [hh.len]; exact ht) hh.bd)) (by rintro _ _ _ ⟨_, rfl, rfl, rfl, rfl⟩; exact ⟨Le.refl _, rfl, .inl rfl⟩) ?_
 rintro _ _ _ ⟨_, rfl, rfl, rfl, rfl⟩
 refine DD.run' [11, 12] rfl ?_
 refine .fin rfl ?_
 refine W.go 99 rfl ?_
 have hm := thick_bd ok hh hpan t
 have e : thickB b h pan t = b.rates[pan] * sumL (h.take t) := by unfold thickB; rw [List.getD_eq_getElem?_getD, List.getElem?_eq_getElem hp]; rfl
 rw [← e, wrap64_in _ (by omega) (by omega)]
 exact W.ret r rfl rfl ⟨rfl, rfl⟩
theorem thread_t (bb : Nat) (b : Bl) (p : BP) (m : Nat) (t : Int) (L : LH) (hB : BoAt L bb b p m) (ok : BlOk b) : Sp X 90 [pt bb, .int .i64 t] L (fun v L' => v = .int .i64 (threadB b t) ∧ L = L') := by
 obtain ⟨m0, m1, m2, hm, o1, o2, o3, o4⟩ := ok.mrk
 have h2 := hB.bl.h2
 rw [hm] at h2
 obtain ⟨ad, had⟩ := h2.addr (show 0 < [m0, m1, m2].length by simp)
 rw [had] at h2
 have hc := hB.cell 2 (.slice p.a2 b.marks.length p.c2) rfl
 rw [had, hm] at hc
 refine Sp.enter (n := 43) Tryz.func90 rfl rfl rfl rfl fun C hX _ hL0 r => ?_
 refine W.go 99 rfl ?_
 refine W.vf rfl rfl rfl rfl (Vf.load rfl rfl rfl (hc)) ?_
 refine W.go 99 rfl ?_
 refine W.vf rfl rfl rfl rfl (Vf.idx1 rfl rfl rfl rfl rfl rfl rfl ((show 2 < 3 by decide))) ?_
 refine W.go 99 rfl ?_
 refine W.vf rfl rfl rfl rfl (Vf.load rfl rfl rfl (h2.int (show [m0, m1, m2][2]? = some m2 from rfl))) ?_
 refine W.go 99 rfl ?_
 refine W.split rfl rfl rfl (fun c2 => W.go 99 rfl ?_) (fun c2 => W.go 99 rfl ?_)
 ·exact W.ret r rfl rfl ⟨by unfold threadB; rw [hm]; simp at c2; simp [c2, show m1 ≤ t by omega, show m0 ≤ t by omega, retV]; rfl, rfl⟩
 refine W.vf rfl rfl rfl rfl (Vf.load rfl rfl rfl (hc)) ?_
 refine W.go 99 rfl ?_
 refine W.vf rfl rfl rfl rfl (Vf.idx1 rfl rfl rfl rfl rfl rfl rfl ((show 1 < 3 by decide))) ?_
 refine W.go 99 rfl ?_
 refine W.vf rfl rfl rfl rfl (Vf.load rfl rfl rfl (h2.int (show [m0, m1, m2][1]? = some m1 from rfl))) ?_
 refine W.go 99 rfl ?_
 refine W.split rfl rfl rfl (fun c1 => W.go 99 rfl ?_) (fun c1 => W.go 99 rfl ?_)
 ·exact W.ret r rfl rfl ⟨by unfold threadB; rw [hm]; simp at c2 c1; simp [c1, show ¬ m2 ≤ t by omega, show m0 ≤ t by omega, retV]; rfl, rfl⟩
 refine W.vf rfl rfl rfl rfl (Vf.load rfl rfl rfl (hc)) ?_
 refine W.go 99 rfl ?_
 refine W.vf rfl rfl rfl rfl (Vf.idx1 rfl rfl rfl rfl rfl rfl rfl ((show 0 < 3 by decide))) ?_
 refine W.go 99 rfl ?_
 refine W.vf rfl rfl rfl rfl (Vf.load rfl rfl rfl (h2.int (show [m0, m1, m2][0]? = some m0 from rfl))) ?_
 refine W.go 99 rfl ?_
 refine W.split rfl rfl rfl (fun c0 => W.go 99 rfl ?_) (fun c0 => W.go 99 rfl ?_)
 ·exact W.ret r rfl rfl ⟨by unfold threadB; rw [hm]; simp at c2 c1 c0; simp [c0, show ¬ m2 ≤ t by omega, show ¬ m1 ≤ t by omega, retV]; rfl, rfl⟩
 ·exact W.ret r rfl rfl ⟨by unfold threadB; rw [hm]; simp at c2 c1 c0; simp [show ¬ m0 ≤ t by omega, show ¬ m2 ≤ t by omega, show ¬ m1 ≤ t by omega, retV], rfl⟩
theorem marks_t (bb : Nat) (b : Bl) (p : BP) (m : Nat) (k : Nat) (L : LH) (hB : BoAt L bb b p m) (ok : BlOk b) (hk : k ≤ 3) : Sp X 239 [pt bb, .int .i64 k] L (fun v L' => v = .agg (encSp (marksB b k)).toArray ∧ Le L L') := by
 obtain ⟨m0, m1, m2, hm, o1, o2, o3, o4⟩ := ok.mrk
 have h2 := hB.bl.h2
 rw [hm] at h2
 obtain ⟨ad, had⟩ := h2.addr (show 0 < [m0, m1, m2].length by simp)
 rw [had] at h2
 have hc := hB.cell 2 (.slice p.a2 b.marks.length p.c2) rfl
 rw [had, hm] at hc
 refine Sp.enter (n := 39) Tryz.func239 rfl rfl rfl rfl fun C hX _ hL0 r => ?_
 refine W.go 99 rfl ?_
 refine W.drawn (by kernel_rfl) _ (Le.refl _) ?_
 refine DD.run' [0, 1, 2, 3, 7, 8, 9, 10, 14, 15, 16, 17] rfl ?_
 refine DD.vf 4 rfl rfl rfl rfl rfl (Vf.load rfl rfl rfl (hc)) ?_
 refine DD.vf 11 rfl rfl rfl rfl rfl (Vf.load rfl rfl rfl (hc)) ?_
 refine DD.vf 18 rfl rfl rfl rfl rfl (Vf.load rfl rfl rfl (hc)) ?_
 refine DD.vf 5 rfl rfl rfl rfl rfl (Vf.idx1 rfl rfl rfl rfl rfl rfl rfl ((show 0 < 3 by decide))) ?_
 refine DD.vf 12 rfl rfl rfl rfl rfl (Vf.idx1 rfl rfl rfl rfl rfl rfl rfl ((show 1 < 3 by decide))) ?_
 refine DD.vf 19 rfl rfl rfl rfl rfl (Vf.idx1 rfl rfl rfl rfl rfl rfl rfl ((show 2 < 3 by decide))) ?_
 refine DD.vf 6 rfl rfl rfl rfl rfl (Vf.load rfl rfl rfl (h2.int (show [m0, m1, m2][0]? = some m0 from rfl))) ?_
 refine DD.vf 13 rfl rfl rfl rfl rfl (Vf.load rfl rfl rfl (h2.int (show [m0, m1, m2][1]? = some m1 from rfl))) ?_
 refine DD.vf 20 rfl rfl rfl rfl rfl (Vf.load rfl rfl rfl (h2.int (show [m0, m1, m2][2]? = some m2 from rfl))) ?_
 refine DD.run' [21, 22] rfl ?_
 refine .fin rfl ?_
 refine W.go 99 rfl ?_
 refine W.pub 5 (.inr ⟨_, _, _, rfl⟩) rfl rfl ?_
 intro b5 hb5 _
 have hle := Le.put hb5 (.cells #[.int .i64 (-1048576), .int .i64 m0, .int .i64 m1, .int .i64 m2, .int .i64 1048576] 3)
 have hcell : ∀ (i : Nat) (v : Value), [Value.int .i64 (-1048576), .int .i64 m0, .int .i64 m1, .int .i64 m2, .int .i64 1048576][i]? = some v → (L.put b5 (.cells #[.int .i64 (-1048576), .int .i64 m0, .int .i64 m1, .int .i64 m2, .int .i64 1048576] 3)).cell? (Addr.add ⟨b5, 0, none⟩ i) = some v := fun i v hv => by
  rw [add_of, Nat.zero_add]; exact cell_of (put_same _ _ _) (by rw [List.getElem?_toArray]; exact hv)
 have hk4 : k = 0 ∨ k = 1 ∨ k = 2 ∨ k = 3 := by omega
 rcases hk4 with rfl | rfl | rfl | rfl
 ·refine W.drawn (by kernel_rfl) _ (Le.refl _) ?_
  refine DD.run' [0, 1, 4, 5, 6] rfl ?_
  refine DD.vf 2 rfl rfl rfl rfl rfl (Vf.idx1 rfl rfl rfl rfl rfl rfl rfl ((show 0 < 5 by decide))) ?_
  refine DD.vf 7 rfl rfl rfl rfl rfl (Vf.idx1 rfl rfl rfl rfl rfl rfl rfl ((show 1 < 5 by decide))) ?_
  refine DD.vf 3 rfl rfl rfl rfl rfl (Vf.load rfl rfl rfl (hcell 0 _ rfl)) ?_
  refine DD.vf 8 rfl rfl rfl rfl rfl (Vf.load rfl rfl rfl (hcell 1 _ rfl)) ?_
  refine DD.run' [9, 10] rfl ?_
  refine DD.act 11 rfl rfl rfl rfl rfl (Ef.sto rfl) (by rintro _ _ _ ⟨rfl, rfl, rfl⟩; exact ⟨Le.refl _, rfl, .inr rfl⟩) ?_
  rintro _ _ _ ⟨rfl, rfl, rfl⟩
  refine .fin rfl ?_
  refine W.go 99 rfl ?_
  rw [wrap64_in _ (by omega) (by omega)]
  refine W.ret r rfl rfl ⟨?_, hle⟩
  unfold marksB
  rw [hm]
  rfl
 ·refine W.drawn (by kernel_rfl) _ (Le.refl _) ?_
  refine DD.run' [0, 1, 4, 5, 6] rfl ?_
  refine DD.vf 2 rfl rfl rfl rfl rfl (Vf.idx1 rfl rfl rfl rfl rfl rfl rfl ((show 1 < 5 by decide))) ?_
  refine DD.vf 7 rfl rfl rfl rfl rfl (Vf.idx1 rfl rfl rfl rfl rfl rfl rfl ((show 2 < 5 by decide))) ?_
  refine DD.vf 3 rfl rfl rfl rfl rfl (Vf.load rfl rfl rfl (hcell 1 _ rfl)) ?_
  refine DD.vf 8 rfl rfl rfl rfl rfl (Vf.load rfl rfl rfl (hcell 2 _ rfl)) ?_
  refine DD.run' [9, 10] rfl ?_
  refine DD.act 11 rfl rfl rfl rfl rfl (Ef.sto rfl) (by rintro _ _ _ ⟨rfl, rfl, rfl⟩; exact ⟨Le.refl _, rfl, .inr rfl⟩) ?_
  rintro _ _ _ ⟨rfl, rfl, rfl⟩
  refine .fin rfl ?_
  refine W.go 99 rfl ?_
  rw [wrap64_in _ (by omega) (by omega)]
  refine W.ret r rfl rfl ⟨?_, hle⟩
  unfold marksB
  rw [hm]
  rfl
 ·refine W.drawn (by kernel_rfl) _ (Le.refl _) ?_
  refine DD.run' [0, 1, 4, 5, 6] rfl ?_
  refine DD.vf 2 rfl rfl rfl rfl rfl (Vf.idx1 rfl rfl rfl rfl rfl rfl rfl ((show 2 < 5 by decide))) ?_
  refine DD.vf 7 rfl rfl rfl rfl rfl (Vf.idx1 rfl rfl rfl rfl rfl rfl rfl ((show 3 < 5 by decide))) ?_
  refine DD.vf 3 rfl rfl rfl rfl rfl (Vf.load rfl rfl rfl (hcell 2 _ rfl)) ?_
  refine DD.vf 8 rfl rfl rfl rfl rfl (Vf.load rfl rfl rfl (hcell 3 _ rfl)) ?_
  refine DD.run' [9, 10] rfl ?_
  refine DD.act 11 rfl rfl rfl rfl rfl (Ef.sto rfl) (by rintro _ _ _ ⟨rfl, rfl, rfl⟩; exact ⟨Le.refl _, rfl, .inr rfl⟩) ?_
  rintro _ _ _ ⟨rfl, rfl, rfl⟩
  refine .fin rfl ?_
  refine W.go 99 rfl ?_
  rw [wrap64_in _ (by omega) (by omega)]
  refine W.ret r rfl rfl ⟨?_, hle⟩
  unfold marksB
  rw [hm]
  rfl
 ·refine W.drawn (by kernel_rfl) _ (Le.refl _) ?_
  refine DD.run' [0, 1, 4, 5, 6] rfl ?_
  refine DD.vf 2 rfl rfl rfl rfl rfl (Vf.idx1 rfl rfl rfl rfl rfl rfl rfl ((show 3 < 5 by decide))) ?_
  refine DD.vf 7 rfl rfl rfl rfl rfl (Vf.idx1 rfl rfl rfl rfl rfl rfl rfl ((show 4 < 5 by decide))) ?_
  refine DD.vf 3 rfl rfl rfl rfl rfl (Vf.load rfl rfl rfl (hcell 3 _ rfl)) ?_
  refine DD.vf 8 rfl rfl rfl rfl rfl (Vf.load rfl rfl rfl (hcell 4 _ rfl)) ?_
  refine DD.run' [9, 10] rfl ?_
  refine DD.act 11 rfl rfl rfl rfl rfl (Ef.sto rfl) (by rintro _ _ _ ⟨rfl, rfl, rfl⟩; exact ⟨Le.refl _, rfl, .inr rfl⟩) ?_
  rintro _ _ _ ⟨rfl, rfl, rfl⟩
  refine .fin rfl ?_
  refine W.go 99 rfl ?_
  rw [wrap64_in _ (by omega) (by omega)]
  refine W.ret r rfl rfl ⟨?_, hle⟩
  unfold marksB
  rw [hm]
  rfl
end Go.Mz


set_option maxRecDepth 100000
namespace Go.Mz
open Go.Conc Go.Proofs
variable {X : Logic Tryz.prog}
theorem encH_five {h : List Int} (hl : h.length ≤ 5) : ∃ x0 x1 x2 x3 x4, encH h = [.int .i64 x0, .int .i64 x1, .int .i64 x2, .int .i64 x3, .int .i64 x4] := by
 have e := encH_len hl
 unfold encH at e ⊢
 rw [List.length_map] at e
 match padI 5 h, e with
 | [a, b, c, d, f], _ => exact ⟨a, b, c, d, f, rfl⟩
theorem padSp3 {g : List Spn} (hl : g.length ≤ 3) : ∃ a b c, padSp g = [a, b, c] ∧ ∀ (i : Nat) (s : Spn), g[i]? = some s → [a, b, c][i]? = some s := by
 match g, hl with
 | [], _ => exact ⟨_, _, _, rfl, fun i s h => by simp at h⟩
 | [a], _ => exact ⟨_, _, _, rfl, fun i s h => by
   cases i with
   | zero => exact h
   | succ i => simp at h⟩
 | [a, b], _ => exact ⟨_, _, _, rfl, fun i s h => by
   match i, h with
   | 0, h => exact h
   | 1, h => exact h⟩
 | [a, b, c], _ => exact ⟨_, _, _, rfl, fun i s h => h⟩
def upS (s : Spn) (n : Int) : Spn := ⟨s.lo + n, s.hi + n⟩
theorem thick_t (bb : Nat) (b : Bl) (p : BP) (m : Nat) (x : HG) (s : Spn) (pan t : Nat) (L : LH) (hB : BoAt L bb b p m) (ok : BlOk b) (hh : Hs b x.1) (hg : x.2.length ≤ 3) (hs : x.2[pan]? = some s) (hsm : smS s) (hpan : pan < b.starts.length) (ht : t ≤ b.heats.length) :
  Sp X 89 [pt bb, .agg (encG x).toArray, .int .i64 pan, .int .i64 t] L (fun v L' => v = .agg (encSp (upS s (thickB b x.1 pan t))).toArray ∧ L = L') := by
 obtain ⟨h, g⟩ := x
 obtain ⟨x0, x1, x2, x3, x4, he⟩ := encH_five hh.l5
 obtain ⟨a0, a1, a2, hp3, hp4⟩ := padSp3 hg
 have hs3 := hp4 _ _ hs
 have hm := thick_bd ok hh hpan t
 have ha := add_t (X := X) bb b p m h pan t L hB ok hh hpan ht
 unfold smS at hsm
 unfold encG encGs
 simp only at he hh hm ha ⊢
 rw [hp3, he]
 rw [he] at ha
 have hlt : pan = 0 ∨ pan = 1 ∨ pan = 2 := by have := ok.s3; omega
 clear hs hp4 hp3
 generalize thickB b h pan t = w at hm ha ⊢
 rcases hlt with rfl | rfl | rfl
 all_goals
  cases hs3
  refine Sp.enter (n := 31) Tryz.func89 rfl rfl rfl rfl fun C hX _ hL0 r => ?_
  refine W.go 99 rfl ?_
  rw [← hX] at ha
  refine W.eff rfl rfl rfl (Ef.call rfl (ha)) ?_
  rintro _ _ _ ⟨_, rfl, rfl, rfl, rfl⟩
  refine W.go 99 rfl ?_
  refine W.drawn (by kernel_rfl) _ (Le.refl _) ?_
  refine DD.run' [0, 1, 5, 7, 8, 12] rfl ?_
  refine DD.vf 2 rfl rfl rfl rfl rfl (Vf.idxA rfl rfl rfl rfl rfl rfl ((by decide))) ?_
  refine DD.vf 9 rfl rfl rfl rfl rfl (Vf.idxA rfl rfl rfl rfl rfl rfl ((by decide))) ?_
  refine DD.run' [3, 4, 6, 10, 11, 13, 14] rfl ?_
  refine DD.act 15 rfl rfl rfl rfl rfl (Ef.sto rfl) (by rintro _ _ _ ⟨rfl, rfl, rfl⟩; exact ⟨Le.refl _, rfl, .inr rfl⟩) ?_
  rintro _ _ _ ⟨rfl, rfl, rfl⟩
  refine .fin rfl ?_
  refine W.go 99 rfl ?_
  rw [wrap64_in _ (by omega) (by omega), wrap64_in _ (by omega) (by omega)]
  exact W.ret r rfl rfl ⟨rfl, rfl⟩
end Go.Mz


set_option maxRecDepth 100000
namespace Go.Mz
open Go.Conc Go.Proofs
variable {X : Logic Tryz.prog}
def cG (h : List Int) (g : List Spn) (n : Int) : List Value := encH h ++ (encGs g ++ [.int .i64 n])
theorem cG_len {h : List Int} {g : List Spn} {n : Int} (h1 : h.length ≤ 5) (h2 : g.length ≤ 3) : (cG h g n).length = 12 := by
 unfold cG
 rw [List.length_append, List.length_append, encH_len h1, encGs_len h2]; rfl
theorem cG_copy {h : List Int} (hl : h.length ≤ 5) {g : List Spn} (hg : g.length ≤ 3) (n : Int) : putRow (cG h [] n).toArray 5 (g.flatMap encSp) = (cG h g n).toArray := by
 obtain ⟨x0, x1, x2, x3, x4, he⟩ := encH_five hl
 unfold cG
 rw [he]
 match g, hg with
 | [], _ => rfl
 | [a], _ => rfl
 | [a, b], _ => rfl
 | [a, b, c], _ => rfl
theorem cG_set {h : List Int} (hl : h.length ≤ 5) {g : List Spn} (hg : g.length ≤ 3) (n : Int) {k : Nat} (hk : k < g.length) (s : Spn) : putRow (cG h g n).toArray (5 + k * 2) (encSp s) = (cG h (g.set k s) n).toArray := by
 obtain ⟨x0, x1, x2, x3, x4, he⟩ := encH_five hl
 unfold cG
 rw [he]
 match g, hg, k, hk with
 | [a], _, 0, _ => rfl
 | [a, b], _, 0, _ => rfl
 | [a, b], _, 1, _ => rfl
 | [a, b, c], _, 0, _ => rfl
 | [a, b, c], _, 1, _ => rfl
 | [a, b, c], _, 2, _ => rfl
theorem cG_num {h : List Int} (hl : h.length ≤ 5) {g : List Spn} (hg : g.length ≤ 3) (n m : Int) : putRow (cG h g n).toArray 11 [.int .i64 m] = (cG h g m).toArray := by
 obtain ⟨x0, x1, x2, x3, x4, he⟩ := encH_five hl
 obtain ⟨a, b, c, e, _⟩ := padSp3 hg
 unfold cG encGs
 rw [he, e]
 rfl
theorem cG_sp {L : LH} {b : Nat} {h : List Int} {g : List Spn} {n : Int} {e : TypeId} {wr : Bool} (hb : L b = some (.cells (cG h g n).toArray e (0, 0), wr)) (hl : h.length ≤ 5) {k : Nat} {s : Spn} (hs : g[k]? = some s) : cellsAt L ((Addr.add ⟨b, 0, none⟩ 5).add (k * 2)) 2 (encSp s) := by
 refine ⟨rfl, fun i v hv => ?_⟩
 rw [add_of, add_of, add_of, Nat.zero_add]
 refine cell_of hb ?_
 have hk := (List.getElem?_eq_some_iff.1 hs).1
 have e1 : (cG h g n)[5 + k * 2 + i]? = (g.flatMap encSp)[k * 2 + i]? := by
  unfold cG encGs padSp
  have hlt : k * 2 + i < (g.flatMap encSp).length := by
   have := (List.getElem?_eq_some_iff.1 hv).1
   rw [flat_len encSp_len]
   simp [encSp] at this
   omega
  rw [List.getElem?_append_right (by rw [encH_len hl]; omega), encH_len hl, show 5 + k * 2 + i - 5 = k * 2 + i by omega, List.flatMap_append, List.append_assoc, List.getElem?_append_left hlt]
 rw [List.getElem?_toArray, e1]
 exact flat_get encSp_len hs hv
theorem cG_n {L : LH} {b : Nat} {h : List Int} {g : List Spn} {n : Int} {e : TypeId} {wr : Bool} (hb : L b = some (.cells (cG h g n).toArray e (0, 0), wr)) (hl : h.length ≤ 5) (hg : g.length ≤ 3) : L.cell? (Addr.add ⟨b, 0, none⟩ 11) = some (.int .i64 n) := by
 rw [add_of, Nat.zero_add]
 refine cell_of hb ?_
 obtain ⟨x0, x1, x2, x3, x4, he⟩ := encH_five hl
 obtain ⟨a, b, c, e, _⟩ := padSp3 hg
 unfold cG encGs
 rw [he, e]
 rfl
theorem gOf_snoc (b : Bl) (h : List Int) (ps : List Prf) (p : Prf) : groupB b h (ps ++ [p]) = (groupB b h ps).modify p.pan.toNat fun s => meetS s ⟨(marksB b p.thread.toNat).lo - thickB b h p.pan.toNat p.tick.toNat, (marksB b p.thread.toNat).hi - thickB b h p.pan.toNat p.tick.toNat⟩ := by
 unfold groupB
 rw [List.foldl_append]; rfl
theorem modify_set {α : Type} {g : List α} {k : Nat} {s : α} (f : α → α) (h : g[k]? = some s) : g.modify k f = g.set k (f s) := by
 apply List.ext_getElem?
 intro i
 rw [List.getElem?_modify, List.getElem?_set]
 by_cases e : k = i
 ·subst e
  have hk := (List.getElem?_eq_some_iff.1 h).1
  rw [if_pos rfl, if_pos hk, h]
  show some (if k = k then f s else s) = _
  rw [if_pos rfl]
 ·rw [if_neg e]
  cases g[i]? with
  | none => rfl
  | some x =>
   show some (if k = i then f x else x) = _
   rw [if_neg e]
theorem prf_nat {b : Bl} {q : Prf} (h : proofE b q = 0) : ∃ pan tick th : Nat, q = ⟨(pan : Int), (tick : Int), (th : Int)⟩ ∧ pan < b.starts.length ∧ tick ≤ b.heats.length ∧ th ≤ 3 := by
 obtain ⟨h1, h2, h3, h4, h5, h6⟩ := proofE_ok h
 obtain ⟨a, c, d⟩ := q
 simp only at h1 h2 h3 h4 h5 h6
 exact ⟨a.toNat, c.toNat, d.toNat, by rw [Int.toNat_of_nonneg h1, Int.toNat_of_nonneg h3, Int.toNat_of_nonneg h5], by omega, by omega, by omega⟩
theorem group_t (bb : Nat) (b : Bl) (p : BP) (m : Nat) (h : List Int) (pa : Option Addr) (pc : Nat) (ps : List Prf) (L : LH) (hB : BoAt L bb b p m) (ok : BlOk b) (hh : Hs b h) (hps : SlAt L pa 3 encPr ps) (hpb : ∀ q ∈ ps, proofE b q = 0) (hpn : ps.length ≤ 1000) :
  Sp X 217 [pt bb, .agg (encH h).toArray, .slice pa ps.length pc] L (fun v L' => v = .agg (encG (h, groupB b h ps)).toArray ∧ Le L L') := by
 obtain ⟨x0, x1, x2, x3, x4, he⟩ := encH_five hh.l5
 have hz : [Value.int .i64 x0, .int .i64 x1, .int .i64 x2, .int .i64 x3, .int .i64 x4, .int .i64 0, .int .i64 0, .int .i64 0, .int .i64 0, .int .i64 0, .int .i64 0, .int .i64 1] = cG h [] 1 := by unfold cG; rw [he]; rfl
 have h5 := hh.l5
 have s3 := ok.s3
 have hc0 := hB.cell 0 (.slice p.a0 b.starts.length p.c0) rfl
 rw [he]
 refine Sp.enter (n := 80) Tryz.func217 rfl rfl rfl rfl fun C hX _ hL0 r => ?_
 refine W.go 99 rfl ?_
 refine W.pub 7 (.inl ⟨_, rfl⟩) rfl rfl ?_
 intro b7 hb7 _
 have hle7 := Le.put hb7 (.cells #[Value.int .i64 x0, .int .i64 x1, .int .i64 x2, .int .i64 x3, .int .i64 x4, .int .i64 0, .int .i64 0, .int .i64 0, .int .i64 0, .int .i64 0, .int .i64 0, .int .i64 1] 188)
 have hp7 := put_same L b7 (.cells #[Value.int .i64 x0, .int .i64 x1, .int .i64 x2, .int .i64 x3, .int .i64 x4, .int .i64 0, .int .i64 0, .int .i64 0, .int .i64 0, .int .i64 0, .int .i64 0, .int .i64 1] 188)
 refine W.drawn (by kernel_rfl) L hle7 ?_
 refine DD.run' [0, 2, 3, 4, 5] rfl ?_
 refine DD.vf 1 rfl rfl rfl rfl rfl (Vf.sliceW rfl Tryz.underlying186 size88 (by decide)) ?_
 refine DD.vf 6 rfl rfl rfl rfl rfl (Vf.load rfl rfl rfl (hc0)) ?_
 refine DD.act 7 rfl rfl rfl rfl rfl (Ef.copyO (c := #[Value.int .i64 x0, .int .i64 x1, .int .i64 x2, .int .i64 x3, .int .i64 x4, .int .i64 0, .int .i64 0, .int .i64 0, .int .i64 0, .int .i64 0, .int .i64 0, .int .i64 1]) rfl rfl rfl rfl (YC.sl (hB.bl.h0.le hle7) encSp_len rfl) s3 hp7 (by rw [flat_len encSp_len]; show 5 + _ * 2 ≤ 12; omega) (fun u hu => by obtain ⟨a, _, hu⟩ := List.mem_flatMap.1 hu; exact encSp_sg a u hu)) ((by rintro _ _ _ ⟨rfl, rfl, rfl⟩; exact ⟨le_put_none hle7 hb7 _, rfl, .inl rfl⟩)) ?_
 rintro _ _ _ ⟨rfl, rfl, rfl⟩
 refine .fin rfl ?_
 refine W.go 99 rfl ?_
 rw [hz, cG_copy h5 s3] at *
 refine W.loop (fun m' E B L' => ∃ i : Nat, m' = ps.length - i ∧ i ≤ ps.length ∧ Le L L' ∧ L' b7 = some (.cells (cG h (groupB b h (ps.take i)) 1).toArray 188 (0, 0), true) ∧
   E = [(0, .v (pt bb)), (4, .p 0 0), (6, .p 1 0), (7, .v (pt b7)), (23, .v (.slice pa ps.length pc)), (24, .v (.int .i64 ps.length)), (25, .v (.int .i64 i))] ∧ B = [some ⟨(encH h).map .v, 185⟩, some ⟨cellsS (.v ti188.z), 188⟩])
  ⟨0, rfl, by omega, le_put_none hle7 hb7 _, put_same _ _ _, rfl, rfl⟩ (by exact ⟨rfl, rfl, rfl, rfl, rfl, rfl, rfl, trivial⟩) (by rw [he]; exact ⟨rfl, rfl, trivial⟩) ?_ rfl (scB_v _ _ rfl)
 rintro _ _ _ L1 ⟨i, rfl, hi, hl1, hb1, rfl, rfl⟩ again
 clear hp7 hle7
 refine W.go 99 rfl ?_
 refine W.split rfl rfl rfl (fun d1 => W.go 99 rfl ?_) (fun d1 => W.go 99 rfl ?_)
 ·have hi : i < ps.length := by simpa using d1
  have hx := List.getElem?_eq_getElem hi
  have htk : ps.take (i + 1) = ps.take i ++ [ps[i]] := List.take_succ_eq_append_getElem hi
  obtain ⟨pan, tick, th, hq, q1, q2, q3⟩ := prf_nat (hpb _ (List.getElem_mem hi))
  obtain ⟨a, rfl⟩ := hps.addr hi
  have hgl : (groupB b h (ps.take i)).length = b.starts.length := group_len _ _ _
  obtain ⟨s, hs⟩ : ∃ s, (groupB b h (ps.take i))[pan]? = some s := ⟨_, List.getElem?_eq_getElem (by omega)⟩
  rw [hq] at hx htk
  have hB1 := hB.le hl1
  refine W.vf rfl rfl rfl rfl (Vf.idx rfl rfl rfl rfl rfl rfl (hi)) ?_
  refine W.go 99 rfl ?_
  refine W.vf rfl rfl rfl rfl (Vf.loadN rfl rfl rfl ((hps.le hl1).whole hx rfl)) ?_
  refine W.go 99 rfl ?_
  refine W.drawn (by kernel_rfl) noL (noL_le _) ?_
  refine DD.run' [0, 1, 2, 4, 6, 7, 8, 9, 11] rfl ?_
  refine DD.vf 5 rfl rfl rfl rfl rfl (Vf.loadAll rfl rfl rfl rfl rfl (encH_len h5)) ?_
  refine DD.act 3 rfl rfl rfl rfl rfl (Ef.call rfl (marks_t bb b p m th _ hB1 ok q3)) (by rintro _ _ _ ⟨_, rfl, rfl, _⟩; exact ⟨noL_le _, rfl, .inl rfl⟩) ?_
  rintro _ _ _ ⟨_, rfl, rfl, rfl, hl2⟩
  have hB2 := hB1.le hl2
  rename_i L2
  have hb2 := hl2 _ _ hb1
  refine DD.act 10 rfl rfl rfl rfl rfl (Ef.call rfl (add_t bb b p m h pan tick _ hB2 ok hh q1 q2)) (by rintro _ _ _ ⟨_, rfl, rfl, _⟩; exact ⟨noL_le _, rfl, .inl rfl⟩) ?_
  rintro _ _ _ ⟨_, rfl, rfl, rfl, rfl⟩
  refine DD.act 12 rfl rfl rfl rfl rfl (Ef.sto rfl) (by rintro _ _ _ ⟨rfl, rfl, rfl⟩; exact ⟨noL_le _, rfl, .inl rfl⟩) ?_
  rintro _ _ _ ⟨rfl, rfl, rfl⟩
  refine DD.run' [13] rfl ?_
  refine .fin rfl ?_
  refine W.go 99 rfl ?_
  have hm := thick_bd ok hh q1 tick
  have hk := marksB_bd ok q3
  have w1 : IntKind.i64.wrap ((marksB b th).lo - thickB b h pan tick) = (marksB b th).lo - thickB b h pan tick := wrap64_in _ (by omega) (by omega)
  have w2 : IntKind.i64.wrap ((marksB b th).hi - thickB b h pan tick) = (marksB b th).hi - thickB b h pan tick := wrap64_in _ (by omega) (by omega)
  refine W.drawn (by kernel_rfl) noL (noL_le _) ?_
  refine DD.run' [0, 1, 2, 3, 4, 7, 8, 9, 10, 11, 12, 13, 14, 15, 17] rfl ?_
  refine DD.vf 5 rfl rfl rfl rfl rfl (Vf.idxF rfl rfl rfl rfl rfl rfl ((show pan < 3 by omega))) ?_
  refine DD.act 6 rfl rfl rfl rfl rfl (Ef.val rfl (Vf.loadN rfl rfl rfl (cG_sp hb2 h5 hs))) (by rintro _ _ _ ⟨rfl, rfl, rfl⟩; exact ⟨noL_le _, rfl, .inl rfl⟩) ?_
  rintro _ _ _ ⟨rfl, rfl, rfl⟩
  refine DD.act 16 rfl rfl rfl rfl rfl (Ef.call rfl (meet_t s ⟨IntKind.i64.wrap ((marksB b th).lo - thickB b h pan tick), IntKind.i64.wrap ((marksB b th).hi - thickB b h pan tick)⟩ _)) (by rintro _ _ _ ⟨_, rfl, rfl, _⟩; exact ⟨noL_le _, rfl, .inl rfl⟩) ?_
  rintro _ _ _ ⟨_, rfl, rfl, rfl, rfl⟩
  rw [w1, w2]
  refine DD.vf 18 rfl rfl rfl rfl rfl (Vf.idxF rfl rfl rfl rfl rfl rfl ((show pan < 3 by omega))) ?_
  refine DD.act 19 rfl rfl rfl rfl rfl (Ef.stoO (b := b7) (off := 5 + pan * 2) rfl ⟨_, rfl, rfl⟩ rfl (by rw [add_of, add_of, Nat.zero_add]; rfl) hb2 rfl (by show 5 + pan * 2 + 2 ≤ (cG _ _ _).length; rw [cG_len h5 (by omega)]; omega) (encSp_sg _)) (by rintro _ _ _ ⟨rfl, rfl, rfl⟩; exact ⟨noL_le _, rfl, .inl rfl⟩) ?_
  rintro _ _ _ ⟨rfl, rfl, rfl⟩
  refine .fin rfl ?_
  refine W.go 99 rfl ?_
  have hput : putRow (cG h (groupB b h (ps.take i)) 1).toArray (5 + pan * 2) (encSp (meetS s ⟨(marksB b th).lo - thickB b h pan tick, (marksB b th).hi - thickB b h pan tick⟩)) = (cG h (groupB b h (ps.take (i + 1))) 1).toArray := by
   rw [cG_set h5 (by omega) 1 (by omega), htk, gOf_snoc, modify_set _ (by exact hs)]
   rfl
  exact W.again (again _ _ _ _ (by omega) ⟨i + 1, rfl, by omega, le_put_none (hl1.trans hl2) hb7 _, by rw [put_same]; exact congrArg (fun c => some (Obj.cells c 188 (0, 0), true)) hput, rfl, rfl⟩) (by exact ⟨rfl, rfl, rfl, rfl, rfl, rfl, congrArg some (inc64 (by omega)), trivial⟩) (by exact ⟨rfl, rfl, trivial⟩) rfl (scB_v _ _ rfl)
 ·have hie : i = ps.length := by simp at d1; omega
  subst hie
  rw [List.take_length] at hb1
  clear again
  have hgl : (groupB b h ps).length = b.starts.length := group_len _ _ _
  have hsm := group_sm ok hh hpb (starts_sm ok)
  have hsm : ∀ s ∈ groupB b h ps, smS s := hsm
  have hB1 := hB.le hl1
  refine W.vf rfl rfl rfl rfl (Vf.load rfl rfl rfl (hB1.cell 0 _ rfl)) ?_
  refine W.go 99 rfl ?_
  refine W.loop (fun m' E B L' => ∃ j : Nat, m' = b.starts.length - j ∧ j ≤ b.starts.length ∧ Le L L' ∧ L' b7 = some (.cells (cG h (groupB b h ps) (prodL (((groupB b h ps).take j).map numS))).toArray 188 (0, 0), true) ∧
    E = [(0, .v (pt bb)), (4, .p 0 0), (6, .p 1 0), (7, .v (pt b7)), (65, .v (.int .i64 b.starts.length)), (66, .v (.int .i64 j))] ∧ B = [some ⟨(encH h).map .v, 185⟩, some ⟨cellsS (.v ti188.z), 188⟩])
   ⟨0, rfl, by omega, hl1, hb1, rfl, rfl⟩ (by exact ⟨rfl, rfl, rfl, rfl, rfl, rfl, trivial⟩) (by exact ⟨rfl, rfl, trivial⟩) ?_ rfl (scB_v _ _ rfl)
  rintro _ _ _ L2 ⟨j, rfl, hj, hl2, hb2, rfl, rfl⟩ again
  clear hb1 hl1
  refine W.go 99 rfl ?_
  refine W.split rfl rfl rfl (fun d2 => W.go 99 rfl ?_) (fun d2 => W.go 99 rfl ?_)
  ·have hj : j < b.starts.length := by simpa using d2
   have hjs : (groupB b h ps)[j]? = some (groupB b h ps)[j] := List.getElem?_eq_getElem (by omega)
   have hss := hsm _ (List.getElem_mem (show j < (groupB b h ps).length by omega))
   generalize (groupB b h ps)[j] = s at hjs hss
   refine W.drawn (by kernel_rfl) noL (noL_le _) ?_
   refine DD.run' [0, 2, 3] rfl ?_
   refine DD.vf 4 rfl rfl rfl rfl rfl (Vf.idxF rfl rfl rfl rfl rfl rfl ((show j < 3 by omega))) ?_
   have hnd := num_bd hss
   have hsz := size_bd (l := ((groupB b h ps).take j).map numS) (by simp; omega) (fun x hx => by
    obtain ⟨y, hy, rfl⟩ := List.mem_map.1 hx
    exact num_bd (hsm y (List.mem_of_mem_take hy)))
   have hm2 : 0 ≤ prodL (((groupB b h ps).take j).map numS) * numS s ∧ prodL (((groupB b h ps).take j).map numS) * numS s ≤ 68921 * 41 := ⟨Int.mul_nonneg hsz.1 hnd.1, Int.mul_le_mul hsz.2 hnd.2 hnd.1 (by decide)⟩
   have htk : prodL (((groupB b h ps).take (j + 1)).map numS) = prodL (((groupB b h ps).take j).map numS) * numS s := by
    rw [List.take_add_one, hjs, List.map_append, Option.toList_some, List.map_cons, List.map_nil, prodL_snoc]
   unfold smS at hss
   refine DD.act2 1 5 rfl rfl rfl rfl rfl rfl rfl rfl (Ef.val rfl (Vf.load rfl rfl rfl (cG_n hb2 h5 (by omega)))) (Ef.val rfl (Vf.loadN rfl rfl rfl (cG_sp hb2 h5 hjs))) (by rintro _ _ _ ⟨rfl, rfl, rfl⟩; exact ⟨noL_le _, rfl, .inl rfl⟩) (by rintro _ _ _ ⟨rfl, rfl, rfl⟩; exact ⟨noL_le _, rfl, .inl rfl⟩) ?_ ?_
   ·rintro _ _ _ ⟨rfl, rfl, rfl⟩
    refine DD.act 5 rfl rfl rfl rfl rfl (Ef.val rfl (Vf.loadN rfl rfl rfl (cG_sp hb2 h5 hjs))) (by rintro _ _ _ ⟨rfl, rfl, rfl⟩; exact ⟨noL_le _, rfl, .inl rfl⟩) ?_
    rintro _ _ _ ⟨rfl, rfl, rfl⟩
    refine DD.act 6 rfl rfl rfl rfl rfl (Ef.call rfl (numbers_t s _ (by omega) (by omega) (by omega) (by omega))) (by rintro _ _ _ ⟨_, rfl, rfl, _⟩; exact ⟨noL_le _, rfl, .inl rfl⟩) ?_
    rintro _ _ _ ⟨_, rfl, rfl, rfl, rfl⟩
    refine DD.run' [7, 8] rfl ?_
    refine DD.act 9 rfl rfl rfl rfl rfl (Ef.stoF (b := b7) (off := 11) rfl ⟨_, rfl, rfl⟩ rfl hb2 rfl (by show 11 + 1 ≤ (cG _ _ _).length; rw [cG_len h5 (by omega)]; omega) (singles rfl)) (by rintro _ _ _ ⟨rfl, rfl, rfl⟩; exact ⟨noL_le _, rfl, .inl rfl⟩) ?_
    rintro _ _ _ ⟨rfl, rfl, rfl⟩
    refine .fin rfl ?_
    refine W.go 99 rfl ?_
    have hput : putRow (cG h (groupB b h ps) (prodL (((groupB b h ps).take j).map numS))).toArray 11 [.int .i64 (IntKind.i64.wrap (prodL (((groupB b h ps).take j).map numS) * numS s))] = (cG h (groupB b h ps) (prodL (((groupB b h ps).take (j + 1)).map numS))).toArray := by
     rw [wrap64_in _ (by omega) (by omega), cG_num h5 (by omega), htk]
    exact W.again (again _ _ _ _ (by omega) ⟨j + 1, rfl, by omega, le_put_none hl2 hb7 _, by rw [put_same]; exact congrArg (fun c => some (Obj.cells c 188 (0, 0), true)) hput, rfl, rfl⟩) (by exact ⟨rfl, rfl, rfl, rfl, rfl, congrArg some (inc64 (by omega)), trivial⟩) (by exact ⟨rfl, rfl, trivial⟩) rfl (scB_v _ _ rfl)
   ·rintro _ _ _ ⟨rfl, rfl, rfl⟩
    refine DD.act2 1 6 rfl rfl rfl rfl rfl rfl rfl rfl (Ef.val rfl (Vf.load rfl rfl rfl (cG_n hb2 h5 (by omega)))) (Ef.call rfl (numbers_t s _ (by omega) (by omega) (by omega) (by omega))) (by rintro _ _ _ ⟨rfl, rfl, rfl⟩; exact ⟨noL_le _, rfl, .inl rfl⟩) (by rintro _ _ _ ⟨_, rfl, rfl, rfl, rfl⟩; exact ⟨noL_le _, rfl, .inl rfl⟩) ?_ ?_
    ·rintro _ _ _ ⟨rfl, rfl, rfl⟩
     refine DD.act 6 rfl rfl rfl rfl rfl (Ef.call rfl (numbers_t s _ (by omega) (by omega) (by omega) (by omega))) (by rintro _ _ _ ⟨_, rfl, rfl, _⟩; exact ⟨noL_le _, rfl, .inl rfl⟩) ?_
     rintro _ _ _ ⟨_, rfl, rfl, rfl, rfl⟩
     refine DD.run' [7, 8] rfl ?_
     refine DD.act 9 rfl rfl rfl rfl rfl (Ef.stoF (b := b7) (off := 11) rfl ⟨_, rfl, rfl⟩ rfl hb2 rfl (by show 11 + 1 ≤ (cG _ _ _).length; rw [cG_len h5 (by omega)]; omega) (singles rfl)) (by rintro _ _ _ ⟨rfl, rfl, rfl⟩; exact ⟨noL_le _, rfl, .inl rfl⟩) ?_
     rintro _ _ _ ⟨rfl, rfl, rfl⟩
     refine .fin rfl ?_
     refine W.go 99 rfl ?_
     have hput : putRow (cG h (groupB b h ps) (prodL (((groupB b h ps).take j).map numS))).toArray 11 [.int .i64 (IntKind.i64.wrap (prodL (((groupB b h ps).take j).map numS) * numS s))] = (cG h (groupB b h ps) (prodL (((groupB b h ps).take (j + 1)).map numS))).toArray := by
      rw [wrap64_in _ (by omega) (by omega), cG_num h5 (by omega), htk]
     exact W.again (again _ _ _ _ (by omega) ⟨j + 1, rfl, by omega, le_put_none hl2 hb7 _, by rw [put_same]; exact congrArg (fun c => some (Obj.cells c 188 (0, 0), true)) hput, rfl, rfl⟩) (by exact ⟨rfl, rfl, rfl, rfl, rfl, congrArg some (inc64 (by omega)), trivial⟩) (by exact ⟨rfl, rfl, trivial⟩) rfl (scB_v _ _ rfl)
    ·rintro _ _ _ ⟨_, rfl, rfl, rfl, rfl⟩
     refine DD.act 1 rfl rfl rfl rfl rfl (Ef.val rfl (Vf.load rfl rfl rfl (cG_n hb2 h5 (by omega)))) (by rintro _ _ _ ⟨rfl, rfl, rfl⟩; exact ⟨noL_le _, rfl, .inl rfl⟩) ?_
     rintro _ _ _ ⟨rfl, rfl, rfl⟩
     refine DD.run' [7, 8] rfl ?_
     refine DD.act 9 rfl rfl rfl rfl rfl (Ef.stoF (b := b7) (off := 11) rfl ⟨_, rfl, rfl⟩ rfl hb2 rfl (by show 11 + 1 ≤ (cG _ _ _).length; rw [cG_len h5 (by omega)]; omega) (singles rfl)) (by rintro _ _ _ ⟨rfl, rfl, rfl⟩; exact ⟨noL_le _, rfl, .inl rfl⟩) ?_
     rintro _ _ _ ⟨rfl, rfl, rfl⟩
     refine .fin rfl ?_
     refine W.go 99 rfl ?_
     have hput : putRow (cG h (groupB b h ps) (prodL (((groupB b h ps).take j).map numS))).toArray 11 [.int .i64 (IntKind.i64.wrap (prodL (((groupB b h ps).take j).map numS) * numS s))] = (cG h (groupB b h ps) (prodL (((groupB b h ps).take (j + 1)).map numS))).toArray := by
      rw [wrap64_in _ (by omega) (by omega), cG_num h5 (by omega), htk]
     exact W.again (again _ _ _ _ (by omega) ⟨j + 1, rfl, by omega, le_put_none hl2 hb7 _, by rw [put_same]; exact congrArg (fun c => some (Obj.cells c 188 (0, 0), true)) hput, rfl, rfl⟩) (by exact ⟨rfl, rfl, rfl, rfl, rfl, congrArg some (inc64 (by omega)), trivial⟩) (by exact ⟨rfl, rfl, trivial⟩) rfl (scB_v _ _ rfl)
  ·have hje : j = b.starts.length := by simp at d2; omega
   subst hje
   rw [← hgl, List.take_length] at hb2
   have hsg : ∀ u ∈ cG h (groupB b h ps) (prodL ((groupB b h ps).map numS)), single u = true := fun u hu => by
    unfold cG encH encGs at hu
    rcases List.mem_append.1 hu with hu | hu
    ·obtain ⟨z, _, rfl⟩ := List.mem_map.1 hu; rfl
    ·rcases List.mem_append.1 hu with hu | hu
     ·obtain ⟨a, _, hu⟩ := List.mem_flatMap.1 hu; exact encSp_sg a u hu
     ·cases List.mem_singleton.1 hu; rfl
   refine W.vf rfl rfl rfl rfl (Vf.loadN rfl rfl rfl (cellsAt_n hb2 (cG_len h5 (by omega)))) ?_
   refine W.eff0 rfl rfl (Ef.stoW rfl rfl rfl rfl (cG_len h5 (by omega)) rfl hsg) ?_
   rintro _ _ _ ⟨rfl, rfl, rfl⟩
   refine W.goP [] 2 rfl ?_
   exact W.retBox r rfl rfl rfl rfl rfl rfl (cG_len h5 (by omega)) ⟨rfl, hl2⟩
end Go.Mz

