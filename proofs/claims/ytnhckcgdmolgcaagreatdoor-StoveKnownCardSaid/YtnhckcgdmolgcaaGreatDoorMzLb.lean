/- Lemmas on which the claim leans. -/
import Derived.Test.YtnhckcgdmolgcaaGreatDoorMzLa
import Derived.KernelRfl
set_option maxRecDepth 100000
namespace Go.Mz
open Go
def roomK : St := ⟨[⟨0, 1⟩, ⟨2, 1⟩], [⟨6, 3, 1, 5⟩, ⟨4, 4, 2, 6⟩], 3, 0, 2, 3⟩
def hotL : List Int := [1, 2, 3]
def coldL : List Int := [0, 0, 0]
def plK : List Stand := [⟨0, 0⟩, ⟨1, 0⟩]
theorem kn_c0 : checkE roomK = 0 := by kernel_rfl
theorem kn_c1 : checkE { roomK with shelves := [] } = 7 := by kernel_rfl
theorem kn_c2 : checkE { roomK with shelves := [⟨0, 0⟩, ⟨2, 1⟩] } = 1 := by kernel_rfl
theorem kn_c3 : checkE { roomK with cones := [⟨21, 3, 1, 5⟩, ⟨4, 4, 2, 6⟩] } = 1 := by kernel_rfl
theorem kn_c4 : checkE { roomK with days := 5 } = 1 := by kernel_rfl
theorem kn_f1 : FateE roomK hotL 0 ⟨0, 0⟩ = (0, 2, 0) := by kernel_rfl
theorem kn_f2 : FateE roomK hotL 0 ⟨1, 0⟩ = (0, 1, 0) := by kernel_rfl
theorem kn_f3 : FateE roomK hotL 0 ⟨0, 1⟩ = (2, 2, 0) := by kernel_rfl
theorem kn_f4 : (FateE roomK [1, 2] 0 ⟨0, 0⟩).2.2 = 7 := by kernel_rfl
theorem kn_f5 : (FateE roomK [3, 3, 3] 0 ⟨0, 0⟩).2.2 = 12 := by kernel_rfl
theorem kn_f6 : (FateE roomK [1, 4, 3] 0 ⟨0, 0⟩).2.2 = 1 := by kernel_rfl
theorem kn_f7 : (FateE roomK hotL 0 ⟨2, 0⟩).2.2 = 3 := by kernel_rfl
theorem kn_r1 : RightE roomK hotL [⟨0, 0⟩, ⟨1, 0⟩] = 0 := by kernel_rfl
theorem kn_r2 : RightE roomK hotL [⟨0, 0⟩, ⟨0, 1⟩] = 6 := by kernel_rfl
theorem kn_r3 : RightE roomK hotL [⟨1, 1⟩, ⟨1, 0⟩] = 12 := by kernel_rfl
theorem kn_r4 : RightE roomK hotL [⟨0, 1⟩, ⟨-1, 0⟩] = 9 := by kernel_rfl
theorem kn_r5 : RightE roomK hotL [⟨-1, 1⟩, ⟨-1, 0⟩] = 1 := by kernel_rfl
theorem kn_p0 : PlacesE roomK hotL plK 0 = ([[0], [1]], 0) := by kernel_rfl
theorem kn_p2 : PlacesE roomK hotL plK 2 = ([[0], []], 0) := by kernel_rfl
theorem kn_m : MostE roomK hotL = (plK, 2, 0) := by kernel_rfl
theorem kn_a1 : AllE roomK hotL = (plK, 0) := by kernel_rfl
theorem kn_a2 : (AllE roomK coldL).2 = 11 := by kernel_rfl
theorem kn_lo : openE roomK coldL [] [] = 0 := by kernel_rfl
theorem kn_l : lostS roomK coldL = [] := by kernel_rfl
theorem kn_cr : (CrowdE roomK hotL).2 = 11 := by kernel_rfl
theorem kn_v1 : VerdE roomK coldL 0 = (3, 0) := by kernel_rfl
theorem kn_v2 : VerdE roomK hotL 0 = (1, 0) := by kernel_rfl
theorem kn_s1 : SpareE roomK hotL 2 = (3, 0) := by kernel_rfl
theorem kn_s2 : (SpareE roomK coldL 0).2 = 11 := by kernel_rfl
theorem kn_d1 : (AddE roomK ⟨20, 0, 0, 0⟩).2 = 9 := by kernel_rfl
theorem kn_d2 : (AddE roomK ⟨0, 0, 0, 0⟩).2 = 1 := by kernel_rfl
end Go.Mz


set_option maxRecDepth 100000
namespace Go.Mz
open Go.Conc Go.Proofs
variable {X : Logic Tryz.prog}
def roomP (b1 b2 : Nat) : Pt := ⟨some ⟨b1, 0, none⟩, some ⟨b2, 0, none⟩, 2, 2⟩
def NewRoom (L : LH) (v : Value) (L' : LH) : Prop := ∃ b1 b2, v = stA roomK (roomP b1 b2) ∧ L b1 = none ∧ L b2 = none ∧ b2 ≠ b1 ∧ L' = (L.put b1 (.cells (roomK.shelves.flatMap encSh).toArray 59)).put b2 (.cells (roomK.cones.flatMap encCo).toArray 27)
theorem NewRoom.le {L L' : LH} {v : Value} (h : NewRoom L v L') : Le L L' := by
 obtain ⟨b1, b2, _, h1, h2, _, rfl⟩ := h
 exact le_put_none (Le.put h1 _) h2 _
theorem NewRoom.ex {L L' : LH} {v : Value} (h : NewRoom L v L') : ∃ b1 b2, v = stA roomK (roomP b1 b2) ∧ Le L L' ∧ L b1 = none ∧ L b2 = none ∧ b2 ≠ b1 ∧ L' b1 = some (.cells (roomK.shelves.flatMap encSh).toArray 59 (0, 0), true) ∧ L' b2 = some (.cells (roomK.cones.flatMap encCo).toArray 27 (0, 0), true) := by
 have hl := h.le
 obtain ⟨b1, b2, rfl, h1, h2, hn, rfl⟩ := h
 exact ⟨b1, b2, rfl, hl, h1, h2, hn, (put_ne _ _ hn.symm).trans (put_same _ _ _), put_same _ _ _⟩
theorem two_of (H : LH) (a c : Nat) : ∃ F : LH, Le F H ∧ F a = H a ∧ F c = H c ∧ ∀ b, b ≠ a → b ≠ c → F b = none :=
 ⟨fun b => if b = a ∨ b = c then H b else none, (fun b x hx => by
  by_cases h : b = a ∨ b = c
  ·exact (if_pos h).symm.trans hx
  ·have := (if_neg h).symm.trans hx; cases this), if_pos (.inl rfl), if_pos (.inr rfl), fun b h1 h2 => if_neg fun h => h.elim h1 h2⟩
theorem fresh_ne {L : LH} {a b : Nat} {x : Obj × Bool} (h : L b = none) (ha : L a = some x) : b ≠ a := fun e => by subst e; rw [h] at ha; cases ha
theorem type_ne {L : LH} {a b : Nat} {c d : Array Value} {e f : TypeId} (ha : L a = some (.cells c e (0, 0), true)) (hb : L b = some (.cells d f (0, 0), true)) (hn : e ≠ f) : a ≠ b := fun h => by
 subst h; rw [ha] at hb; injection hb with hb; injection hb with hb _; injection hb with _ hb _; exact hn hb
theorem room_at {L : LH} {b1 b2 : Nat} (h1 : L b1 = some (.cells (roomK.shelves.flatMap encSh).toArray 59 (0, 0), true)) (h2 : L b2 = some (.cells (roomK.cones.flatMap encCo).toArray 27 (0, 0), true)) : StAt L roomK (roomP b1 b2) :=
 ⟨sl_block encSh_len h1, sl_block encCo_len h2, by decide, by decide⟩
theorem NewRoom.st {L L' : LH} {v : Value} (h : NewRoom L v L') : ∃ b1 b2, v = stA roomK (roomP b1 b2) ∧ Le L L' ∧ StAt L' roomK (roomP b1 b2) := by
 have hl := h.le
 obtain ⟨b1, b2, rfl, h1, h2, hn, rfl⟩ := h
 exact ⟨b1, b2, rfl, hl, room_at ((put_ne _ _ hn.symm).trans (put_same _ _ _)) (put_same _ _ _)⟩
theorem roomK_sp (L : LH) : Sp X 75 [] L (NewRoom L) := by
 refine Sp.enter (n := 8) Tryz.func75 rfl rfl rfl rfl fun C hX _ hL0 r => ?_
 refine W.goP [3] 99 rfl ?_
 refine W.go 1 rfl ?_
 refine W.pub 3 (.inr ⟨_, _, _, rfl⟩) rfl rfl ?_
 intro b1 hb1 _
 refine W.goP [6] 99 rfl ?_
 refine W.go 1 rfl ?_
 refine W.pub 6 (.inr ⟨_, _, _, rfl⟩) rfl rfl ?_
 intro b2 hb2 _
 refine W.go 99 rfl ?_
 have hn : b2 ≠ b1 := fun e => by subst e; rw [put_same] at hb2; cases hb2
 refine W.ret r rfl rfl ?_
 exact ⟨b1, b2, rfl, hb1, (put_ne _ _ hn).symm.trans hb2, hn, rfl⟩
theorem atK_sp (x y : Int) (L : LH) : Sp X 76 [.int .i64 x, .int .i64 y] L (fun v L' => v = .agg (encSt ⟨x, y⟩).toArray ∧ L = L') := by
 refine Sp.enter (n := 8) Tryz.func76 rfl rfl rfl rfl fun C hX _ hL0 r => ?_
 refine W.go 99 rfl ?_
 refine W.ret r rfl rfl ?_
 exact ⟨rfl, rfl⟩
def NewNums (L : LH) (l : List Int) (v : Value) (L' : LH) : Prop := ∃ a, v = .slice a l.length l.length ∧ Le L L' ∧ IntsAt L' a l
theorem nums_new {L : LH} {b : Nat} {l : List Int} (hb : L b = none) : NewNums L l (.slice (some ⟨b, 0, none⟩) l.length l.length) (L.put b (.cells (l.flatMap encI).toArray 3)) := ⟨_, rfl, Le.put hb _, sl_block encI_len (put_same _ _ _)⟩
theorem hotK_sp (L : LH) : Sp X 77 [] L (NewNums L hotL) := by
 refine Sp.enter (n := 2) Tryz.func77 rfl rfl rfl rfl fun C hX _ hL0 r => ?_
 refine W.go 99 rfl ?_
 refine W.pub 0 (.inr ⟨_, _, _, rfl⟩) rfl rfl ?_
 intro b1 hb1 _
 refine W.ret r rfl rfl ?_
 exact nums_new hb1
theorem coldK_sp (L : LH) : Sp X 79 [] L (NewNums L coldL) := by
 refine Sp.enter (n := 2) Tryz.func79 rfl rfl rfl rfl fun C hX _ hL0 r => ?_
 refine W.go 99 rfl ?_
 refine W.pub 0 (.inr ⟨_, _, _, rfl⟩) rfl rfl ?_
 intro b1 hb1 _
 refine W.ret r rfl rfl ?_
 exact nums_new hb1
theorem bothK_sp (x y z w : Int) (L : LH) : Sp X 78 [.int .i64 x, .int .i64 y, .int .i64 z, .int .i64 w] L (fun v L' => ∃ a, v = .slice a 2 2 ∧ Le L L' ∧ SlAt L' a 2 encSt [⟨x, y⟩, ⟨z, w⟩]) := by
 refine Sp.enter (n := 16) Tryz.func78 rfl rfl rfl rfl fun C hX _ hL0 r => ?_
 refine W.go 99 rfl ?_
 refine W.eff rfl rfl rfl (Ef.call rfl (atK_sp _ _ _)) ?_
 rintro _ _ _ ⟨_, rfl, rfl, rfl, rfl⟩
 refine W.go 99 rfl ?_
 refine W.eff rfl rfl rfl (Ef.call rfl (atK_sp _ _ _)) ?_
 rintro _ _ _ ⟨_, rfl, rfl, rfl, rfl⟩
 refine W.go 99 rfl ?_
 refine W.pub 8 (.inr ⟨_, _, _, rfl⟩) rfl rfl ?_
 intro b1 hb1 _
 refine W.ret r rfl rfl ?_
 exact ⟨_, rfl, Le.put hb1 _, sl_block (l := [(⟨x, y⟩ : Stand), ⟨z, w⟩]) (e := 30) encSt_len (put_same _ _ _)⟩
end Go.Mz


namespace Go.Mz
open Go
def onlyS (s : St) (l : List Nat) : St := { s with cones := l.filterMap fun i => s.cones[i]? }
section
variable {s : St} {hs : List Int}
end
end Go.Mz


set_option maxRecDepth 100000
namespace Go.Mz
open Go
section
variable {s : St} {hs : List Int}
end
end Go.Mz


set_option maxRecDepth 100000
namespace Go.Mz
open Go
def strL (n : Nat) : Nat → List (List Int)
 | 0 => [[]]
 | k + 1 => (strL n k).flatMap fun x => (List.range n).map fun (y : Nat) => x ++ [(y : Int)]
section
variable {s : St}
def okHB (s : St) (l : List Int) : Bool := heatsE s l == 0 && canS s l
end
end Go.Mz


set_option maxRecDepth 100000
namespace Go.Mz
open Go.Conc Go.Proofs
variable {X : Logic Tryz.prog}
theorem EqLists_sp (pa pb : Option Addr) (ca cb : Nat) (a b : List (List Int)) (L : LH) (ha : RowsAt L pa 1 encI a) (hb : RowsAt L pb 1 encI b) (na : a.length ≤ 1000000) (nb : b.length ≤ 1000000) (la : ∀ x ∈ a, x.length ≤ 1000000) (lb : ∀ x ∈ b, x.length ≤ 1000000) :
  Sp X 68 [.slice pa a.length ca, .slice pb b.length cb] L (fun v L' => v = .bool (decide (a = b)) ∧ L = L') := by
 refine Sp.enter (n := 33) Tryz.func68 rfl rfl rfl rfl fun C hX _ hL0 r => ?_
 refine W.go 99 rfl ?_
 refine W.loop (fun w E B L' => ∃ (i : Nat), w = a.length - i ∧ i ≤ a.length ∧ i ≤ b.length ∧ a.take i = b.take i ∧ L = L' ∧
   E = [(0, .v (.slice pa a.length ca)), (1, .v (.slice pb b.length cb)), (5, .v (.int .i64 i))] ∧ B = [])
  ⟨0, rfl, by omega, by omega, rfl, rfl, rfl, rfl⟩ (by exact ⟨rfl, rfl, rfl, trivial⟩) trivial ?_
 rintro _ _ _ _ ⟨i, rfl, hi, hib, hpre, rfl, rfl, rfl⟩ again
 refine W.go 99 rfl ?_
 refine W.split rfl rfl rfl (fun e1 => W.go 99 rfl ?_) (fun e1 => W.go 99 rfl ?_)
 ·have hia : i < a.length := by simpa using e1
  refine W.split rfl rfl rfl (fun e2 => W.go 99 rfl ?_) (fun e2 => W.go 99 rfl ?_)
  ·have hibl : i < b.length := by simpa using e2
   obtain ⟨x, hx⟩ : ∃ x, a[i]? = some x := ⟨_, List.getElem?_eq_getElem hia⟩
   obtain ⟨y, hy⟩ : ∃ y, b[i]? = some y := ⟨_, List.getElem?_eq_getElem hibl⟩
   obtain ⟨pa', rfl⟩ := ha.addr hia
   obtain ⟨pb', rfl⟩ := hb.addr hibl
   obtain ⟨xa, xc, hxc, hxs⟩ := ha.row hx
   obtain ⟨ya, yc, hyc, hys⟩ := hb.row hy
   refine W.drawn (by kernel_rfl) _ (Le.refl _) ?_
   refine DD.run' [0, 1, 4, 5] rfl ?_
   refine DD.vf 2 rfl rfl rfl rfl rfl (Vf.idx1 rfl rfl rfl rfl rfl rfl rfl (hia)) ?_
   refine DD.vf 3 rfl rfl rfl rfl rfl (Vf.load rfl rfl rfl (hxc)) ?_
   refine DD.vf 6 rfl rfl rfl rfl rfl (Vf.idx1 rfl rfl rfl rfl rfl rfl rfl (hibl)) ?_
   refine DD.vf 7 rfl rfl rfl rfl rfl (Vf.load rfl rfl rfl (hyc)) ?_
   refine DD.act 8 rfl rfl rfl rfl rfl (Ef.call rfl (EqInts_sp xa ya xc yc x y L hxs hys (la x (List.mem_of_getElem? hx)) (lb y (List.mem_of_getElem? hy)))) (by rintro _ _ _ ⟨_, rfl, rfl, rfl, rfl⟩; exact ⟨Le.refl _, rfl, .inl rfl⟩) ?_
   rintro _ _ _ ⟨_, rfl, rfl, rfl, rfl⟩
   refine DD.run' [9] rfl ?_
   refine .fin rfl ?_
   refine W.go 99 rfl ?_
   refine W.split rfl rfl rfl (fun e3 => W.go 99 rfl ?_) (fun e3 => W.go 99 rfl ?_)
   ·have hne : x ≠ y := by simpa using e3
    exact W.ret r rfl rfl ⟨by rw [decide_eq_false (fun h => hne (by rw [h, hy] at hx; exact (Option.some.inj hx).symm))]; rfl, rfl⟩
   ·have heq : x = y := by simpa using e3
    subst heq
    refine W.again (again _ _ _ _ (by omega) ⟨i + 1, rfl, by omega, by omega, ?_, rfl, rfl, rfl⟩) ⟨rfl, rfl, congrArg some (inc64 (by omega)), trivial⟩ trivial
    obtain ⟨_, h1⟩ := List.getElem?_eq_some_iff.1 hx
    obtain ⟨_, h2⟩ := List.getElem?_eq_some_iff.1 hy
    rw [List.take_succ_eq_append_getElem hia, List.take_succ_eq_append_getElem hibl, hpre, h1, h2]
  ·have hibl : i = b.length := by simp at e2; omega
   refine W.ret r rfl rfl ?_
   refine ⟨?_, rfl⟩
   rw [decide_eq_false (fun h => by rw [h] at hia; omega)]
   simp [retV]
   omega
 ·have hia : i = a.length := by simp at e1; omega
  refine W.ret r rfl rfl ?_
  refine ⟨?_, rfl⟩
  by_cases hl : a.length = b.length
  ·have h : a = b := by rw [hia, List.take_length, hl, List.take_length] at hpre; exact hpre
   rw [decide_eq_true h]
   simp [retV, hl]
  ·rw [decide_eq_false (fun h => hl (by rw [h]))]
   simp [retV]
   omega
end Go.Mz


set_option maxRecDepth 100000
namespace Go.Mz
open Go.Conc Go.Proofs
variable {Post : Value → World → Prop} {W0 : World}
theorem fireB_sp (s : St) (p : Pt) (L : LH) (hst : StAt L s p) (hok : Ok s) (hgl : GlOk L) : Sp (LFGo Tryz.prog Post W0) 93 [stA s p] L (fun v L' => ∃ u n, v = .tuple #[u, .int .i64 n, .bool (fireS s).isSome] ∧ Dim L L') := by
 refine (fire_sp s p L hst hok hgl).mono ?_ (fun _ _ h => h)
 rintro v L' ⟨h1, h2⟩
 cases hf : fireS s with
 | none => rw [hf] at h1; exact ⟨_, _, h1, h2⟩
 | some l => rw [hf] at h1; obtain ⟨ad, cap, h1, _⟩ := h1; exact ⟨_, _, h1, h2⟩
theorem Add_sp (s : St) (p : Pt) (c : Cone) (L : LH) (h : StAt L s p) (hcap : s.cones.length ≤ p.c2) (hgl : GlOk L) :
  Sp (LFGo Tryz.prog Post W0) 60 [stA s p, .agg (encCo c).toArray] L (fun v L' => ∃ p', v = .tuple #[stA (AddE s c).1 p', .int .i64 (AddE s c).2] ∧ Dim L L' ∧ StAt L' (AddE s c).1 p') := by
 unfold AddE
 refine Sp.enter (n := 69) Tryz.func60 rfl rfl rfl rfl fun C hX _ hL0 r => ?_
 refine W.go 99 rfl ?_
 refine W.eff rfl rfl rfl (Ef.call rfl (Check_sp s p L h)) ?_
 rintro _ _ _ ⟨_, rfl, rfl, rfl, rfl⟩
 refine W.go 99 rfl ?_
 refine W.split rfl rfl rfl (fun e1 => W.go 99 rfl ?_) (fun e1 => W.go 99 rfl ?_)
 ·refine W.ret r rfl rfl ?_
  have h0 : checkE s ≠ 0 := by simpa using e1
  rw [if_pos h0]
  exact ⟨⟨none, none, 0, 0⟩, rfl, Dim.refl _, zS_at _⟩
 have h0 : checkE s = 0 := by simpa using e1
 have hok := ok_iff.1 h0
 have hc3 := hok.c3
 have hs3 := hok.s3
 rw [if_neg (by rw [h0]; simp)] at r
 refine W.split rfl rfl rfl (fun e2 => W.go 99 rfl ?_) (fun e2 => W.go 99 rfl ?_)
 ·refine W.ret r rfl rfl ?_
  have h3 : s.cones.length = 3 := by simp at e2; omega
  rw [if_pos h3]
  exact ⟨⟨none, none, 0, 0⟩, rfl, Dim.refl _, zS_at _⟩
 have h3 : s.cones.length ≠ 3 := by simp at e2; omega
 rw [if_neg h3] at r
 refine W.eff rfl rfl rfl (Ef.call rfl (checkCone_sp c L)) ?_
 rintro _ _ _ ⟨_, rfl, rfl, rfl, rfl⟩
 refine W.go 99 rfl ?_
 refine W.split rfl rfl rfl (fun e3 => W.go 99 rfl ?_) (fun e3 => W.go 99 rfl ?_)
 ·refine W.ret r rfl rfl ?_
  have h4 : coneE c ≠ 0 := by simpa using e3
  rw [if_pos h4]
  exact ⟨⟨none, none, 0, 0⟩, rfl, Dim.refl _, zS_at _⟩
 have h4 : coneE c = 0 := by simpa using e3
 rw [if_neg (by rw [h4]; simp)] at r
 have hokm := more_ok hok h3 h4
 refine W.drawn (by kernel_rfl) _ (Le.refl _) ?_
 refine DD.run' [0, 1, 2, 3, 4, 5, 6, 7, 9, 10] rfl ?_
 refine DD.vf 8 rfl rfl rfl rfl rfl (Vf.slice3 rfl rfl rfl Tryz.underlying23 size27 (Nat.le_refl _) hcap) ?_
 refine DD.act 11 rfl rfl rfl rfl rfl (Ef.appF (enc := encCo) (l := s.cones) (ls := [c]) rfl rfl rfl rfl rfl rfl rfl rfl rfl encCo_len h.co (.own rfl rfl rfl rfl) (by simp) (by simp; omega)) ((by rintro _ _ _ ⟨_, _, _, _, rfl, hb, rfl, _⟩; exact ⟨Le.put hb _, rfl, .inl rfl⟩)) ?_
 rintro _ _ _ ⟨bn, cn, capn, rfl, rfl, hbn, rfl, hown⟩
 refine DD.run' [12] rfl ?_
 have hl1 : Le L (L.put bn (.cells cn 27)) := Le.put hbn _
 refine DD.act 13 rfl rfl rfl rfl rfl (Ef.sto rfl) (by rintro _ _ _ ⟨rfl, rfl, rfl⟩; exact ⟨hl1, rfl, .inr rfl⟩) ?_
 rintro _ _ _ ⟨rfl, rfl, rfl⟩
 refine .fin rfl ?_
 refine W.go 99 rfl ?_
 generalize L.put bn (.cells cn 27) = L1 at hl1 hown
 have hco1 : SlAt L1 (some ⟨bn, 0, none⟩) 4 encCo (s.cones ++ [c]) := hown.at encCo_len
 have hlm : (s.cones ++ [c]).length ≤ 140737488355328 := by simp; omega
 have hst1 : StAt L1 (moreS s c) ⟨p.sa, some ⟨bn, 0, none⟩, p.c1, capn⟩ := ⟨h.sh.le hl1, hco1, h.l1, hlm⟩
 have hf1 := fireB_sp (Post := Post) (W0 := W0) s p L1 (h.le hl1) hok (hgl.le hl1)
 rw [← hX] at hf1
 refine W.eff rfl rfl rfl (Ef.call rfl (hf1)) ?_
 rintro _ _ _ ⟨_, rfl, rfl, u1, n1, rfl, hd1⟩
 refine W.go 99 rfl ?_
 rename_i L2
 have hf2 := fireB_sp (Post := Post) (W0 := W0) (moreS s c) ⟨p.sa, some ⟨bn, 0, none⟩, p.c1, capn⟩ L2 (hd1.st hst1) hokm (hd1.cell (hgl.le hl1))
 rw [← hX] at hf2
 refine W.eff rfl rfl rfl (Ef.call rfl (hf2)) ?_
 rintro _ _ _ ⟨_, rfl, rfl, u2, n2, rfl, hd2⟩
 refine W.go 99 rfl ?_
 rename_i L3
 have hd3 := (Dim.of_le hl1).trans (hd1.trans hd2)
 have hst3 := hd2.st (hd1.st hst1)
 have hsh3 : SlAt L3 p.sa 2 encSh s.shelves := hd3.sl h.sh
 refine W.bool 59 rfl rfl (fun e4 => ?_) (fun e4 => ?_)
 ·refine W.go 99 rfl ?_
  refine W.split rfl rfl rfl (fun e5 => W.go 99 rfl ?_) (fun e5 => W.go 99 rfl ?_)
  ·refine W.ret r rfl rfl ?_
   rw [e4, if_pos (by simpa using e5)]
   exact ⟨⟨none, none, 0, 0⟩, rfl, hd3, zS_at _⟩
  ·have e6 : (fireS (moreS s c)).isSome = true := by simpa using e5
   refine W.eff rfl rfl rfl (Ef.call rfl (CloneSh_sp p.sa p.c1 s.shelves L3 hsh3 (by omega))) ?_
   rintro _ _ _ ⟨_, rfl, rfl, sa, sc, rfl, hl4, hsh4, _⟩
   refine W.go 99 rfl ?_
   refine W.ret r rfl rfl ?_
   rw [e4, e6, if_neg (by decide)]
   exact ⟨⟨sa, some ⟨bn, 0, none⟩, sc, capn⟩, rfl, hd3.trans (Dim.of_le hl4), hsh4, hst3.co.le hl4, h.l1, hlm⟩
 ·refine W.go 99 rfl ?_
  refine W.eff rfl rfl rfl (Ef.call rfl (CloneSh_sp p.sa p.c1 s.shelves L3 hsh3 (by omega))) ?_
  rintro _ _ _ ⟨_, rfl, rfl, sa, sc, rfl, hl4, hsh4, _⟩
  refine W.go 99 rfl ?_
  refine W.ret r rfl rfl ?_
  rw [e4, if_neg (by simp)]
  exact ⟨⟨sa, some ⟨bn, 0, none⟩, sc, capn⟩, rfl, hd3.trans (Dim.of_le hl4), hsh4, hst3.co.le hl4, h.l1, hlm⟩
end Go.Mz


set_option maxRecDepth 100000
namespace Go.Mz
open Go.Conc Go.Proofs
variable {Post : Value → World → Prop} {W0 : World}
theorem addK_sp (p : Pt) (c : Cone) (e : Int) (he : (AddE roomK c).2 = e) (L : LH) (h : StAt L roomK p) (hcap : 2 ≤ p.c2) (hgl : GlOk L) :
  Sp (LFGo Tryz.prog Post W0) 60 [stA roomK p, .agg (encCo c).toArray] L (fun v L' => ∃ s' p', v = .tuple #[stA s' p', .int .i64 e] ∧ Dim L L') :=
 (Add_sp roomK p c L h hcap hgl).mono (fun _ _ ⟨p', hv, hd, _⟩ => ⟨(AddE roomK c).1, p', by rw [hv, he], hd⟩) (fun _ _ h => h)
theorem SkN_run (L : LH) (hgl : GlOk L)
    (hQ : ∀ v L' w, (v = .bool true ∧ Dim L L') → Sub L' w → Same W0 w → Post v w) :
    FGo Tryz.prog Post W0 (G (Frame.enter Tryz.prog 19 [].toArray .normal) []) L := by
  refine root_enter (n := 382) (s := 0) Tryz.func19 rfl rfl (by kernel_rfl) rfl rfl hQ fun C hX _ hL0 r => ?_
  have drd : ∀ L2, GlOk L2 → Sp C.X 21 [] L2 (fun v L' => v = .bool true ∧ Dim L2 L') := fun L2 h => by rw [hX]; exact dried_sp L2 h
  refine W.go 99 rfl ?_
  refine W.eff rfl rfl rfl (Ef.call rfl (roomK_sp L)) ?_
  rintro _ _ _ ⟨_, rfl, rfl, h⟩
  rename_i L1 _
  obtain ⟨x1, y1, rfl, l1, hx1, hy1, n1, kx1, ky1⟩ := h.ex
  clear h
  refine W.go 99 rfl ?_
  refine W.eff rfl rfl rfl (Ef.call rfl (roomK_sp L1)) ?_
  rintro _ _ _ ⟨_, rfl, rfl, h⟩
  rename_i L2 _
  obtain ⟨x2, y2, rfl, l2, hx2, hy2, n2, kx2, ky2⟩ := h.ex
  clear h
  refine W.go 99 rfl ?_
  refine W.eff rfl rfl rfl (Ef.call rfl (roomK_sp L2)) ?_
  rintro _ _ _ ⟨_, rfl, rfl, h⟩
  rename_i L3 _
  obtain ⟨x3, y3, rfl, l3, hx3, hy3, n3, kx3, ky3⟩ := h.ex
  clear h
  refine W.go 99 rfl ?_
  refine W.eff rfl rfl rfl (Ef.call rfl (roomK_sp L3)) ?_
  rintro _ _ _ ⟨_, rfl, rfl, h⟩
  rename_i L4 _
  obtain ⟨x4, y4, rfl, l4, hx4, hy4, n4, kx4, ky4⟩ := h.ex
  clear h
  refine W.go 99 rfl ?_
  refine W.pub 1 (.inl ⟨_, rfl⟩) rfl rfl ?_
  intro g1 hg1 _
  refine W.pub 2 (.inl ⟨_, rfl⟩) rfl rfl ?_
  intro g2 hg2 _
  refine W.pub 3 (.inl ⟨_, rfl⟩) rfl rfl ?_
  intro g3 hg3 _
  refine W.pub 4 (.inl ⟨_, rfl⟩) rfl rfl ?_
  intro g4 hg4 _
  refine W.weak (E' := [(1, .v (pt g1)), (2, .v (pt g2)), (3, .v (pt g3)), (4, .v (pt g4))]) (B' := []) (by exact ⟨rfl, rfl, rfl, rfl, trivial⟩) (by exact trivial) ?_
  change W C _ _ _ _ _ ((((L4.put g1 (.cells (bxS roomK (roomP x1 y1)).toArray 25)).put g2 (.cells (bxS roomK (roomP x2 y2)).toArray 25)).put g3 (.cells (bxS roomK (roomP x3 y3)).toArray 25)).put g4 (.cells (bxS roomK (roomP x4 y4)).toArray 25))
  have n21 : g2 ≠ g1 := fresh_ne hg2 (put_same _ _ _)
  have n32 : g3 ≠ g2 := fresh_ne hg3 (put_same _ _ _)
  have n43 : g4 ≠ g3 := fresh_ne hg4 (put_same _ _ _)
  have n31 : g3 ≠ g1 := fresh_ne hg3 ((put_ne _ _ n21.symm).trans (put_same _ _ _))
  have n42 : g4 ≠ g2 := fresh_ne hg4 ((put_ne _ _ n32.symm).trans (put_same _ _ _))
  have n41 : g4 ≠ g1 := fresh_ne hg4 ((put_ne _ _ n31.symm).trans ((put_ne _ _ n21.symm).trans (put_same _ _ _)))
  have l5 : Le L4 ((((L4.put g1 (.cells (bxS roomK (roomP x1 y1)).toArray 25)).put g2 (.cells (bxS roomK (roomP x2 y2)).toArray 25)).put g3 (.cells (bxS roomK (roomP x3 y3)).toArray 25)).put g4 (.cells (bxS roomK (roomP x4 y4)).toArray 25)) := (((Le.put hg1 _).trans (Le.put hg2 _)).trans (Le.put hg3 _)).trans (Le.put hg4 _)
  have kg4 : ((((L4.put g1 (.cells (bxS roomK (roomP x1 y1)).toArray 25)).put g2 (.cells (bxS roomK (roomP x2 y2)).toArray 25)).put g3 (.cells (bxS roomK (roomP x3 y3)).toArray 25)).put g4 (.cells (bxS roomK (roomP x4 y4)).toArray 25)) g4 = some (.cells (bxS roomK (roomP x4 y4)).toArray 25 (0, 0), true) := put_same _ _ _
  have kg3 : ((((L4.put g1 (.cells (bxS roomK (roomP x1 y1)).toArray 25)).put g2 (.cells (bxS roomK (roomP x2 y2)).toArray 25)).put g3 (.cells (bxS roomK (roomP x3 y3)).toArray 25)).put g4 (.cells (bxS roomK (roomP x4 y4)).toArray 25)) g3 = some (.cells (bxS roomK (roomP x3 y3)).toArray 25 (0, 0), true) := (put_ne _ _ n43.symm).trans (put_same _ _ _)
  have kg2 : ((((L4.put g1 (.cells (bxS roomK (roomP x1 y1)).toArray 25)).put g2 (.cells (bxS roomK (roomP x2 y2)).toArray 25)).put g3 (.cells (bxS roomK (roomP x3 y3)).toArray 25)).put g4 (.cells (bxS roomK (roomP x4 y4)).toArray 25)) g2 = some (.cells (bxS roomK (roomP x2 y2)).toArray 25 (0, 0), true) := (put_ne _ _ n42.symm).trans ((put_ne _ _ n32.symm).trans (put_same _ _ _))
  have kg1 : ((((L4.put g1 (.cells (bxS roomK (roomP x1 y1)).toArray 25)).put g2 (.cells (bxS roomK (roomP x2 y2)).toArray 25)).put g3 (.cells (bxS roomK (roomP x3 y3)).toArray 25)).put g4 (.cells (bxS roomK (roomP x4 y4)).toArray 25)) g1 = some (.cells (bxS roomK (roomP x1 y1)).toArray 25 (0, 0), true) := (put_ne _ _ n41.symm).trans ((put_ne _ _ n31.symm).trans ((put_ne _ _ n21.symm).trans (put_same _ _ _)))
  generalize ((((L4.put g1 (.cells (bxS roomK (roomP x1 y1)).toArray 25)).put g2 (.cells (bxS roomK (roomP x2 y2)).toArray 25)).put g3 (.cells (bxS roomK (roomP x3 y3)).toArray 25)).put g4 (.cells (bxS roomK (roomP x4 y4)).toArray 25)) = H at l5 kg1 kg2 kg3 kg4 ⊢
  have m32 : x3 ≠ x2 := fresh_ne hx3 (kx2)
  have m42 : x4 ≠ x2 := fresh_ne hx4 (l3 _ _ kx2)
  have o32 : y3 ≠ y2 := fresh_ne hy3 ky2
  have o31 : y3 ≠ y1 := fresh_ne hy3 (l2 _ _ ky1)
  have o43 : y4 ≠ y3 := fresh_ne hy4 ky3
  have w1 := ((l1.trans l2).trans l3).trans (l4.trans l5)
  have g0L : L g1 = none := none_of_le ((l1.trans l2).trans (l3.trans l4)) hg1
  have g4L : L g4 = none := none_of_le ((l1.trans l2).trans (l3.trans l4)) (by rw [put_ne _ _ n43, put_ne _ _ n42, put_ne _ _ n41] at hg4; exact hg4)
  have x2L : L x2 = none := none_of_le l1 hx2
  have y3L : L y3 = none := none_of_le (l1.trans l2) hy3
  have kx1 := l5 _ _ (l4 _ _ (l3 _ _ (l2 _ _ kx1)))
  have ky1 := l5 _ _ (l4 _ _ (l3 _ _ (l2 _ _ ky1)))
  have kx2 := l5 _ _ (l4 _ _ (l3 _ _ kx2))
  have ky2 := l5 _ _ (l4 _ _ (l3 _ _ ky2))
  have kx3 := l5 _ _ (l4 _ _ kx3)
  have ky3 := l5 _ _ (l4 _ _ ky3)
  have kx4 := l5 _ _ kx4
  have ky4 := l5 _ _ ky4
  clear hg1 hg2 hg3 hg4 hx1 hy1 hx2 hy2 hx3 hy3 hx4 hy4 l1 l2 l3 l4 l5
  refine W.go 99 rfl ?_
  obtain ⟨F, hFH, hF2, hF3, hF⟩ := two_of H g2 g3
  rw [kg2] at hF2
  rw [kg3] at hF3
  have f1 : F g1 = none := hF _ n21.symm n31.symm
  have f4 : F g4 = none := hF _ n42 n43
  have fx : F x2 = none := hF _ (type_ne kx2 kg2 (by decide)) (type_ne kx2 kg3 (by decide))
  have fy : F y3 = none := hF _ (type_ne ky3 kg2 (by decide)) (type_ne ky3 kg3 (by decide))
  have c2 : F.cell? ((Addr.mk g2 0 none).add 0) = some (.slice (some ⟨x2, 0, none⟩) 2 2) := cell_of (off := 0) hF2 rfl
  have c3 : F.cell? ((Addr.mk g3 0 none).add 1) = some (.slice (some ⟨y3, 0, none⟩) 2 2) := cell_of (off := 1) hF3 rfl
  refine W.drawn (by kernel_rfl) F hFH ?_
  refine DD.run' [0, 2] rfl ?_
  refine DD.vf 1 rfl rfl rfl rfl rfl (Vf.load rfl rfl rfl (c2)) ?_
  refine DD.vf 3 rfl rfl rfl rfl rfl (Vf.load rfl rfl rfl (c3)) ?_
  refine DD.run' [4] rfl ?_
  refine DD.act 5 rfl rfl rfl rfl rfl (Ef.stoF (off := 0) rfl ⟨_, rfl, rfl⟩ rfl kg1 rfl (show 1 ≤ 6 by decide) (singles rfl)) ((by rintro _ _ _ ⟨rfl, rfl, rfl⟩; exact ⟨le_put_none hFH f1 _, rfl, .inl rfl⟩)) ?_
  rintro _ _ _ ⟨rfl, rfl, rfl⟩
  refine DD.vf 6 rfl rfl rfl rfl rfl (Vf.idx rfl rfl rfl rfl rfl rfl ((show 0 < 2 by decide))) ?_
  refine DD.run' [7] rfl ?_
  refine DD.act 8 rfl rfl rfl rfl rfl (Ef.stoF (off := 1) rfl ⟨_, rfl, rfl⟩ rfl ((put_ne _ _ (type_ne kx2 kg1 (by decide))).trans kx2) rfl (by decide) (singles rfl)) ((by rintro _ _ _ ⟨rfl, rfl, rfl⟩; exact ⟨le_put_none (le_put_none hFH f1 _) fx _, rfl, .inl rfl⟩)) ?_
  rintro _ _ _ ⟨rfl, rfl, rfl⟩
  refine DD.vf 9 rfl rfl rfl rfl rfl (Vf.idx rfl rfl rfl rfl rfl rfl ((show 0 < 2 by decide))) ?_
  refine DD.run' [10] rfl ?_
  refine DD.act 11 rfl rfl rfl rfl rfl (Ef.stoF (off := 0) rfl ⟨_, rfl, rfl⟩ rfl ((put_ne _ _ (type_ne ky3 kx2 (by decide))).trans ((put_ne _ _ (type_ne ky3 kg1 (by decide))).trans ky3)) rfl (by decide) (singles rfl)) ((by rintro _ _ _ ⟨rfl, rfl, rfl⟩; exact ⟨le_put_none (le_put_none (le_put_none hFH f1 _) fx _) fy _, rfl, .inl rfl⟩)) ?_
  rintro _ _ _ ⟨rfl, rfl, rfl⟩
  refine DD.run' [12] rfl ?_
  refine DD.act 13 rfl rfl rfl rfl rfl (Ef.stoF (off := 2) rfl ⟨_, rfl, rfl⟩ rfl ((put_ne _ _ (type_ne kg4 ky3 (by decide))).trans ((put_ne _ _ (type_ne kg4 kx2 (by decide))).trans ((put_ne _ _ n41).trans kg4))) rfl (show 3 ≤ 6 by decide) (singles rfl)) ((by rintro _ _ _ ⟨rfl, rfl, rfl⟩; exact ⟨le_put_none (le_put_none (le_put_none (le_put_none hFH f1 _) fx _) fy _) f4 _, rfl, .inl rfl⟩)) ?_
  rintro _ _ _ ⟨rfl, rfl, rfl⟩
  refine .fin rfl ?_
  change W C _ _ _ _ _ ((((H.put g1 (.cells (bxS { roomK with shelves := [] } ⟨none, some ⟨y1, 0, none⟩, 0, 2⟩).toArray 25)).put x2 (.cells (([⟨0, 0⟩, ⟨2, 1⟩] : List Shelf).flatMap encSh).toArray 59)).put y3 (.cells (([⟨21, 3, 1, 5⟩, ⟨4, 4, 2, 6⟩] : List Cone).flatMap encCo).toArray 27)).put g4 (.cells (bxS { roomK with days := 5 } (roomP x4 y4)).toArray 25))
  have j2 : x2 ≠ g1 := type_ne kx2 kg1 (by decide)
  have j3 : y3 ≠ g1 := type_ne ky3 kg1 (by decide)
  have j4 : y3 ≠ x2 := type_ne ky3 kx2 (by decide)
  have j5 : g4 ≠ x2 := type_ne kg4 kx2 (by decide)
  have j6 : g4 ≠ y3 := type_ne kg4 ky3 (by decide)
  have wM : Le L ((((H.put g1 (.cells (bxS { roomK with shelves := [] } ⟨none, some ⟨y1, 0, none⟩, 0, 2⟩).toArray 25)).put x2 (.cells (([⟨0, 0⟩, ⟨2, 1⟩] : List Shelf).flatMap encSh).toArray 59)).put y3 (.cells (([⟨21, 3, 1, 5⟩, ⟨4, 4, 2, 6⟩] : List Cone).flatMap encCo).toArray 27)).put g4 (.cells (bxS { roomK with days := 5 } (roomP x4 y4)).toArray 25)) := le_put_none (le_put_none (le_put_none (le_put_none w1 g0L _) x2L _) y3L _) g4L _
  have off : ∀ {b o}, H b = some o → b ≠ g1 → b ≠ x2 → b ≠ y3 → b ≠ g4 → ((((H.put g1 (.cells (bxS { roomK with shelves := [] } ⟨none, some ⟨y1, 0, none⟩, 0, 2⟩).toArray 25)).put x2 (.cells (([⟨0, 0⟩, ⟨2, 1⟩] : List Shelf).flatMap encSh).toArray 59)).put y3 (.cells (([⟨21, 3, 1, 5⟩, ⟨4, 4, 2, 6⟩] : List Cone).flatMap encCo).toArray 27)).put g4 (.cells (bxS { roomK with days := 5 } (roomP x4 y4)).toArray 25)) b = some o := fun h a1 a2 a3 a4 => (put_ne _ _ a4).trans ((put_ne _ _ a3).trans ((put_ne _ _ a2).trans ((put_ne _ _ a1).trans h)))
  have e1 : ((((H.put g1 (.cells (bxS { roomK with shelves := [] } ⟨none, some ⟨y1, 0, none⟩, 0, 2⟩).toArray 25)).put x2 (.cells (([⟨0, 0⟩, ⟨2, 1⟩] : List Shelf).flatMap encSh).toArray 59)).put y3 (.cells (([⟨21, 3, 1, 5⟩, ⟨4, 4, 2, 6⟩] : List Cone).flatMap encCo).toArray 27)).put g4 (.cells (bxS { roomK with days := 5 } (roomP x4 y4)).toArray 25)) g1 = some (.cells (bxS { roomK with shelves := [] } ⟨none, some ⟨y1, 0, none⟩, 0, 2⟩).toArray 25 (0, 0), true) := (put_ne _ _ n41.symm).trans ((put_ne _ _ j3.symm).trans ((put_ne _ _ j2.symm).trans (put_same _ _ _)))
  have e2 := off kg2 n21 (type_ne kg2 kx2 (by decide)) (type_ne kg2 ky3 (by decide)) n42.symm
  have e3 := off kg3 n31 (type_ne kg3 kx2 (by decide)) (type_ne kg3 ky3 (by decide)) n43.symm
  have e4 : ((((H.put g1 (.cells (bxS { roomK with shelves := [] } ⟨none, some ⟨y1, 0, none⟩, 0, 2⟩).toArray 25)).put x2 (.cells (([⟨0, 0⟩, ⟨2, 1⟩] : List Shelf).flatMap encSh).toArray 59)).put y3 (.cells (([⟨21, 3, 1, 5⟩, ⟨4, 4, 2, 6⟩] : List Cone).flatMap encCo).toArray 27)).put g4 (.cells (bxS { roomK with days := 5 } (roomP x4 y4)).toArray 25)) g4 = some (.cells (bxS { roomK with days := 5 } (roomP x4 y4)).toArray 25 (0, 0), true) := put_same _ _ _
  have s1 : StAt ((((H.put g1 (.cells (bxS { roomK with shelves := [] } ⟨none, some ⟨y1, 0, none⟩, 0, 2⟩).toArray 25)).put x2 (.cells (([⟨0, 0⟩, ⟨2, 1⟩] : List Shelf).flatMap encSh).toArray 59)).put y3 (.cells (([⟨21, 3, 1, 5⟩, ⟨4, 4, 2, 6⟩] : List Cone).flatMap encCo).toArray 27)).put g4 (.cells (bxS { roomK with days := 5 } (roomP x4 y4)).toArray 25)) { roomK with shelves := [] } ⟨none, some ⟨y1, 0, none⟩, 0, 2⟩ := ⟨SlAt.empty, sl_block encCo_len (off ky1 (type_ne ky1 kg1 (by decide)) (type_ne ky1 kx2 (by decide)) o31.symm (type_ne ky1 kg4 (by decide))), by decide, by decide⟩
  have s2 : StAt ((((H.put g1 (.cells (bxS { roomK with shelves := [] } ⟨none, some ⟨y1, 0, none⟩, 0, 2⟩).toArray 25)).put x2 (.cells (([⟨0, 0⟩, ⟨2, 1⟩] : List Shelf).flatMap encSh).toArray 59)).put y3 (.cells (([⟨21, 3, 1, 5⟩, ⟨4, 4, 2, 6⟩] : List Cone).flatMap encCo).toArray 27)).put g4 (.cells (bxS { roomK with days := 5 } (roomP x4 y4)).toArray 25)) { roomK with shelves := [⟨0, 0⟩, ⟨2, 1⟩] } (roomP x2 y2) := ⟨sl_block (e := 59) encSh_len ((put_ne _ _ j5.symm).trans ((put_ne _ _ j4.symm).trans (put_same _ _ _))), sl_block encCo_len (off ky2 (type_ne ky2 kg1 (by decide)) (type_ne ky2 kx2 (by decide)) o32.symm (type_ne ky2 kg4 (by decide))), by decide, by decide⟩
  have s3 : StAt ((((H.put g1 (.cells (bxS { roomK with shelves := [] } ⟨none, some ⟨y1, 0, none⟩, 0, 2⟩).toArray 25)).put x2 (.cells (([⟨0, 0⟩, ⟨2, 1⟩] : List Shelf).flatMap encSh).toArray 59)).put y3 (.cells (([⟨21, 3, 1, 5⟩, ⟨4, 4, 2, 6⟩] : List Cone).flatMap encCo).toArray 27)).put g4 (.cells (bxS { roomK with days := 5 } (roomP x4 y4)).toArray 25)) { roomK with cones := [⟨21, 3, 1, 5⟩, ⟨4, 4, 2, 6⟩] } (roomP x3 y3) := ⟨sl_block encSh_len (off kx3 (type_ne kx3 kg1 (by decide)) m32 (type_ne kx3 ky3 (by decide)) (type_ne kx3 kg4 (by decide))), sl_block (e := 27) encCo_len ((put_ne _ _ j6.symm).trans (put_same _ _ _)), by decide, by decide⟩
  have s4 : StAt ((((H.put g1 (.cells (bxS { roomK with shelves := [] } ⟨none, some ⟨y1, 0, none⟩, 0, 2⟩).toArray 25)).put x2 (.cells (([⟨0, 0⟩, ⟨2, 1⟩] : List Shelf).flatMap encSh).toArray 59)).put y3 (.cells (([⟨21, 3, 1, 5⟩, ⟨4, 4, 2, 6⟩] : List Cone).flatMap encCo).toArray 27)).put g4 (.cells (bxS { roomK with days := 5 } (roomP x4 y4)).toArray 25)) { roomK with days := 5 } (roomP x4 y4) := ⟨sl_block encSh_len (off kx4 (type_ne kx4 kg1 (by decide)) m42 (type_ne kx4 ky3 (by decide)) (type_ne kx4 kg4 (by decide))), sl_block encCo_len (off ky4 (type_ne ky4 kg1 (by decide)) (type_ne ky4 kx2 (by decide)) o43 (type_ne ky4 kg4 (by decide))), by decide, by decide⟩
  generalize ((((H.put g1 (.cells (bxS { roomK with shelves := [] } ⟨none, some ⟨y1, 0, none⟩, 0, 2⟩).toArray 25)).put x2 (.cells (([⟨0, 0⟩, ⟨2, 1⟩] : List Shelf).flatMap encSh).toArray 59)).put y3 (.cells (([⟨21, 3, 1, 5⟩, ⟨4, 4, 2, 6⟩] : List Cone).flatMap encCo).toArray 27)).put g4 (.cells (bxS { roomK with days := 5 } (roomP x4 y4)).toArray 25)) = M at wM e1 e2 e3 e4 s1 s2 s3 s4 ⊢
  have e1 := cellsAt_n e1 rfl
  have e2 := cellsAt_n e2 rfl
  have e3 := cellsAt_n e3 rfl
  have e4 := cellsAt_n e4 rfl
  clear off hFH hF2 hF3 hF f1 f4 fx fy c2 c3 kg1 kg2 kg3 kg4 kx1 kx2 kx3 kx4 ky1 ky2 ky3 ky4 w1 g0L g4L x2L y3L
  refine W.weak (E' := [(1, .v (pt g1)), (2, .v (pt g2)), (3, .v (pt g3)), (4, .v (pt g4))]) (B' := []) (by exact ⟨rfl, rfl, rfl, rfl, trivial⟩) (by exact trivial) ?_
  refine W.go 99 rfl ?_
  have gl : ∀ {L'}, Dim M L' → GlOk L' := fun hd => (Dim.trans (Dim.of_le wM) hd).cell hgl
  refine W.eff rfl rfl rfl (Ef.call rfl (drd M (gl (Dim.refl _)))) ?_
  rintro _ _ _ ⟨_, rfl, rfl, rfl, d⟩
  rename_i K
  refine W.go 99 rfl ?_
  refine W.split rfl rfl rfl (fun h => absurd h (by simp)) (fun _ => W.go 99 rfl ?_)
  refine W.eff rfl rfl rfl (Ef.call rfl (roomK_sp K)) ?_
  rintro _ _ _ ⟨_, rfl, rfl, h⟩
  rename_i K' _
  obtain ⟨u, w, rfl, l, hr⟩ := h.st
  have d := d.trans (Dim.of_le l)
  clear h l
  refine W.go 99 rfl ?_
  have hC := Check_sp (X := C.X) roomK (roomP u w) K' hr
  rw [kn_c0] at hC
  refine W.eff rfl rfl rfl (Ef.call rfl (hC)) ?_
  rintro _ _ _ ⟨_, rfl, rfl, rfl, rfl⟩
  refine W.go 99 rfl ?_
  refine W.split rfl rfl rfl (fun h => absurd h (by simp)) (fun _ => W.go 99 rfl ?_)
  refine W.vf rfl rfl rfl rfl (Vf.loadN rfl rfl rfl (d.cells e1)) ?_
  refine W.go 99 rfl ?_
  have hC := Check_sp (X := C.X) _ _ K' (d.st s1)
  rw [kn_c1] at hC
  refine W.eff rfl rfl rfl (Ef.call rfl (hC)) ?_
  rintro _ _ _ ⟨_, rfl, rfl, rfl, rfl⟩
  refine W.go 99 rfl ?_
  refine W.split rfl rfl rfl (fun h => absurd h (by simp)) (fun _ => W.go 99 rfl ?_)
  refine W.vf rfl rfl rfl rfl (Vf.loadN rfl rfl rfl (d.cells e2)) ?_
  refine W.go 99 rfl ?_
  have hC := Check_sp (X := C.X) { roomK with shelves := [⟨0, 0⟩, ⟨2, 1⟩] } (roomP x2 y2) K' (d.st s2)
  rw [kn_c2] at hC
  refine W.eff rfl rfl rfl (Ef.call rfl (hC)) ?_
  rintro _ _ _ ⟨_, rfl, rfl, rfl, rfl⟩
  refine W.go 99 rfl ?_
  refine W.split rfl rfl rfl (fun h => absurd h (by simp)) (fun _ => W.go 99 rfl ?_)
  refine W.vf rfl rfl rfl rfl (Vf.loadN rfl rfl rfl (d.cells e3)) ?_
  refine W.go 99 rfl ?_
  have hC := Check_sp (X := C.X) { roomK with cones := [⟨21, 3, 1, 5⟩, ⟨4, 4, 2, 6⟩] } (roomP x3 y3) K' (d.st s3)
  rw [kn_c3] at hC
  refine W.eff rfl rfl rfl (Ef.call rfl (hC)) ?_
  rintro _ _ _ ⟨_, rfl, rfl, rfl, rfl⟩
  refine W.go 99 rfl ?_
  refine W.split rfl rfl rfl (fun h => absurd h (by simp)) (fun _ => W.go 99 rfl ?_)
  refine W.vf rfl rfl rfl rfl (Vf.loadN rfl rfl rfl (d.cells e4)) ?_
  refine W.go 99 rfl ?_
  have hC := Check_sp (X := C.X) { roomK with days := 5 } (roomP x4 y4) K' (d.st s4)
  rw [kn_c4] at hC
  refine W.eff rfl rfl rfl (Ef.call rfl (hC)) ?_
  rintro _ _ _ ⟨_, rfl, rfl, rfl, rfl⟩
  refine W.go 99 rfl ?_
  refine W.split rfl rfl rfl (fun h => absurd h (by simp)) (fun _ => W.go 99 rfl ?_)
  clear hC e1 e2 e3 e4 s1 s2 s3 s4
  refine W.eff rfl rfl rfl (Ef.call rfl (atK_sp _ _ _)) ?_
  rintro _ _ _ ⟨_, rfl, rfl, rfl, rfl⟩
  refine W.go 99 rfl ?_
  refine W.eff rfl rfl rfl (Ef.call rfl (atK_sp _ _ _)) ?_
  rintro _ _ _ ⟨_, rfl, rfl, rfl, rfl⟩
  refine W.go 99 rfl ?_
  refine W.eff rfl rfl rfl (Ef.call rfl (atK_sp _ _ _)) ?_
  rintro _ _ _ ⟨_, rfl, rfl, rfl, rfl⟩
  refine W.go 99 rfl ?_
  refine W.pub 5 (.inr ⟨_, _, _, rfl⟩) rfl rfl ?_
  intro b5 hb _
  change W C _ _ _ _ _ (K'.put b5 (.cells (([⟨0, 0⟩, ⟨1, 0⟩, ⟨0, 1⟩] : List Stand).flatMap encSt).toArray 30))
  have q : Le K' (K'.put b5 (.cells (([⟨0, 0⟩, ⟨1, 0⟩, ⟨0, 1⟩] : List Stand).flatMap encSt).toArray 30)) := Le.put hb _
  have kb5 := sl_block (L := (K'.put b5 (.cells (([⟨0, 0⟩, ⟨1, 0⟩, ⟨0, 1⟩] : List Stand).flatMap encSt).toArray 30))) (e := 30) encSt_len (put_same _ _ _)
  clear hb
  generalize (K'.put b5 (.cells (([⟨0, 0⟩, ⟨1, 0⟩, ⟨0, 1⟩] : List Stand).flatMap encSt).toArray 30)) = K5 at q kb5 ⊢
  have d := d.trans (Dim.of_le q)
  refine W.pub 6 (.inr ⟨_, _, _, rfl⟩) rfl rfl ?_
  intro b6 hb _
  change W C _ _ _ _ _ (K5.put b6 (.cells (([0, 0, 2] : List Int).flatMap encI).toArray 3))
  have q : Le K5 (K5.put b6 (.cells (([0, 0, 2] : List Int).flatMap encI).toArray 3)) := Le.put hb _
  have kb6 := sl_block (L := (K5.put b6 (.cells (([0, 0, 2] : List Int).flatMap encI).toArray 3))) (e := 3) encI_len (put_same _ _ _)
  clear hb
  generalize (K5.put b6 (.cells (([0, 0, 2] : List Int).flatMap encI).toArray 3)) = K6 at q kb6 ⊢
  have d := d.trans (Dim.of_le q)
  have kb5 := kb5.le q
  refine W.pub 7 (.inr ⟨_, _, _, rfl⟩) rfl rfl ?_
  intro b7 hb _
  change W C _ _ _ _ _ (K6.put b7 (.cells (([2, 1, 2] : List Int).flatMap encI).toArray 3))
  have q : Le K6 (K6.put b7 (.cells (([2, 1, 2] : List Int).flatMap encI).toArray 3)) := Le.put hb _
  have kb7 := sl_block (L := (K6.put b7 (.cells (([2, 1, 2] : List Int).flatMap encI).toArray 3))) (e := 3) encI_len (put_same _ _ _)
  clear hb
  generalize (K6.put b7 (.cells (([2, 1, 2] : List Int).flatMap encI).toArray 3)) = K7 at q kb7 ⊢
  have d := d.trans (Dim.of_le q)
  have kb5 := kb5.le q
  have kb6 := kb6.le q
  have hAll : ∀ k : Nat, k < 3 → ∃ a x y, ([⟨0, 0⟩, ⟨1, 0⟩, ⟨0, 1⟩] : List Stand)[k]? = some a ∧ ([0, 0, 2] : List Int)[k]? = some x ∧ ([2, 1, 2] : List Int)[k]? = some y ∧ FateE roomK hotL 0 a = (x, y, 0) := fun k hk => by
    rcases lt3 hk with rfl | rfl | rfl
    · exact ⟨_, _, _, rfl, rfl, rfl, kn_f1⟩
    · exact ⟨_, _, _, rfl, rfl, rfl, kn_f2⟩
    · exact ⟨_, _, _, rfl, rfl, rfl, kn_f3⟩
  refine W.loop (fun w E B L' => ∃ k : Nat, w = 3 - k ∧ k ≤ 3 ∧ Le K7 L' ∧ E = [(5, .v (.slice (some ⟨b5, 0, none⟩) 3 3)), (6, .v (.slice (some ⟨b6, 0, none⟩) 3 3)), (7, .v (.slice (some ⟨b7, 0, none⟩) 3 3)), (8, .v (.int .i64 k))] ∧ B = [])
    ⟨0, rfl, by omega, Le.refl _, rfl, rfl⟩ (by exact ⟨rfl, rfl, rfl, rfl, trivial⟩) (by exact trivial) ?_
  rintro _ _ _ K8 ⟨k, rfl, hk, l8, rfl, rfl⟩ again
  refine W.go 99 rfl ?_
  refine W.split rfl rfl rfl (fun e3 => W.go 99 rfl ?_) (fun e3 => W.go 99 rfl ?_)
  · have hk3 : k < 3 := by have : (k : Int) < 3 := by simpa using e3
                           omega
    obtain ⟨a, x, y, ha, hx, hy, hF⟩ := hAll k hk3
    have d8 := d.trans (Dim.of_le l8)
    refine W.drawn (by kernel_rfl) _ (Le.refl _) ?_
    refine DD.run' [2, 3] rfl ?_
    refine DD.vf 4 rfl rfl rfl rfl rfl (Vf.idx rfl rfl rfl rfl rfl rfl (hk3)) ?_
    refine DD.vf 5 rfl rfl rfl rfl rfl (Vf.loadN rfl rfl rfl ((kb5.le l8).whole ha rfl)) ?_
    refine DD.act 0 rfl rfl rfl rfl rfl (Ef.call rfl (roomK_sp K8)) ((by rintro _ _ _ ⟨_, rfl, rfl, h⟩; exact ⟨h.le, rfl, .inl rfl⟩)) ?_
    rintro _ _ _ ⟨_, rfl, rfl, h⟩
    rename_i K9 _
    obtain ⟨u, w, rfl, l9, hr⟩ := h.st
    clear h
    refine DD.act 1 rfl rfl rfl rfl rfl (Ef.call rfl (hotK_sp K9)) ((by rintro _ _ _ ⟨_, rfl, rfl, _, rfl, l, _⟩; exact ⟨l9.trans l, rfl, .inl rfl⟩)) ?_
    rintro _ _ _ ⟨_, rfl, rfl, ta, rfl, l10, hi⟩
    rename_i K10
    have hFa := Fate_sp (X := C.X) roomK (roomP u w) ta 3 hotL 0 a K10 ⟨hr.le l10, hi, gl (d8.trans (Dim.of_le (l9.trans l10))), by decide⟩
    rw [hF] at hFa
    refine DD.act 6 rfl rfl rfl rfl rfl (Ef.call rfl (hFa)) ((by rintro _ _ _ ⟨_, rfl, rfl, rfl, l⟩; exact ⟨(l9.trans l10).trans l, rfl, .inl rfl⟩)) ?_
    rintro _ _ _ ⟨_, rfl, rfl, rfl, l11⟩
    rename_i K11
    have l8 := l8.trans ((l9.trans l10).trans l11)
    refine DD.run' [7, 8, 9, 10, 11, 12, 13] rfl ?_
    refine .fin rfl ?_
    refine W.go 99 rfl ?_
    refine W.split rfl rfl rfl (fun h => absurd h (by simp)) (fun _ => W.go 99 rfl ?_)
    refine W.vf rfl rfl rfl rfl (Vf.idx1 rfl rfl rfl rfl rfl rfl rfl (hk3)) ?_
    refine W.go 99 rfl ?_
    refine W.vf rfl rfl rfl rfl (Vf.load rfl rfl rfl ((kb6.le l8).int hx)) ?_
    refine W.go 99 rfl ?_
    refine W.split rfl rfl rfl (fun h => absurd h (by simp)) (fun _ => W.go 99 rfl ?_)
    refine W.vf rfl rfl rfl rfl (Vf.idx1 rfl rfl rfl rfl rfl rfl rfl (hk3)) ?_
    refine W.go 99 rfl ?_
    refine W.vf rfl rfl rfl rfl (Vf.load rfl rfl rfl ((kb7.le l8).int hy)) ?_
    refine W.go 99 rfl ?_
    refine W.split rfl rfl rfl (fun h => absurd h (by simp)) (fun _ => W.go 99 rfl ?_)
    exact W.again (again _ _ _ _ (by omega) ⟨k + 1, rfl, by omega, l8, rfl, rfl⟩) (by exact ⟨rfl, rfl, rfl, congrArg some (inc64 (by omega)), trivial⟩) (by exact trivial)
  clear again e3 hk hAll kb5 kb6 kb7
  have d := d.trans (Dim.of_le l8)
  refine W.weak (E' := []) (B' := []) (by exact trivial) (by exact trivial) ?_
  refine W.go 99 rfl ?_
  refine W.eff rfl rfl rfl (Ef.call rfl (roomK_sp K8)) ?_
  rintro _ _ _ ⟨_, rfl, rfl, h⟩
  rename_i K9 _
  obtain ⟨u, w, rfl, l, hr⟩ := h.st
  have d := d.trans (Dim.of_le l)
  clear h l
  refine W.go 99 rfl ?_
  refine W.pub 128 (.inr ⟨_, _, _, rfl⟩) rfl rfl ?_
  intro b128 hb _
  change W C _ _ _ _ _ (K9.put b128 (.cells (([1, 2] : List Int).flatMap encI).toArray 3))
  have q : Le K9 (K9.put b128 (.cells (([1, 2] : List Int).flatMap encI).toArray 3)) := Le.put hb _
  have kb128 := sl_block (L := (K9.put b128 (.cells (([1, 2] : List Int).flatMap encI).toArray 3))) (e := 3) encI_len (put_same _ _ _)
  clear hb
  generalize (K9.put b128 (.cells (([1, 2] : List Int).flatMap encI).toArray 3)) = K10 at q kb128 ⊢
  have d := d.trans (Dim.of_le q)
  have hr := hr.le q
  have hi := kb128
  refine W.eff rfl rfl rfl (Ef.call rfl (atK_sp _ _ _)) ?_
  rintro _ _ _ ⟨_, rfl, rfl, rfl, rfl⟩
  refine W.go 99 rfl ?_
  have hF := Fate_sp (X := C.X) roomK (roomP u w) (some ⟨b128, 0, none⟩) 2 [1, 2] 0 ⟨0, 0⟩ K10 ⟨hr, hi, gl d, by decide⟩
  rw [kn_f4] at hF
  refine W.eff rfl rfl rfl (Ef.call rfl (hF)) ?_
  rintro _ _ _ ⟨_, rfl, rfl, rfl, l⟩
  refine W.go 99 rfl ?_
  rename_i K11
  have d := d.trans (Dim.of_le l)
  clear hF hr hi l
  clear kb128 q
  refine W.weak (E' := [(14, .v (.int .i64 7))]) (B' := []) (by exact ⟨rfl, trivial⟩) (by exact trivial) ?_
  refine W.go 99 rfl ?_
  refine W.eff rfl rfl rfl (Ef.call rfl (roomK_sp K11)) ?_
  rintro _ _ _ ⟨_, rfl, rfl, h⟩
  rename_i K12 _
  obtain ⟨u, w, rfl, l, hr⟩ := h.st
  have d := d.trans (Dim.of_le l)
  clear h l
  refine W.go 99 rfl ?_
  refine W.pub 136 (.inr ⟨_, _, _, rfl⟩) rfl rfl ?_
  intro b136 hb _
  change W C _ _ _ _ _ (K12.put b136 (.cells (([3, 3, 3] : List Int).flatMap encI).toArray 3))
  have q : Le K12 (K12.put b136 (.cells (([3, 3, 3] : List Int).flatMap encI).toArray 3)) := Le.put hb _
  have kb136 := sl_block (L := (K12.put b136 (.cells (([3, 3, 3] : List Int).flatMap encI).toArray 3))) (e := 3) encI_len (put_same _ _ _)
  clear hb
  generalize (K12.put b136 (.cells (([3, 3, 3] : List Int).flatMap encI).toArray 3)) = K13 at q kb136 ⊢
  have d := d.trans (Dim.of_le q)
  have hr := hr.le q
  have hi := kb136
  refine W.eff rfl rfl rfl (Ef.call rfl (atK_sp _ _ _)) ?_
  rintro _ _ _ ⟨_, rfl, rfl, rfl, rfl⟩
  refine W.go 99 rfl ?_
  have hF := Fate_sp (X := C.X) roomK (roomP u w) (some ⟨b136, 0, none⟩) 3 [3, 3, 3] 0 ⟨0, 0⟩ K13 ⟨hr, hi, gl d, by decide⟩
  rw [kn_f5] at hF
  refine W.eff rfl rfl rfl (Ef.call rfl (hF)) ?_
  rintro _ _ _ ⟨_, rfl, rfl, rfl, l⟩
  refine W.go 99 rfl ?_
  rename_i K14
  have d := d.trans (Dim.of_le l)
  clear hF hr hi l
  clear kb136 q
  refine W.weak (E' := [(14, .v (.int .i64 7)), (17, .v (.int .i64 12))]) (B' := []) (by exact ⟨rfl, rfl, trivial⟩) (by exact trivial) ?_
  refine W.go 99 rfl ?_
  refine W.eff rfl rfl rfl (Ef.call rfl (roomK_sp K14)) ?_
  rintro _ _ _ ⟨_, rfl, rfl, h⟩
  rename_i K15 _
  obtain ⟨u, w, rfl, l, hr⟩ := h.st
  have d := d.trans (Dim.of_le l)
  clear h l
  refine W.go 99 rfl ?_
  refine W.pub 144 (.inr ⟨_, _, _, rfl⟩) rfl rfl ?_
  intro b144 hb _
  change W C _ _ _ _ _ (K15.put b144 (.cells (([1, 4, 3] : List Int).flatMap encI).toArray 3))
  have q : Le K15 (K15.put b144 (.cells (([1, 4, 3] : List Int).flatMap encI).toArray 3)) := Le.put hb _
  have kb144 := sl_block (L := (K15.put b144 (.cells (([1, 4, 3] : List Int).flatMap encI).toArray 3))) (e := 3) encI_len (put_same _ _ _)
  clear hb
  generalize (K15.put b144 (.cells (([1, 4, 3] : List Int).flatMap encI).toArray 3)) = K16 at q kb144 ⊢
  have d := d.trans (Dim.of_le q)
  have hr := hr.le q
  have hi := kb144
  refine W.eff rfl rfl rfl (Ef.call rfl (atK_sp _ _ _)) ?_
  rintro _ _ _ ⟨_, rfl, rfl, rfl, rfl⟩
  refine W.go 99 rfl ?_
  have hF := Fate_sp (X := C.X) roomK (roomP u w) (some ⟨b144, 0, none⟩) 3 [1, 4, 3] 0 ⟨0, 0⟩ K16 ⟨hr, hi, gl d, by decide⟩
  rw [kn_f6] at hF
  refine W.eff rfl rfl rfl (Ef.call rfl (hF)) ?_
  rintro _ _ _ ⟨_, rfl, rfl, rfl, l⟩
  refine W.go 99 rfl ?_
  rename_i K17
  have d := d.trans (Dim.of_le l)
  clear hF hr hi l
  clear kb144 q
  refine W.weak (E' := [(14, .v (.int .i64 7)), (17, .v (.int .i64 12)), (20, .v (.int .i64 1))]) (B' := []) (by exact ⟨rfl, rfl, rfl, trivial⟩) (by exact trivial) ?_
  refine W.go 99 rfl ?_
  refine W.eff rfl rfl rfl (Ef.call rfl (roomK_sp K17)) ?_
  rintro _ _ _ ⟨_, rfl, rfl, h⟩
  rename_i K18 _
  obtain ⟨u, w, rfl, l, hr⟩ := h.st
  have d := d.trans (Dim.of_le l)
  clear h l
  refine W.go 99 rfl ?_
  refine W.eff rfl rfl rfl (Ef.call rfl (hotK_sp K18)) ?_
  rintro _ _ _ ⟨_, rfl, rfl, ta, rfl, l, hi⟩
  rename_i K19
  have hr := hr.le l
  have d := d.trans (Dim.of_le l)
  clear l
  refine W.go 99 rfl ?_
  refine W.eff rfl rfl rfl (Ef.call rfl (atK_sp _ _ _)) ?_
  rintro _ _ _ ⟨_, rfl, rfl, rfl, rfl⟩
  refine W.go 99 rfl ?_
  have hF := Fate_sp (X := C.X) roomK (roomP u w) ta 3 hotL 0 ⟨2, 0⟩ K19 ⟨hr, hi, gl d, by decide⟩
  rw [kn_f7] at hF
  refine W.eff rfl rfl rfl (Ef.call rfl (hF)) ?_
  rintro _ _ _ ⟨_, rfl, rfl, rfl, l⟩
  refine W.go 99 rfl ?_
  rename_i K20
  have d := d.trans (Dim.of_le l)
  clear hF hr hi l
  refine W.weak (E' := [(14, .v (.int .i64 7)), (17, .v (.int .i64 12)), (20, .v (.int .i64 1)), (23, .v (.int .i64 3)), (160, .v (.bool ((7 : Int) != 7)))]) (B' := []) (by exact ⟨rfl, rfl, rfl, rfl, rfl, trivial⟩) (by exact trivial) ?_
  refine W.go 99 rfl ?_
  refine W.split rfl rfl rfl (fun h => absurd h (by simp)) (fun _ => W.go 99 rfl ?_)
  refine W.split rfl rfl rfl (fun h => absurd h (by simp)) (fun _ => W.go 99 rfl ?_)
  refine W.split rfl rfl rfl (fun h => absurd h (by simp)) (fun _ => W.go 99 rfl ?_)
  refine W.split rfl rfl rfl (fun h => absurd h (by simp)) (fun _ => W.go 99 rfl ?_)
  refine W.eff rfl rfl rfl (Ef.call rfl (bothK_sp 0 0 1 0 K20)) ?_
  rintro _ _ _ ⟨_, rfl, rfl, r0, rfl, l, z0⟩
  rename_i K21
  have d := d.trans (Dim.of_le l)
  clear l
  refine W.go 99 rfl ?_
  refine W.eff rfl rfl rfl (Ef.call rfl (bothK_sp 0 0 0 1 K21)) ?_
  rintro _ _ _ ⟨_, rfl, rfl, r1, rfl, l, z1⟩
  rename_i K22
  have d := d.trans (Dim.of_le l)
  have z0 := z0.le l
  clear l
  refine W.go 99 rfl ?_
  refine W.eff rfl rfl rfl (Ef.call rfl (bothK_sp 1 1 1 0 K22)) ?_
  rintro _ _ _ ⟨_, rfl, rfl, r2, rfl, l, z2⟩
  rename_i K23
  have d := d.trans (Dim.of_le l)
  have z0 := z0.le l
  have z1 := z1.le l
  clear l
  refine W.go 99 rfl ?_
  refine W.eff rfl rfl rfl (Ef.call rfl (bothK_sp 0 1 (-1) 0 K23)) ?_
  rintro _ _ _ ⟨_, rfl, rfl, r3, rfl, l, z3⟩
  rename_i K24
  have d := d.trans (Dim.of_le l)
  have z0 := z0.le l
  have z1 := z1.le l
  have z2 := z2.le l
  clear l
  refine W.go 99 rfl ?_
  refine W.eff rfl rfl rfl (Ef.call rfl (bothK_sp (-1) 1 (-1) 0 K24)) ?_
  rintro _ _ _ ⟨_, rfl, rfl, r4, rfl, l, z4⟩
  rename_i K25
  have d := d.trans (Dim.of_le l)
  have z0 := z0.le l
  have z1 := z1.le l
  have z2 := z2.le l
  have z3 := z3.le l
  clear l
  refine W.go 99 rfl ?_
  refine W.pub 24 (.inr ⟨_, _, _, rfl⟩) rfl rfl ?_
  intro b24 hb _
  change W C _ _ _ _ _ (K25.put b24 (.cells (([((r0, 2, 2), [⟨0, 0⟩, ⟨1, 0⟩]), ((r1, 2, 2), [⟨0, 0⟩, ⟨0, 1⟩]), ((r2, 2, 2), [⟨1, 1⟩, ⟨1, 0⟩]), ((r3, 2, 2), [⟨0, 1⟩, ⟨-1, 0⟩]), ((r4, 2, 2), [⟨-1, 1⟩, ⟨-1, 0⟩])] : List (Rw Stand)).flatMap encRw).toArray 41))
  have q : Le K25 (K25.put b24 (.cells (([((r0, 2, 2), [⟨0, 0⟩, ⟨1, 0⟩]), ((r1, 2, 2), [⟨0, 0⟩, ⟨0, 1⟩]), ((r2, 2, 2), [⟨1, 1⟩, ⟨1, 0⟩]), ((r3, 2, 2), [⟨0, 1⟩, ⟨-1, 0⟩]), ((r4, 2, 2), [⟨-1, 1⟩, ⟨-1, 0⟩])] : List (Rw Stand)).flatMap encRw).toArray 41)) := Le.put hb _
  have kb24 := sl_block (L := (K25.put b24 (.cells (([((r0, 2, 2), [⟨0, 0⟩, ⟨1, 0⟩]), ((r1, 2, 2), [⟨0, 0⟩, ⟨0, 1⟩]), ((r2, 2, 2), [⟨1, 1⟩, ⟨1, 0⟩]), ((r3, 2, 2), [⟨0, 1⟩, ⟨-1, 0⟩]), ((r4, 2, 2), [⟨-1, 1⟩, ⟨-1, 0⟩])] : List (Rw Stand)).flatMap encRw).toArray 41))) (e := 41) encRw_len (put_same _ _ _)
  clear hb
  generalize (K25.put b24 (.cells (([((r0, 2, 2), [⟨0, 0⟩, ⟨1, 0⟩]), ((r1, 2, 2), [⟨0, 0⟩, ⟨0, 1⟩]), ((r2, 2, 2), [⟨1, 1⟩, ⟨1, 0⟩]), ((r3, 2, 2), [⟨0, 1⟩, ⟨-1, 0⟩]), ((r4, 2, 2), [⟨-1, 1⟩, ⟨-1, 0⟩])] : List (Rw Stand)).flatMap encRw).toArray 41)) = K26 at q kb24 ⊢
  have d := d.trans (Dim.of_le q)
  have z0 := z0.le q
  have z1 := z1.le q
  have z2 := z2.le q
  have z3 := z3.le q
  have z4 := z4.le q
  refine W.pub 25 (.inr ⟨_, _, _, rfl⟩) rfl rfl ?_
  intro b25 hb _
  change W C _ _ _ _ _ (K26.put b25 (.cells (([0, 6, 12, 9, 1] : List Int).flatMap encI).toArray 44))
  have q : Le K26 (K26.put b25 (.cells (([0, 6, 12, 9, 1] : List Int).flatMap encI).toArray 44)) := Le.put hb _
  have kb25 := sl_block (L := (K26.put b25 (.cells (([0, 6, 12, 9, 1] : List Int).flatMap encI).toArray 44))) (e := 44) encI_len (put_same _ _ _)
  clear hb
  generalize (K26.put b25 (.cells (([0, 6, 12, 9, 1] : List Int).flatMap encI).toArray 44)) = K27 at q kb25 ⊢
  have d := d.trans (Dim.of_le q)
  have kb24 := kb24.le q
  have z0 := z0.le q
  have z1 := z1.le q
  have z2 := z2.le q
  have z3 := z3.le q
  have z4 := z4.le q
  clear q
  have hRw : ∀ x ∈ ([((r0, 2, 2), [⟨0, 0⟩, ⟨1, 0⟩]), ((r1, 2, 2), [⟨0, 0⟩, ⟨0, 1⟩]), ((r2, 2, 2), [⟨1, 1⟩, ⟨1, 0⟩]), ((r3, 2, 2), [⟨0, 1⟩, ⟨-1, 0⟩]), ((r4, 2, 2), [⟨-1, 1⟩, ⟨-1, 0⟩])] : List (Rw Stand)), RwOk K27 2 encSt x := fun x hx => by
    simp only [List.mem_cons, List.not_mem_nil, or_false] at hx
    rcases hx with rfl | rfl | rfl | rfl | rfl
    · exact ⟨z0, rfl⟩
    · exact ⟨z1, rfl⟩
    · exact ⟨z2, rfl⟩
    · exact ⟨z3, rfl⟩
    · exact ⟨z4, rfl⟩
  have hAll : ∀ k : Nat, k < 5 → ∃ (x : Rw Stand) (e : Int), ([((r0, 2, 2), [⟨0, 0⟩, ⟨1, 0⟩]), ((r1, 2, 2), [⟨0, 0⟩, ⟨0, 1⟩]), ((r2, 2, 2), [⟨1, 1⟩, ⟨1, 0⟩]), ((r3, 2, 2), [⟨0, 1⟩, ⟨-1, 0⟩]), ((r4, 2, 2), [⟨-1, 1⟩, ⟨-1, 0⟩])] : List (Rw Stand))[k]? = some x ∧ ([0, 6, 12, 9, 1] : List Int)[k]? = some e ∧ RightE roomK hotL x.2 = e ∧ x.2.length = 2 := fun k hk => by
    match k, hk with
    | 0, _ => exact ⟨_, _, rfl, rfl, kn_r1, rfl⟩
    | 1, _ => exact ⟨_, _, rfl, rfl, kn_r2, rfl⟩
    | 2, _ => exact ⟨_, _, rfl, rfl, kn_r3, rfl⟩
    | 3, _ => exact ⟨_, _, rfl, rfl, kn_r4, rfl⟩
    | 4, _ => exact ⟨_, _, rfl, rfl, kn_r5, rfl⟩
  refine W.loop (fun w E B L' => ∃ k : Nat, w = 5 - k ∧ k ≤ 5 ∧ Le K27 L' ∧ E = [(24, .v (.slice (some ⟨b24, 0, none⟩) 5 5)), (25, .v (.slice (some ⟨b25, 0, none⟩) 5 5)), (26, .v (.int .i64 k))] ∧ B = [])
    ⟨0, rfl, by omega, Le.refl _, rfl, rfl⟩ (by exact ⟨rfl, rfl, rfl, trivial⟩) (by exact trivial) ?_
  rintro _ _ _ K28 ⟨k, rfl, hk, l8, rfl, rfl⟩ again
  refine W.go 99 rfl ?_
  refine W.split rfl rfl rfl (fun e3 => W.go 99 rfl ?_) (fun e3 => W.go 99 rfl ?_)
  · have hk5 : k < 5 := by have : (k : Int) < 5 := by simpa using e3
                           omega
    obtain ⟨⟨⟨xa, xn, xc⟩, xl⟩, e, hx, he, hR, hxl⟩ := hAll k hk5
    obtain ⟨hxs, hxn⟩ := (hRw _ (List.mem_of_getElem? hx)).le l8
    dsimp only at hxs hxn hR hxl
    subst hxn
    have d8 := d.trans (Dim.of_le l8)
    have hcl : K28.cell? ((Addr.mk b24 0 none).add k) = some (.slice xa xl.length xc) := by
      have := (kb24.le l8).get hx (j := 0) (v := slV (xa, xl.length, xc)) rfl
      simpa using this
    refine W.drawn (by kernel_rfl) _ (Le.refl _) ?_
    refine DD.run' [2, 3, 7, 8] rfl ?_
    refine DD.vf 4 rfl rfl rfl rfl rfl (Vf.idx1 rfl rfl rfl rfl rfl rfl rfl (hk5)) ?_
    refine DD.vf 5 rfl rfl rfl rfl rfl (Vf.load rfl rfl rfl (hcl)) ?_
    refine DD.vf 9 rfl rfl rfl rfl rfl (Vf.idx1 rfl rfl rfl rfl rfl rfl rfl (hk5)) ?_
    refine DD.vf 10 rfl rfl rfl rfl rfl (Vf.load rfl rfl rfl ((kb25.le l8).int he)) ?_
    refine DD.act 0 rfl rfl rfl rfl rfl (Ef.call rfl (roomK_sp K28)) ((by rintro _ _ _ ⟨_, rfl, rfl, h⟩; exact ⟨h.le, rfl, .inl rfl⟩)) ?_
    rintro _ _ _ ⟨_, rfl, rfl, h⟩
    rename_i K9 _
    obtain ⟨u, w, rfl, l9, hr⟩ := h.st
    clear h
    refine DD.act 1 rfl rfl rfl rfl rfl (Ef.call rfl (hotK_sp K9)) ((by rintro _ _ _ ⟨_, rfl, rfl, _, rfl, l, _⟩; exact ⟨l9.trans l, rfl, .inl rfl⟩)) ?_
    rintro _ _ _ ⟨_, rfl, rfl, ta, rfl, l10, hi⟩
    rename_i K10
    have hRi := Right_sp (X := C.X) roomK (roomP u w) ta xa 3 xc hotL xl K10 ⟨hr.le l10, hi, gl (d8.trans (Dim.of_le (l9.trans l10))), by decide⟩ (hxs.le (l9.trans l10)) (by omega)
    rw [hR] at hRi
    refine DD.act 6 rfl rfl rfl rfl rfl (Ef.call rfl (hRi)) ((by rintro _ _ _ ⟨_, rfl, rfl, rfl, l⟩; exact ⟨(l9.trans l10).trans l, rfl, .inl rfl⟩)) ?_
    rintro _ _ _ ⟨_, rfl, rfl, rfl, l11⟩
    have l8 := l8.trans ((l9.trans l10).trans l11)
    refine DD.run' [11] rfl ?_
    refine .fin rfl ?_
    refine W.go 99 rfl ?_
    refine W.split rfl rfl rfl (fun h => absurd h (by simp)) (fun _ => W.go 99 rfl ?_)
    exact W.again (again _ _ _ _ (by omega) ⟨k + 1, rfl, by omega, l8, rfl, rfl⟩) (by exact ⟨rfl, rfl, congrArg some (inc64 (by omega)), trivial⟩) (by exact trivial)
  have d := d.trans (Dim.of_le l8)
  have z0 := z0.le l8
  have hc0 : K28.cell? ((Addr.mk b24 0 none).add 0) = some (.slice r0 2 2) := by
    have := (kb24.le l8).get (i := 0) (x := ((r0, 2, 2), [⟨0, 0⟩, ⟨1, 0⟩])) rfl (j := 0) (v := slV (r0, 2, 2)) rfl
    simpa using this
  clear again e3 hk hAll kb24 kb25 hRw z1 z2 z3 z4 l8
  refine W.weak (E' := [(24, .v (.slice (some ⟨b24, 0, none⟩) 5 5))]) (B' := []) (by exact ⟨rfl, trivial⟩) (by exact trivial) ?_
  refine W.go 99 rfl ?_
  refine W.drawn (by kernel_rfl) _ (Le.refl _) ?_
  refine DD.run' [2] rfl ?_
  refine DD.vf 3 rfl rfl rfl rfl rfl (Vf.idx1 rfl rfl rfl rfl rfl rfl rfl ((show 0 < 5 by decide))) ?_
  refine DD.vf 4 rfl rfl rfl rfl rfl (Vf.load rfl rfl rfl (hc0)) ?_
  refine DD.act 0 rfl rfl rfl rfl rfl (Ef.call rfl (roomK_sp K28)) ((by rintro _ _ _ ⟨_, rfl, rfl, h⟩; exact ⟨h.le, rfl, .inl rfl⟩)) ?_
  rintro _ _ _ ⟨_, rfl, rfl, h⟩
  rename_i K29 _
  obtain ⟨u, w, rfl, l1, hr⟩ := h.st
  clear h
  refine DD.act 1 rfl rfl rfl rfl rfl (Ef.call rfl (hotK_sp K29)) ((by rintro _ _ _ ⟨_, rfl, rfl, _, rfl, l, _⟩; exact ⟨l1.trans l, rfl, .inl rfl⟩)) ?_
  rintro _ _ _ ⟨_, rfl, rfl, ta, rfl, l2, hi⟩
  rename_i K30
  have hP := Places_sp (X := C.X) roomK (roomP u w) ta r0 3 2 hotL plK 0 K30 ⟨hr.le l2, hi, gl (d.trans (Dim.of_le (l1.trans l2))), by decide⟩ (z0.le (l1.trans l2)) (by decide)
  rw [kn_p0] at hP
  refine DD.act 5 rfl rfl rfl rfl rfl (Ef.call rfl (hP)) ((by rintro _ _ _ ⟨_, rfl, rfl, _, rfl, _, _, rfl, l, _⟩; exact ⟨(l1.trans l2).trans l, rfl, .inl rfl⟩)) ?_
  rintro _ _ _ ⟨_, rfl, rfl, _, rfl, a27, c27, rfl, l3, w27⟩
  rename_i K31
  have l := (l1.trans l2).trans l3
  have d := d.trans (Dim.of_le l)
  have z0 := z0.le l
  have hc0 := l.cell hc0
  skip
  refine DD.run' [6, 7, 8, 9, 10] rfl ?_
  refine .fin rfl ?_
  refine W.go 99 rfl ?_
  clear l1 l2 l3 l hP hr hi
  refine W.drawn (by kernel_rfl) _ (Le.refl _) ?_
  refine DD.run' [2] rfl ?_
  refine DD.vf 3 rfl rfl rfl rfl rfl (Vf.idx1 rfl rfl rfl rfl rfl rfl rfl ((show 0 < 5 by decide))) ?_
  refine DD.vf 4 rfl rfl rfl rfl rfl (Vf.load rfl rfl rfl (hc0)) ?_
  refine DD.act 0 rfl rfl rfl rfl rfl (Ef.call rfl (roomK_sp K31)) ((by rintro _ _ _ ⟨_, rfl, rfl, h⟩; exact ⟨h.le, rfl, .inl rfl⟩)) ?_
  rintro _ _ _ ⟨_, rfl, rfl, h⟩
  rename_i K32 _
  obtain ⟨u, w, rfl, l1, hr⟩ := h.st
  clear h
  refine DD.act 1 rfl rfl rfl rfl rfl (Ef.call rfl (hotK_sp K32)) ((by rintro _ _ _ ⟨_, rfl, rfl, _, rfl, l, _⟩; exact ⟨l1.trans l, rfl, .inl rfl⟩)) ?_
  rintro _ _ _ ⟨_, rfl, rfl, ta, rfl, l2, hi⟩
  rename_i K33
  have hP := Places_sp (X := C.X) roomK (roomP u w) ta r0 3 2 hotL plK 2 K33 ⟨hr.le l2, hi, gl (d.trans (Dim.of_le (l1.trans l2))), by decide⟩ (z0.le (l1.trans l2)) (by decide)
  rw [kn_p2] at hP
  refine DD.act 5 rfl rfl rfl rfl rfl (Ef.call rfl (hP)) ((by rintro _ _ _ ⟨_, rfl, rfl, _, rfl, _, _, rfl, l, _⟩; exact ⟨(l1.trans l2).trans l, rfl, .inl rfl⟩)) ?_
  rintro _ _ _ ⟨_, rfl, rfl, _, rfl, a28, c28, rfl, l3, w28⟩
  rename_i K34
  have l := (l1.trans l2).trans l3
  have d := d.trans (Dim.of_le l)
  have z0 := z0.le l
  have hc0 := l.cell hc0
  have w27 := w27.le l
  refine DD.run' [6, 7, 8, 9, 10] rfl ?_
  refine .fin rfl ?_
  refine W.go 99 rfl ?_
  clear l1 l2 l3 l hP hr hi
  change RowsAt K34 a27 1 encI [[0], [1]] at w27
  change RowsAt K34 a28 1 encI [[0], []] at w28
  refine W.weak (E' := [(24, .v (.slice (some ⟨b24, 0, none⟩) 5 5)), (27, .v (.slice a27 2 c27)), (14, .v (.int .i64 0)), (28, .v (.slice a28 2 c28)), (17, .v (.int .i64 0))]) (B' := []) (by exact ⟨rfl, rfl, rfl, rfl, rfl, trivial⟩) (by exact trivial) ?_
  refine W.go 99 rfl ?_
  refine W.eff rfl rfl rfl (Ef.call rfl (roomK_sp K34)) ?_
  rintro _ _ _ ⟨_, rfl, rfl, h⟩
  rename_i K35 _
  obtain ⟨u, w, rfl, l, hr⟩ := h.st
  have d := d.trans (Dim.of_le l)
  have w27 := w27.le l
  have w28 := w28.le l
  have z0 := z0.le l
  have hc0 := l.cell hc0
  clear h l
  refine W.go 99 rfl ?_
  refine W.eff rfl rfl rfl (Ef.call rfl (hotK_sp K35)) ?_
  rintro _ _ _ ⟨_, rfl, rfl, ta, rfl, l, hi⟩
  rename_i K36
  have hr := hr.le l
  have d := d.trans (Dim.of_le l)
  have w27 := w27.le l
  have w28 := w28.le l
  have z0 := z0.le l
  have hc0 := l.cell hc0
  clear l
  refine W.go 99 rfl ?_
  have hF := Most_sp (X := C.X) roomK (roomP u w) ta 3 hotL K36 ⟨hr, hi, gl d, by decide⟩
  rw [kn_m] at hF
  refine W.eff rfl rfl rfl (Ef.call rfl (hF)) ?_
  rintro _ _ _ ⟨_, rfl, rfl, _, rfl, a29, c29, rfl, l, w29, -⟩
  refine W.go 99 rfl ?_
  rename_i K37
  have d := d.trans (Dim.of_le l)
  have w27 := w27.le l
  have w28 := w28.le l
  have z0 := z0.le l
  have hc0 := l.cell hc0
  clear hF hr hi l
  change SlAt K37 a29 2 encSt plK at w29
  refine W.eff rfl rfl rfl (Ef.call rfl (roomK_sp K37)) ?_
  rintro _ _ _ ⟨_, rfl, rfl, h⟩
  rename_i K38 _
  obtain ⟨u, w, rfl, l, hr⟩ := h.st
  have d := d.trans (Dim.of_le l)
  have w27 := w27.le l
  have w28 := w28.le l
  have z0 := z0.le l
  have w29 := w29.le l
  have hc0 := l.cell hc0
  clear h l
  refine W.go 99 rfl ?_
  refine W.eff rfl rfl rfl (Ef.call rfl (hotK_sp K38)) ?_
  rintro _ _ _ ⟨_, rfl, rfl, ta, rfl, l, hi⟩
  rename_i K39
  have hr := hr.le l
  have d := d.trans (Dim.of_le l)
  have w27 := w27.le l
  have w28 := w28.le l
  have z0 := z0.le l
  have w29 := w29.le l
  have hc0 := l.cell hc0
  clear l
  refine W.go 99 rfl ?_
  have hF := All_sp (X := C.X) roomK (roomP u w) ta 3 hotL K39 ⟨hr, hi, gl d, by decide⟩
  rw [kn_a1] at hF
  refine W.eff rfl rfl rfl (Ef.call rfl (hF)) ?_
  rintro _ _ _ ⟨_, rfl, rfl, _, rfl, a31, c31, rfl, l, w31, -⟩
  refine W.go 99 rfl ?_
  rename_i K40
  have d := d.trans (Dim.of_le l)
  have w27 := w27.le l
  have w28 := w28.le l
  have z0 := z0.le l
  have w29 := w29.le l
  have hc0 := l.cell hc0
  clear hF hr hi l
  change SlAt K40 a31 2 encSt plK at w31
  refine W.eff rfl rfl rfl (Ef.call rfl (roomK_sp K40)) ?_
  rintro _ _ _ ⟨_, rfl, rfl, h⟩
  rename_i K41 _
  obtain ⟨u, w, rfl, l, hr⟩ := h.st
  have d := d.trans (Dim.of_le l)
  have w27 := w27.le l
  have w28 := w28.le l
  have z0 := z0.le l
  have w29 := w29.le l
  have w31 := w31.le l
  have hc0 := l.cell hc0
  clear h l
  refine W.go 99 rfl ?_
  refine W.eff rfl rfl rfl (Ef.call rfl (coldK_sp K41)) ?_
  rintro _ _ _ ⟨_, rfl, rfl, ta, rfl, l, hi⟩
  rename_i K42
  have hr := hr.le l
  have d := d.trans (Dim.of_le l)
  have w27 := w27.le l
  have w28 := w28.le l
  have z0 := z0.le l
  have w29 := w29.le l
  have w31 := w31.le l
  have hc0 := l.cell hc0
  clear l
  refine W.go 99 rfl ?_
  have hF := All_sp (X := C.X) roomK (roomP u w) ta 3 coldL K42 ⟨hr, hi, gl d, by decide⟩
  rw [kn_a2] at hF
  refine W.eff rfl rfl rfl (Ef.call rfl (hF)) ?_
  rintro _ _ _ ⟨_, rfl, rfl, _, rfl, a32, c32, rfl, l, -, -⟩
  refine W.go 99 rfl ?_
  rename_i K43
  have d := d.trans (Dim.of_le l)
  have w27 := w27.le l
  have w28 := w28.le l
  have z0 := z0.le l
  have w29 := w29.le l
  have w31 := w31.le l
  have hc0 := l.cell hc0
  clear hF hr hi l
  refine W.split rfl rfl rfl (fun h => absurd h (by simp)) (fun _ => W.go 99 rfl ?_)
  refine W.split rfl rfl rfl (fun h => absurd h (by simp)) (fun _ => W.go 99 rfl ?_)
  refine W.split rfl rfl rfl (fun h => absurd h (by simp)) (fun _ => W.go 99 rfl ?_)
  refine W.split rfl rfl rfl (fun h => absurd h (by simp)) (fun _ => W.go 99 rfl ?_)
  refine W.split rfl rfl rfl (fun h => absurd h (by simp)) (fun _ => W.go 99 rfl ?_)
  refine W.split rfl rfl rfl (fun h => absurd h (by simp)) (fun _ => ?_)
  refine W.goP [258] 99 rfl ?_
  refine W.go 1 rfl ?_
  refine W.pub 258 (.inr ⟨_, _, _, rfl⟩) rfl rfl ?_
  intro b258 hb _
  change W C _ _ _ _ _ (K43.put b258 (.cells (([0] : List Int).flatMap encI).toArray 3))
  have q : Le K43 (K43.put b258 (.cells (([0] : List Int).flatMap encI).toArray 3)) := Le.put hb _
  have kb258 := sl_block (L := (K43.put b258 (.cells (([0] : List Int).flatMap encI).toArray 3))) (e := 3) encI_len (put_same _ _ _)
  clear hb
  generalize (K43.put b258 (.cells (([0] : List Int).flatMap encI).toArray 3)) = K44 at q kb258 ⊢
  have d := d.trans (Dim.of_le q)
  have w27 := w27.le q
  have w28 := w28.le q
  have z0 := z0.le q
  have w29 := w29.le q
  have w31 := w31.le q
  have hc0 := q.cell hc0
  clear q
  refine W.goP [259] 99 rfl ?_
  refine W.go 1 rfl ?_
  refine W.pub 259 (.inr ⟨_, _, _, rfl⟩) rfl rfl ?_
  intro b259 hb _
  change W C _ _ _ _ _ (K44.put b259 (.cells (([1] : List Int).flatMap encI).toArray 3))
  have q : Le K44 (K44.put b259 (.cells (([1] : List Int).flatMap encI).toArray 3)) := Le.put hb _
  have kb259 := sl_block (L := (K44.put b259 (.cells (([1] : List Int).flatMap encI).toArray 3))) (e := 3) encI_len (put_same _ _ _)
  clear hb
  generalize (K44.put b259 (.cells (([1] : List Int).flatMap encI).toArray 3)) = K45 at q kb259 ⊢
  have d := d.trans (Dim.of_le q)
  have w27 := w27.le q
  have w28 := w28.le q
  have z0 := z0.le q
  have w29 := w29.le q
  have w31 := w31.le q
  have kb258 := kb258.le q
  have hc0 := q.cell hc0
  clear q
  refine W.goP [260] 99 rfl ?_
  refine W.go 1 rfl ?_
  refine W.pub 260 (.inr ⟨_, _, _, rfl⟩) rfl rfl ?_
  intro b260 hb _
  change W C _ _ _ _ _ (K45.put b260 (.cells (([((some ⟨b258, 0, none⟩, 1, 1), [0]), ((some ⟨b259, 0, none⟩, 1, 1), [1])] : List (Rw Int)).flatMap encRw).toArray 28))
  have q : Le K45 (K45.put b260 (.cells (([((some ⟨b258, 0, none⟩, 1, 1), [0]), ((some ⟨b259, 0, none⟩, 1, 1), [1])] : List (Rw Int)).flatMap encRw).toArray 28)) := Le.put hb _
  have kb260 := sl_block (L := (K45.put b260 (.cells (([((some ⟨b258, 0, none⟩, 1, 1), [0]), ((some ⟨b259, 0, none⟩, 1, 1), [1])] : List (Rw Int)).flatMap encRw).toArray 28))) (e := 28) encRw_len (put_same _ _ _)
  clear hb
  generalize (K45.put b260 (.cells (([((some ⟨b258, 0, none⟩, 1, 1), [0]), ((some ⟨b259, 0, none⟩, 1, 1), [1])] : List (Rw Int)).flatMap encRw).toArray 28)) = K46 at q kb260 ⊢
  have d := d.trans (Dim.of_le q)
  have w27 := w27.le q
  have w28 := w28.le q
  have z0 := z0.le q
  have w29 := w29.le q
  have w31 := w31.le q
  have kb258 := kb258.le q
  have kb259 := kb259.le q
  have hc0 := q.cell hc0
  clear q
  have hq : RowsAt K46 (some ⟨b260, 0, none⟩) 1 encI [[0], [1]] := ⟨_, rfl, kb260, fun x hx => by
    simp only [List.mem_cons, List.not_mem_nil, or_false] at hx
    rcases hx with rfl | rfl
    · exact ⟨kb258, rfl⟩
    · exact ⟨kb259, rfl⟩⟩
  refine W.go 99 rfl ?_
  refine W.eff rfl rfl rfl (Ef.call rfl (EqLists_sp a27 (some ⟨b260, 0, none⟩) c27 2 [[0], [1]] [[0], [1]] K46 w27 hq (by decide) (by decide) (by decide) (by decide))) ?_
  rintro _ _ _ ⟨_, rfl, rfl, rfl, rfl⟩
  rw [show decide (([[0], [1]] : List (List Int)) = [[0], [1]]) = true from decide_eq_true rfl]
  refine W.go 99 rfl ?_
  clear hq kb258 kb259 kb260
  refine W.split rfl rfl rfl (fun h => absurd h (by simp)) (fun _ => ?_)
  refine W.goP [266] 99 rfl ?_
  refine W.go 1 rfl ?_
  refine W.pub 266 (.inr ⟨_, _, _, rfl⟩) rfl rfl ?_
  intro b266 hb _
  change W C _ _ _ _ _ (K46.put b266 (.cells (([0] : List Int).flatMap encI).toArray 3))
  have q : Le K46 (K46.put b266 (.cells (([0] : List Int).flatMap encI).toArray 3)) := Le.put hb _
  have kb266 := sl_block (L := (K46.put b266 (.cells (([0] : List Int).flatMap encI).toArray 3))) (e := 3) encI_len (put_same _ _ _)
  clear hb
  generalize (K46.put b266 (.cells (([0] : List Int).flatMap encI).toArray 3)) = K47 at q kb266 ⊢
  have d := d.trans (Dim.of_le q)
  have w27 := w27.le q
  have w28 := w28.le q
  have z0 := z0.le q
  have w29 := w29.le q
  have w31 := w31.le q
  have hc0 := q.cell hc0
  clear q
  refine W.goP [267] 99 rfl ?_
  refine W.go 1 rfl ?_
  refine W.pub 267 (.inr ⟨_, _, _, rfl⟩) rfl rfl ?_
  intro b267 hb _
  change W C _ _ _ _ _ (K47.put b267 (.cells (([((some ⟨b266, 0, none⟩, 1, 1), [0]), ((none, 0, 0), [])] : List (Rw Int)).flatMap encRw).toArray 28))
  have q : Le K47 (K47.put b267 (.cells (([((some ⟨b266, 0, none⟩, 1, 1), [0]), ((none, 0, 0), [])] : List (Rw Int)).flatMap encRw).toArray 28)) := Le.put hb _
  have kb267 := sl_block (L := (K47.put b267 (.cells (([((some ⟨b266, 0, none⟩, 1, 1), [0]), ((none, 0, 0), [])] : List (Rw Int)).flatMap encRw).toArray 28))) (e := 28) encRw_len (put_same _ _ _)
  clear hb
  generalize (K47.put b267 (.cells (([((some ⟨b266, 0, none⟩, 1, 1), [0]), ((none, 0, 0), [])] : List (Rw Int)).flatMap encRw).toArray 28)) = K48 at q kb267 ⊢
  have d := d.trans (Dim.of_le q)
  have w27 := w27.le q
  have w28 := w28.le q
  have z0 := z0.le q
  have w29 := w29.le q
  have w31 := w31.le q
  have kb266 := kb266.le q
  have hc0 := q.cell hc0
  clear q
  have hq : RowsAt K48 (some ⟨b267, 0, none⟩) 1 encI [[0], []] := ⟨_, rfl, kb267, fun x hx => by
    simp only [List.mem_cons, List.not_mem_nil, or_false] at hx
    rcases hx with rfl | rfl
    · exact ⟨kb266, rfl⟩
    · exact ⟨SlAt.empty, rfl⟩⟩
  refine W.go 99 rfl ?_
  refine W.eff rfl rfl rfl (Ef.call rfl (EqLists_sp a28 (some ⟨b267, 0, none⟩) c28 2 [[0], []] [[0], []] K48 w28 hq (by decide) (by decide) (by decide) (by decide))) ?_
  rintro _ _ _ ⟨_, rfl, rfl, rfl, rfl⟩
  rw [show decide (([[0], []] : List (List Int)) = [[0], []]) = true from decide_eq_true rfl]
  refine W.go 99 rfl ?_
  clear hq kb266 kb267
  refine W.split rfl rfl rfl (fun h => absurd h (by simp)) (fun _ => W.go 99 rfl ?_)
  refine W.vf rfl rfl rfl rfl (Vf.idx1 rfl rfl rfl rfl rfl rfl rfl ((show 0 < 5 by decide))) ?_
  refine W.go 99 rfl ?_
  refine W.vf rfl rfl rfl rfl (Vf.load rfl rfl rfl (hc0)) ?_
  refine W.go 99 rfl ?_
  refine W.eff rfl rfl rfl (Ef.call rfl (EqStands_sp a29 r0 c29 2 plK plK K48 w29 z0 (by decide) (by decide))) ?_
  rintro _ _ _ ⟨_, rfl, rfl, rfl, rfl⟩
  rw [show decide (plK = plK) = true from decide_eq_true rfl]
  refine W.go 99 rfl ?_
  refine W.split rfl rfl rfl (fun h => absurd h (by simp)) (fun _ => W.go 99 rfl ?_)
  refine W.vf rfl rfl rfl rfl (Vf.idx1 rfl rfl rfl rfl rfl rfl rfl ((show 0 < 5 by decide))) ?_
  refine W.go 99 rfl ?_
  refine W.vf rfl rfl rfl rfl (Vf.load rfl rfl rfl (hc0)) ?_
  refine W.go 99 rfl ?_
  refine W.eff rfl rfl rfl (Ef.call rfl (EqStands_sp a31 r0 c31 2 plK plK K48 w31 z0 (by decide) (by decide))) ?_
  rintro _ _ _ ⟨_, rfl, rfl, rfl, rfl⟩
  rw [show decide (plK = plK) = true from decide_eq_true rfl]
  refine W.go 99 rfl ?_
  refine W.split rfl rfl rfl (fun h => absurd h (by simp)) (fun _ => W.go 99 rfl ?_)
  clear w27 w28 w29 w31 z0 hc0
  refine W.weak (E' := []) (B' := []) (by exact trivial) (by exact trivial) ?_
  refine W.go 99 rfl ?_
  refine W.eff rfl rfl rfl (Ef.call rfl (roomK_sp K48)) ?_
  rintro _ _ _ ⟨_, rfl, rfl, h⟩
  rename_i K49 _
  obtain ⟨u, w, rfl, l, hr⟩ := h.st
  have d := d.trans (Dim.of_le l)
  clear h l
  refine W.go 99 rfl ?_
  refine W.eff rfl rfl rfl (Ef.call rfl (coldK_sp K49)) ?_
  rintro _ _ _ ⟨_, rfl, rfl, ta, rfl, l, hi⟩
  rename_i K50
  have hr := hr.le l
  have d := d.trans (Dim.of_le l)
  clear l
  refine W.go 99 rfl ?_
  have hF := Lost_sp (X := C.X) roomK (roomP u w) ta 3 coldL K50 ⟨hr, hi, gl d, by decide⟩
  rw [kn_lo, kn_l, if_pos rfl] at hF
  refine W.eff rfl rfl rfl (Ef.call rfl (hF)) ?_
  rintro _ _ _ ⟨_, rfl, rfl, _, rfl, a34, c34, rfl, l, -, -⟩
  refine W.go 99 rfl ?_
  rename_i K51
  have d := d.trans (Dim.of_le l)
  clear hF hr hi l
  refine W.eff rfl rfl rfl (Ef.call rfl (roomK_sp K51)) ?_
  rintro _ _ _ ⟨_, rfl, rfl, h⟩
  rename_i K52 _
  obtain ⟨u, w, rfl, l, hr⟩ := h.st
  have d := d.trans (Dim.of_le l)
  clear h l
  refine W.go 99 rfl ?_
  refine W.eff rfl rfl rfl (Ef.call rfl (hotK_sp K52)) ?_
  rintro _ _ _ ⟨_, rfl, rfl, ta, rfl, l, hi⟩
  rename_i K53
  have hr := hr.le l
  have d := d.trans (Dim.of_le l)
  clear l
  refine W.go 99 rfl ?_
  have hF := Crowd_sp (X := C.X) roomK (roomP u w) ta 3 hotL K53 ⟨hr, hi, gl d, by decide⟩
  rw [kn_cr] at hF
  refine W.eff rfl rfl rfl (Ef.call rfl (hF)) ?_
  rintro _ _ _ ⟨_, rfl, rfl, _, rfl, a35, c35, rfl, l, -, -⟩
  refine W.go 99 rfl ?_
  rename_i K54
  have d := d.trans (Dim.of_le l)
  clear hF hr hi l
  refine W.eff rfl rfl rfl (Ef.call rfl (roomK_sp K54)) ?_
  rintro _ _ _ ⟨_, rfl, rfl, h⟩
  rename_i K55 _
  obtain ⟨u, w, rfl, l, hr⟩ := h.st
  have d := d.trans (Dim.of_le l)
  clear h l
  refine W.go 99 rfl ?_
  refine W.eff rfl rfl rfl (Ef.call rfl (coldK_sp K55)) ?_
  rintro _ _ _ ⟨_, rfl, rfl, ta, rfl, l, hi⟩
  rename_i K56
  have hr := hr.le l
  have d := d.trans (Dim.of_le l)
  clear l
  refine W.go 99 rfl ?_
  have hF := Verdict_sp (X := C.X) roomK (roomP u w) ta 3 coldL 0 K56 ⟨hr, hi, gl d, by decide⟩
  rw [kn_v1] at hF
  refine W.eff rfl rfl rfl (Ef.call rfl (hF)) ?_
  rintro _ _ _ ⟨_, rfl, rfl, rfl, l⟩
  refine W.go 99 rfl ?_
  rename_i K57
  have d := d.trans (Dim.of_le l)
  clear hF hr hi l
  refine W.eff rfl rfl rfl (Ef.call rfl (roomK_sp K57)) ?_
  rintro _ _ _ ⟨_, rfl, rfl, h⟩
  rename_i K58 _
  obtain ⟨u, w, rfl, l, hr⟩ := h.st
  have d := d.trans (Dim.of_le l)
  clear h l
  refine W.go 99 rfl ?_
  refine W.eff rfl rfl rfl (Ef.call rfl (hotK_sp K58)) ?_
  rintro _ _ _ ⟨_, rfl, rfl, ta, rfl, l, hi⟩
  rename_i K59
  have hr := hr.le l
  have d := d.trans (Dim.of_le l)
  clear l
  refine W.go 99 rfl ?_
  have hF := Verdict_sp (X := C.X) roomK (roomP u w) ta 3 hotL 0 K59 ⟨hr, hi, gl d, by decide⟩
  rw [kn_v2] at hF
  refine W.eff rfl rfl rfl (Ef.call rfl (hF)) ?_
  rintro _ _ _ ⟨_, rfl, rfl, rfl, l⟩
  refine W.go 99 rfl ?_
  rename_i K60
  have d := d.trans (Dim.of_le l)
  clear hF hr hi l
  refine W.eff rfl rfl rfl (Ef.call rfl (roomK_sp K60)) ?_
  rintro _ _ _ ⟨_, rfl, rfl, h⟩
  rename_i K61 _
  obtain ⟨u, w, rfl, l, hr⟩ := h.st
  have d := d.trans (Dim.of_le l)
  clear h l
  refine W.go 99 rfl ?_
  refine W.eff rfl rfl rfl (Ef.call rfl (hotK_sp K61)) ?_
  rintro _ _ _ ⟨_, rfl, rfl, ta, rfl, l, hi⟩
  rename_i K62
  have hr := hr.le l
  have d := d.trans (Dim.of_le l)
  clear l
  refine W.go 99 rfl ?_
  have hF := Spare_sp (X := C.X) roomK (roomP u w) ta 3 hotL 2 K62 ⟨hr, hi, gl d, by decide⟩
  rw [kn_s1] at hF
  refine W.eff rfl rfl rfl (Ef.call rfl (hF)) ?_
  rintro _ _ _ ⟨_, rfl, rfl, rfl, l⟩
  refine W.go 99 rfl ?_
  rename_i K63
  have d := d.trans (Dim.of_le l)
  clear hF hr hi l
  refine W.eff rfl rfl rfl (Ef.call rfl (roomK_sp K63)) ?_
  rintro _ _ _ ⟨_, rfl, rfl, h⟩
  rename_i K64 _
  obtain ⟨u, w, rfl, l, hr⟩ := h.st
  have d := d.trans (Dim.of_le l)
  clear h l
  refine W.go 99 rfl ?_
  refine W.eff rfl rfl rfl (Ef.call rfl (coldK_sp K64)) ?_
  rintro _ _ _ ⟨_, rfl, rfl, ta, rfl, l, hi⟩
  rename_i K65
  have hr := hr.le l
  have d := d.trans (Dim.of_le l)
  clear l
  refine W.go 99 rfl ?_
  have hF := Spare_sp (X := C.X) roomK (roomP u w) ta 3 coldL 0 K65 ⟨hr, hi, gl d, by decide⟩
  rw [kn_s2] at hF
  refine W.eff rfl rfl rfl (Ef.call rfl (hF)) ?_
  rintro _ _ _ ⟨_, rfl, rfl, rfl, l⟩
  refine W.go 99 rfl ?_
  rename_i K66
  have d := d.trans (Dim.of_le l)
  clear hF hr hi l
  refine W.eff rfl rfl rfl (Ef.call rfl (roomK_sp K66)) ?_
  rintro _ _ _ ⟨_, rfl, rfl, h⟩
  rename_i K67 _
  obtain ⟨u, w, rfl, l, hr⟩ := h.st
  have d := d.trans (Dim.of_le l)
  clear h l
  refine W.go 99 rfl ?_
  have hF : Sp C.X 60 [stA roomK (roomP u w), .agg (encCo ⟨20, 0, 0, 0⟩).toArray] K67 (fun v L' => ∃ s' p', v = .tuple #[stA s' p', .int .i64 9] ∧ Dim K67 L') := by rw [hX]; exact addK_sp (roomP u w) ⟨20, 0, 0, 0⟩ 9 kn_d1 K67 hr (Nat.le_refl 2) (gl d)
  refine W.eff rfl rfl rfl (Ef.call rfl (hF)) ?_
  rintro _ _ _ ⟨_, rfl, rfl, s5, p5, rfl, hd⟩
  refine W.go 99 rfl ?_
  rename_i K68
  have d := d.trans hd
  clear hF hr hd
  refine W.eff rfl rfl rfl (Ef.call rfl (roomK_sp K68)) ?_
  rintro _ _ _ ⟨_, rfl, rfl, h⟩
  rename_i K69 _
  obtain ⟨u, w, rfl, l, hr⟩ := h.st
  have d := d.trans (Dim.of_le l)
  clear h l
  refine W.go 99 rfl ?_
  have hF : Sp C.X 60 [stA roomK (roomP u w), .agg (encCo ⟨0, 0, 0, 0⟩).toArray] K69 (fun v L' => ∃ s' p', v = .tuple #[stA s' p', .int .i64 1] ∧ Dim K69 L') := by rw [hX]; exact addK_sp (roomP u w) ⟨0, 0, 0, 0⟩ 1 kn_d2 K69 hr (Nat.le_refl 2) (gl d)
  refine W.eff rfl rfl rfl (Ef.call rfl (hF)) ?_
  rintro _ _ _ ⟨_, rfl, rfl, s6, p6, rfl, hd⟩
  refine W.go 99 rfl ?_
  rename_i K70
  have d := d.trans hd
  clear hF hr hd
  refine W.split rfl rfl rfl (fun _ => W.go 99 rfl ?_) (fun h => absurd h (by simp))
  refine W.split rfl rfl rfl (fun _ => W.go 99 rfl ?_) (fun h => absurd h (by simp))
  refine W.split rfl rfl rfl (fun _ => W.go 99 rfl ?_) (fun h => absurd h (by simp))
  refine W.split rfl rfl rfl (fun _ => W.go 99 rfl ?_) (fun h => absurd h (by simp))
  refine W.split rfl rfl rfl (fun _ => W.go 99 rfl ?_) (fun h => absurd h (by simp))
  refine W.split rfl rfl rfl (fun _ => W.go 99 rfl ?_) (fun h => absurd h (by simp))
  refine W.split rfl rfl rfl (fun _ => W.go 99 rfl ?_) (fun h => absurd h (by simp))
  refine W.split rfl rfl rfl (fun _ => W.go 99 rfl ?_) (fun h => absurd h (by simp))
  refine W.split rfl rfl rfl (fun _ => W.go 99 rfl ?_) (fun h => absurd h (by simp))
  refine W.split rfl rfl rfl (fun _ => W.go 99 rfl ?_) (fun h => absurd h (by simp))
  refine W.split rfl rfl rfl (fun _ => W.go 99 rfl ?_) (fun h => absurd h (by simp))
  exact W.retO r rfl ⟨rfl, Dim.trans (Dim.of_le wM) d⟩
end Go.Mz

