/- Lemmas on which the claim leans. -/
import Derived.Test.YtnhckcgdmolgcaaGreatDoorMzAu
import Derived.KernelRfl
set_option maxRecDepth 100000
namespace Go.Mz
open Go.Conc Go.Proofs
variable {X : Logic Tryz.prog}
def StandH (s : St) (a : Stand) : Prop := a = ⟨-1, 0⟩ ∨ (0 ≤ a.shelf ∧ a.shelf < s.shelves.length ∧ 0 ≤ a.day ∧ a.day < s.days)
theorem HatAt.le {L L' : LH} {b : Nat} {ad : Option Addr} {cap : Nat} {l : List Int} {n : Nat} (h : HatAt L b ad cap l n) (hl : Le L L') : HatAt L' b ad cap l n :=
 ⟨let ⟨sd, g⟩ := h.blk; ⟨sd, hl _ _ g⟩, h.ints.le fun b' x hx => by
  rw [but_get (fun e => by subst e; unfold LH.but at hx; rw [if_pos rfl] at hx; cases hx)]
  exact hl _ _ (but_le _ _ _ _ hx)⟩
structure HatGr {α : Type} (L : LH) (b : Nat) (ad : Option Addr) (cap : Nat) (l : List Int) (n k : Nat) (e : TypeId) (enc : α → List Value) (L' : LH) (v : Value) (t : List α) (I : LH) : Prop where
 g : Grow I k e enc L' v t
 h : HatAt I b ad cap l n
 i : ∀ b', b' ≠ b → I b' = L b'
section
variable {α : Type} {L L2 L3 I : LH} {b : Nat} {ad : Option Addr} {cap : Nat} {l : List Int} {n k : Nat} {e : TypeId} {enc : α → List Value} {v : Value} {t : List α}
theorem HatGr.hat (h : HatGr L b ad cap l n k e enc L2 v t I) : HatAt L2 b ad cap l n := h.h.le h.g.1
theorem HatGr.nil (h : HatAt L b ad cap l n) : HatGr L b ad cap l n k e enc L (.slice none 0 0) [] L := ⟨Grow.nil (Le.refl _), h, fun _ _ => rfl⟩
theorem HatGr.step (h : HatGr L b ad cap l n k e enc L2 v t I) (hk : ∀ b', b' ≠ b → L3 b' = L2 b') (hs : ∃ seed : Int, L3 b = some (.cells [Value.slice ad l.length cap, .int .i64 ((n + 1 : Nat) : Int), .int .u64 seed].toArray 98 (0, 0), true)) : ∃ I', HatGr L b ad cap l (n + 1) k e enc L3 v t I' := by
 obtain ⟨sd, g⟩ := hs
 obtain ⟨sd0, g0⟩ := h.h.blk
 have e3 : L3 = L2.put b (.cells [Value.slice ad l.length cap, .int .i64 ((n + 1 : Nat) : Int), .int .u64 sd].toArray 98) := by
  funext b'
  by_cases hb : b' = b
  ·subst hb; rw [put_same]; exact g
  ·rw [put_ne _ _ hb]; exact hk b' hb
 refine ⟨I.put b (.cells [Value.slice ad l.length cap, .int .i64 ((n + 1 : Nat) : Int), .int .u64 sd].toArray 98), ?_, ?_, fun b' hb => (put_ne _ _ hb).trans (h.i b' hb)⟩
 ·rw [e3]; exact h.g.setO (by rw [g0]; simp) _
 ·exact h.h.next (fun b' hb => put_ne _ _ hb) ⟨sd, put_same _ _ _⟩
theorem HatGr.le (h : HatGr L b ad cap l n k e enc L2 v t I) : Le (L.but b) L2 := fun b' x hx => by
 have hb : b' ≠ b := fun e => by subst e; unfold LH.but at hx; rw [if_pos rfl] at hx; cases hx
 rw [but_get hb] at hx
 exact h.g.1 _ _ ((h.i b' hb).trans hx)
theorem Grow.sl_but {c : Array Value} {ty : TypeId} {fz : Nat × Nat} {wr : Bool} {a : Option Addr} {len cp : Nat} (h : Grow I k e enc L (.slice a len cp) t) (hk : ∀ x, (enc x).length = k) (hb : L b = some (.cells c ty fz, wr)) (hne : ty ≠ e) : len = t.length ∧ SlAt (L.but b) a k enc t := by
 obtain ⟨hI, ob, ho, hn⟩ := h
 refine Grow.at (I := fun _ => none) ⟨fun _ _ h => by (cases h), ob, ho.keep fun b' hb' => ?_, fun _ _ => rfl⟩ hk
 subst hb'
 obtain ⟨_, c', _, h2, _⟩ := ho
 exact but_get fun e => by subst e; rw [hb] at h2; cases h2; exact hne rfl
end
theorem heatsGo_snoc {top rise h : Int} : ∀ {t : List Int} {x : Int}, heatsGo top rise x t = 0 → 0 ≤ h → h ≤ top → h ≤ IntKind.i64.wrap (t.getLast?.getD x + rise) → heatsGo top rise x (t ++ [h]) = 0
 | [], x, _, h1, h2, h3 => by
  have : inB h 0 top = true := inB_iff.2 ⟨h1, h2⟩
  simp only [List.nil_append, heatsGo, this]
  simp at h3 ⊢; omega
 | y :: t, x, h0, h1, h2, h3 => by
  unfold heatsGo at h0
  split at h0
  ·cases h0
  ·rename_i c1
   split at h0
   ·cases h0
   ·rename_i c2
    rw [List.cons_append, heatsGo, if_neg c1, if_neg c2]
    refine heatsGo_snoc h0 h1 h2 ?_
    cases t with
    | nil => simpa using h3
    | cons z t =>
     rw [List.getLast?_cons_cons] at h3
     simp only [List.getLast?_cons, Option.getD_some] at h3 ⊢
     exact h3
theorem HeatsOf_sp (s : St) (p : Pt) (b : Nat) (ad : Option Addr) (cap : Nat) (l : List Int) (n : Nat) (L : LH) (h : HatAt L b ad cap l n) (hn : n ≤ 900000) (hl : l.length ≤ 140737488355328) (hok : Ok s) :
  Sp X 39 [pt b, stA s p] L (fun v L' => ∃ t I m, heatsE s t = 0 ∧ m ≤ n + 8 ∧ HatGr L b ad cap l m 1 3 encI L' v t I) := by
 have d1 := hok.d1
 have d4 := hok.d4
 have n0 := hok.n0
 have n5 := hok.n5
 have t0 := hok.t0
 have t5 := hok.t5
 have r0 := hok.r0
 have r3 := hok.r3
 refine Sp.enter (n := 33) Tryz.func39 rfl rfl rfl rfl fun C hX _ hL0 r => ?_
 refine W.go 99 rfl ?_
 refine W.loop (fun w E B L' => ∃ (t : List Int) (x : Int) (v : Value) (I : LH) (m : Nat), w = s.days.toNat - t.length ∧ t.length ≤ s.days.toNat ∧ heatsGo s.top s.rise s.now t = 0 ∧ x = t.getLast?.getD s.now ∧ 0 ≤ x ∧ x ≤ 5 ∧ m ≤ n + 2 * t.length ∧ HatGr L b ad cap l m 1 3 encI L' v t I ∧
   E = [(0, .v (pt b)), (3, .p 0 0), (5, .v v), (6, .v (.int .i64 x)), (7, .v (.int .i64 t.length))] ∧ B = [some ⟨cellsS (.v (stA s p)), 25⟩])
  ⟨[], s.now, _, L, n, rfl, by simp, rfl, rfl, n0, n5, by simp, HatGr.nil h, rfl, rfl⟩ ⟨rfl, rfl, rfl, rfl, rfl, trivial⟩ ⟨rfl, trivial⟩ ?_
 rintro _ _ _ L2 ⟨t, x, v, I, m, rfl, ht, hgo, hx, x0, x5, hm, hg, rfl, rfl⟩ again
 refine W.go 99 rfl ?_
 refine W.split rfl rfl rfl (fun e1 => ?_) (fun e1 => ?_)
 ·have htd : (t.length : Int) < s.days := by simpa using e1
  refine W.go 99 rfl ?_
  rw [wrap64_in (x + s.rise) (by omega) (by omega)]
  have hsd := Seldom_sp (X := C.X) b ad cap l m 1 L2 hg.hat (by omega) hl (by omega)
  refine W.eff rfl rfl rfl (Ef.call rfl (hsd)) ?_
  rintro _ _ _ ⟨_, rfl, rfl, ⟨y, rfl⟩, hk, hs⟩
  obtain ⟨I1, hg1⟩ := hg.step hk hs
  rename_i L3
  generalize hx1 : (if x + s.rise < s.top then x + s.rise else s.top) = x1
  have hx1a : 0 ≤ x1 ∧ x1 ≤ 5 ∧ x1 ≤ s.top ∧ x1 ≤ x + s.rise := by rw [← hx1]; split <;> omega
  refine W.cut2 (fun E B L4 => ∃ (x2 : Int) (I2 : LH) (m2 : Nat), 0 ≤ x2 ∧ x2 ≤ x1 ∧ m2 ≤ m + 2 ∧ HatGr L b ad cap l m2 1 3 encI L4 v t I2 ∧ SubE E [(0, .v (pt b)), (3, .p 0 0), (5, .v v), (6, .v (.int .i64 x2)), (7, .v (.int .i64 t.length))] ∧ PreB B [some ⟨cellsS (.v (stA s p)), 25⟩]) ?_ ?_
  ·rintro E B L4 ⟨x2, I2, m2, h1, h2, h3, hg2, hE, hB⟩
   refine W.weak hE hB ?_
   refine W.go 99 rfl ?_
   obtain ⟨ad', cap', rfl, _⟩ := hg2.g.slice
   refine W.eff rfl rfl rfl (Ef.grow rfl rfl rfl rfl rfl rfl rfl rfl rfl encI_len encI_sg hg2.g (ls := [x2]) (.own rfl rfl rfl rfl) (by simp; omega)) ?_
   rintro _ _ _ ⟨v', rfl, rfl, hg3, _⟩
   refine W.go 99 rfl ?_
   exact W.again (again _ _ _ _ (by simp; omega) ⟨t ++ [x2], x2, v', I2, m2, rfl, by simp; omega, heatsGo_snoc hgo h1 (by omega) (by rw [← hx, wrap64_in _ (by omega) (by omega)]; omega), by simp, h1, by omega, by simp; omega, ⟨hg3, hg2.h, hg2.i⟩, rfl, rfl⟩) (by exact ⟨rfl, rfl, rfl, rfl, congrArg some (by rw [inc64 (by omega), List.length_append]; rfl), trivial⟩) (by exact ⟨rfl, trivial⟩)
  ·intro hJ
   refine W.go 1 rfl ?_
   refine W.split rfl rfl rfl (fun e2 => ?_) (fun e2 => ?_)
   ·refine W.go 99 rfl ?_
    have hto := To_sp (X := C.X) b ad cap l (m + 1) x1.toNat L3 hg1.hat (by omega) hl (by omega)
    rw [show ((x1.toNat : Nat) : Int) = x1 by omega] at hto
    refine W.eff rfl rfl rfl (Ef.call rfl (hto)) ?_
    rintro _ _ _ ⟨_, rfl, rfl, ⟨y2, rfl, hy2⟩, hk2, hs2⟩
    obtain ⟨I2, hg2⟩ := hg1.step hk2 hs2
    refine W.go 2 rfl ?_
    exact hJ _ _ _ ⟨y2, I2, m + 2, by omega, by omega, by omega, hg2, ⟨rfl, rfl, rfl, rfl, rfl, trivial⟩, ⟨rfl, trivial⟩⟩
   ·refine W.go 2 rfl ?_
    refine hJ _ _ _ ?_
    exact ⟨x1, I1, m + 1, hx1a.1, by omega, by omega, hg1, ⟨rfl, rfl, rfl, rfl, rfl, trivial⟩, ⟨rfl, trivial⟩⟩
 ·have htd : ¬ (t.length : Int) < s.days := by simpa using e1
  refine W.go 99 rfl ?_
  refine W.ret r rfl rfl ?_
  refine ⟨t, I, m, ?_, by omega, hg⟩
  unfold heatsE
  rw [if_neg (by rw [Decidable.not_not, sizedE_0]; omega)]; exact hgo
end Go.Mz


set_option maxRecDepth 100000
namespace Go.Mz
open Go.Conc Go.Proofs
variable {X : Logic Tryz.prog}
structure StoveH (s : St) (kc kd : Nat) : Prop where
 ok : Ok s
 c : s.cones.length ≤ kc
 d : s.days ≤ kd
 n : s.now ≤ 2
 t1 : 1 ≤ s.top
 t4 : s.top ≤ 4
 co : ∀ c ∈ s.cones, ConeH c
theorem dec64 {i : Nat} (h : i ≤ 140737488355328) : IntKind.i64.wrap (((i + 1 : Nat) : Int) - 1) = (i : Int) := by
 rw [wrap64_in _ (by omega) (by omega)]; omega
theorem ints3 {L : LH} {b : Nat} {x0 x1 x2 : Int} {t : TypeId} (h : L b = some (.cells #[.int .i64 x0, .int .i64 x1, .int .i64 x2] t (0, 0), true)) : IntsAt L (some ⟨b, 0, none⟩) [x0, x1, x2] := fun i z hz => ⟨_, rfl, fun j v hv => by
 rw [add_of, Nat.zero_add]
 refine cell_of h ?_
 match i, hz, j, hv with
 | 0, hz, 0, hv => cases hz; cases hv; rfl
 | 1, hz, 0, hv => cases hz; cases hv; rfl
 | 2, hz, 0, hv => cases hz; cases hv; rfl⟩
theorem HatGr.more {α : Type} {L L2 L3 I : LH} {b : Nat} {ad : Option Addr} {cap : Nat} {l : List Int} {n k : Nat} {e : TypeId} {enc : α → List Value} {v : Value} {t : List α} (h : HatGr L b ad cap l n k e enc L2 v t I) (hl : Le L2 L3) : HatGr L b ad cap l n k e enc L3 v t I := ⟨h.g.le hl, h.h, h.i⟩
theorem HatAt.off {L : LH} {b b8 : Nat} {ad : Option Addr} {cap : Nat} {l : List Int} {n : Nat} (h : HatAt L b ad cap l n) (hb : L b8 = none) : b8 ≠ b := fun e => by
 subst e
 obtain ⟨sd, g⟩ := h.blk
 rw [g] at hb; cases hb
theorem but_but {L L' : LH} {b : Nat} (h : Le (L.but b) L') : Le (L.but b) (L'.but b) := fun b' x hx => by
 have hb : b' ≠ b := fun e => by subst e; unfold LH.but at hx; rw [if_pos rfl] at hx; cases hx
 rw [but_get hb]; exact h _ _ hx
theorem but_same {L L' : LH} {b : Nat} (h : ∀ b', b' ≠ b → L' b' = L b') : Le (L.but b) L' := fun b' x hx => by
 have hb : b' ≠ b := fun e => by subst e; unfold LH.but at hx; rw [if_pos rfl] at hx; cases hx
 rw [but_get hb] at hx; rw [h b' hb]; exact hx
theorem but_trans {L L1 L2 : LH} {b : Nat} (h : Le (L.but b) L1) (h2 : Le (L1.but b) L2) : Le (L.but b) L2 := (but_but h).trans h2
theorem HatGr.call {α : Type} {L L2 L3 I : LH} {b : Nat} {ad : Option Addr} {cap : Nat} {l : List Int} {n n' k : Nat} {e : TypeId} {enc : α → List Value} {v : Value} {t : List α} (h : HatGr L b ad cap l n k e enc L2 v t I) (hl : Le (L2.but b) L3) (hh : HatAt L3 b ad cap l n') : ∃ I', HatGr L b ad cap l n' k e enc L3 v t I' := by
 obtain ⟨sd0, g0⟩ := h.h.blk
 obtain ⟨sd, g⟩ := hh.blk
 obtain ⟨hI, ob, ho, hn⟩ := h.g
 have hne : ∀ b', b' ≠ b → (I.put b (.cells [Value.slice ad l.length cap, .int .i64 n', .int .u64 sd].toArray 98)) b' = I b' := fun b' hb => put_ne _ _ hb
 refine ⟨I.put b (.cells [Value.slice ad l.length cap, .int .i64 n', .int .u64 sd].toArray 98), ⟨fun b' x hx => ?_, ob, ho.keep fun b' hb' => ?_, fun b' hb' => ?_⟩, ⟨⟨sd, put_same _ _ _⟩, ?_⟩, fun b' hb => (hne b' hb).trans (h.i b' hb)⟩
 ·by_cases hb : b' = b
  ·subst hb; rw [put_same] at hx; rw [← hx]; exact g
  ·rw [hne b' hb] at hx
   exact hl _ _ (by rw [but_get hb]; exact hI _ _ hx)
 ·subst hb'
  have hb : b' ≠ b := fun e => by subst e; have := hn _ rfl; rw [g0] at this; cases this
  obtain ⟨_, c, _, h2, _⟩ := ho
  rw [h2]
  exact hl _ _ (by rw [but_get hb]; exact h2)
 ·have hb : b' ≠ b := fun e => by subst e; have := hn _ hb'; rw [g0] at this; cases this
  rw [hne b' hb]; exact hn b' hb'
 ·refine h.h.ints.le fun b' x hx => ?_
  have hb : b' ≠ b := fun e => by subst e; unfold LH.but at hx; rw [if_pos rfl] at hx; cases hx
  rw [but_get hb] at hx ⊢
  rw [hne b' hb]; exact hx
theorem StoveOfC_sp (b : Nat) (ad : Option Addr) (cap : Nat) (l : List Int) (n kc kd : Nat) (L : LH) (h : HatAt L b ad cap l n) (hn : n ≤ 800000) (hl : l.length ≤ 140737488355328) (hc3 : kc ≤ 3) (hd1 : 1 ≤ kd) (hd4 : kd ≤ 4) :
    Sp X 38 [pt b, .int .i64 kc, .int .i64 kd] L (fun v L' => ∃ s p m, v = stA s p ∧ StoveH s kc kd ∧ m ≤ n + 40 ∧ Le (L.but b) L' ∧ HatAt L' b ad cap l m ∧ StAt (L'.but b) s p ∧ s.cones.length ≤ p.c2) := by
  refine Sp.enter (n := 52) Tryz.func38 rfl rfl rfl rfl fun C hX _ hL0 r => ?_
  refine W.go 99 rfl ?_
  have f1 := From_sp (X := C.X) b ad cap l n 1 (kd - 1) L h (by omega) hl (by omega) (by omega) (by omega)
  rw [show (1 : Int) + ((kd - 1 : Nat) : Int) = (kd : Int) by omega] at f1
  refine W.eff rfl rfl rfl (Ef.call rfl (f1)) ?_
  rintro _ _ _ ⟨_, rfl, rfl, ⟨dy, rfl, a1, a2⟩, hk1, hs1⟩
  refine W.go 99 rfl ?_
  have g1 := h.next hk1 hs1
  rename_i L1
  refine W.eff rfl rfl rfl (Ef.call rfl (To_sp b ad cap l (n + 1) 2 L1 g1 (by omega) hl (by omega))) ?_
  rintro _ _ _ ⟨_, rfl, rfl, ⟨nw, rfl, a3⟩, hk2, hs2⟩
  refine W.go 99 rfl ?_
  have g2 := g1.next hk2 hs2
  rename_i L2
  have f3 := From_sp (X := C.X) b ad cap l (n + 2) 0 3 L2 g2 (by omega) hl (by omega) (by omega) (by omega)
  refine W.eff rfl rfl rfl (Ef.call rfl (f3)) ?_
  rintro _ _ _ ⟨_, rfl, rfl, ⟨rs, rfl, a4, a5⟩, hk3, hs3⟩
  refine W.go 99 rfl ?_
  have g3 := g2.next hk3 hs3
  rename_i L3
  have f4 := From_sp (X := C.X) b ad cap l (n + 3) 1 3 L3 g3 (by omega) hl (by omega) (by omega) (by omega)
  refine W.eff rfl rfl rfl (Ef.call rfl (f4)) ?_
  rintro _ _ _ ⟨_, rfl, rfl, ⟨tp, rfl, a6, a7⟩, hk4, hs4⟩
  refine W.go 99 rfl ?_
  have g4 := g3.next hk4 hs4
  rename_i L4
  have f5 := From_sp (X := C.X) b ad cap l (n + 4) 1 2 L4 g4 (by omega) hl (by omega) (by omega) (by omega)
  refine W.eff rfl rfl rfl (Ef.call rfl (f5)) ?_
  rintro _ _ _ ⟨_, rfl, rfl, ⟨ks, rfl, a8, a9⟩, hk5, hs5⟩
  refine W.go 99 rfl ?_
  have g5 := g4.next hk5 hs5
  rename_i L5
  obtain ⟨k5, rfl⟩ : ∃ k5 : Nat, ks = k5 := ⟨ks.toNat, by omega⟩
  refine W.loop (fun w E B L' => ∃ (t : List Shelf) (v : Value) (I : LH) (m i : Nat), w = i ∧ i + t.length = k5 ∧ m ≤ n + 5 + 2 * t.length ∧ (∀ x ∈ t, 0 ≤ x.lift ∧ x.lift ≤ 3 ∧ 1 ≤ x.room ∧ x.room ≤ 2) ∧ HatGr L5 b ad cap l m 2 59 encSh L' v t I ∧
      E = [(0, .v (pt b)), (1, .v (.int .i64 kc)), (6, .p 0 0), (7, .p 1 0), (8, .v (.int .i64 i))] ∧ B = [some ⟨List.map SV.v ti25.z.cells.toList, 25⟩, some ⟨[.v v, .v (.slice none 0 0), .v (.int .i64 dy), .v (.int .i64 nw), .v (.int .i64 rs), .v (.int .i64 tp)], 25⟩])
    ⟨[], _, _, n + 5, k5, rfl, by simp, by simp, by simp, HatGr.nil g5, rfl, rfl⟩ (by exact ⟨rfl, rfl, rfl, rfl, rfl, trivial⟩) (by exact ⟨rfl, rfl, trivial⟩) ?_
  rintro i _ _ L6 ⟨t, v, I, m, _, rfl, hit, hm, hsh, hg, rfl, rfl⟩ again
  refine W.go 99 rfl ?_
  refine W.split rfl rfl rfl (fun e1 => ?_) (fun e1 => ?_)
  · obtain ⟨i, rfl⟩ : ∃ j, i = j + 1 := ⟨i - 1, by have : (0 : Int) < i := by simpa using e1
                                                   omega⟩
    refine W.go 99 rfl ?_
    refine W.drawn (by kernel_rfl) noL (noL_le _) ?_
    refine DD.run' [0, 1, 2, 4, 5] rfl ?_
    refine DD.act 3 rfl rfl rfl rfl rfl (Ef.call rfl ((To_sp b ad cap l m 3 L6 hg.hat (by omega) hl (by omega)))) ((by rintro _ _ _ ⟨_, rfl, rfl, ⟨y, rfl, _⟩, _⟩; exact ⟨noL_le _, rfl, .inl rfl⟩)) ?_
    rintro _ _ _ ⟨_, rfl, rfl, ⟨y1, rfl, hy1⟩, hk6, hs6⟩
    obtain ⟨I1, hg1⟩ := hg.step hk6 hs6
    rename_i L7
    refine DD.act 6 rfl rfl rfl rfl rfl (Ef.pub 31 (.inr ⟨_, _, _, rfl⟩) rfl rfl (fun b8 hb8 _ => Ef.call rfl (One_sp b ad (some ⟨b8, 0, none⟩) cap 3 l [1, 1, 2] (m + 1) _ (hg1.hat.le (Le.put hb8 _)) (ints3 (put_same _ _ _)) (by omega) hl (by decide) (by decide) (fun a ha => by cases ha; exact hg1.hat.off hb8)))) ((by rintro _ _ _ ⟨b8, hb8, _, _, rfl, rfl, ⟨y, rfl, _⟩, _⟩; exact ⟨noL_le _, rfl, .inl rfl⟩)) ?_
    rintro _ _ _ ⟨b8, hb8, _, _, rfl, rfl, ⟨y2, rfl, hy2⟩, hk8, hs8⟩
    obtain ⟨I2, hg2⟩ := (hg1.more (Le.put hb8 _)).step hk8 hs8
    rename_i L8
    obtain ⟨ad', cap', rfl, _⟩ := hg.g.slice
    refine DD.run' [7, 8] rfl ?_
    refine DD.act 9 rfl rfl rfl rfl rfl (Ef.grow rfl rfl rfl rfl rfl rfl rfl rfl rfl encSh_len encSh_sg hg2.g (ls := [⟨(y1 : Int), y2⟩]) (.own rfl rfl rfl rfl) (by simp; omega)) ((by rintro _ _ _ ⟨_, rfl, rfl, hg, _⟩; exact ⟨noL_le _, rfl, .inl rfl⟩)) ?_
    rintro _ _ _ ⟨v', rfl, rfl, hg3, _⟩
    obtain ⟨ad2, cap2, rfl, _⟩ := hg3.slice
    refine DD.run' [10] rfl ?_
    refine DD.act 11 rfl rfl rfl rfl rfl (Ef.sto rfl) (by rintro _ _ _ ⟨rfl, rfl, rfl⟩; exact ⟨noL_le _, rfl, .inr rfl⟩) ?_
    rintro _ _ _ ⟨rfl, rfl, rfl⟩
    refine .fin rfl ?_
    refine W.go 99 rfl ?_
    rw [dec64 (by omega)]
    refine W.again (again i _ _ _ (by omega) ⟨t ++ [(⟨(y1 : Int), y2⟩ : Shelf)], _, I2, m + 2, i, rfl, by simp; omega, by simp; omega, ?_, ⟨hg3, hg2.h, hg2.i⟩, rfl, rfl⟩) (by exact ⟨rfl, rfl, rfl, rfl, rfl, trivial⟩) (by exact ⟨rfl, rfl, trivial⟩)
    intro x hx
    rcases List.mem_append.1 hx with hx | hx
    · exact hsh x hx
    · simp at hx hy2
      subst hx
      show 0 ≤ (y1 : Int) ∧ (y1 : Int) ≤ 3 ∧ 1 ≤ y2 ∧ y2 ≤ 2
      omega
  · have hi0 : i = 0 := by have : ¬ (0 : Int) < i := by simpa using e1
                           omega
    subst hi0
    refine W.go 99 rfl ?_
    obtain ⟨sa, sc, rfl, hsc⟩ := hg.g.slice
    obtain ⟨sd6, hb6⟩ := hg.hat.blk
    have hshL := (hg.g.sl_but encSh_len hb6 (by decide)).2
    have hk7 := To_sp (X := C.X) b ad cap l m kc L6 hg.hat (by omega) hl (by omega)
    refine W.eff rfl rfl rfl (Ef.call rfl (hk7)) ?_
    rintro _ _ _ ⟨_, rfl, rfl, ⟨kq, rfl, hkq⟩, hk7, hs7⟩
    refine W.go 99 rfl ?_
    have g7 := hg.hat.next hk7 hs7
    rename_i L7
    refine W.loop (fun w E B L' => ∃ (u : List Cone) (v : Value) (I : LH) (m2 i : Nat), w = i ∧ i + u.length = kq ∧ m2 ≤ m + 1 + 4 * u.length ∧ (∀ x ∈ u, ConeH x) ∧ HatGr L7 b ad cap l m2 4 27 encCo L' v u I ∧
        E = [(0, .v (pt b)), (6, .p 0 0), (7, .p 1 0), (9, .v (.int .i64 i))] ∧ B = [some ⟨List.map SV.v ti25.z.cells.toList, 25⟩, some ⟨[.v (.slice sa t.length sc), .v v, .v (.int .i64 dy), .v (.int .i64 nw), .v (.int .i64 rs), .v (.int .i64 tp)], 25⟩])
      ⟨[], _, _, m + 1, kq, rfl, by simp, by simp, by simp, HatGr.nil g7, rfl, rfl⟩ (by exact ⟨rfl, rfl, rfl, rfl, trivial⟩) (by exact ⟨rfl, rfl, trivial⟩) ?_
    rintro i _ _ L8 ⟨u, v, I2, m2, _, rfl, hiu, hm2, hco, hg2, rfl, rfl⟩ again2
    refine W.go 99 rfl ?_
    refine W.split rfl rfl rfl (fun e2 => ?_) (fun e2 => ?_)
    · obtain ⟨i, rfl⟩ : ∃ j, i = j + 1 := ⟨i - 1, by have : (0 : Int) < i := by simpa using e2
                                                     omega⟩
      obtain ⟨ua, uc, rfl, huc⟩ := hg2.g.slice
      refine W.go 99 rfl ?_
      refine W.drawn (by kernel_rfl) noL (noL_le _) ?_
      refine DD.run' [0, 1, 2] rfl ?_
      refine DD.act 3 rfl rfl rfl rfl rfl (Ef.call rfl ((ConeOf_sp b ad cap l m2 L8 hg2.hat (by omega) hl))) ((by rintro _ _ _ ⟨_, rfl, rfl, ⟨y, rfl, _⟩, _⟩; exact ⟨noL_le _, rfl, .inl rfl⟩)) ?_
      rintro _ _ _ ⟨_, rfl, rfl, ⟨c, rfl, hc⟩, hle9, hh9⟩
      obtain ⟨I3, hg3⟩ := hg2.call hle9 hh9
      refine DD.run' [4] rfl ?_
      refine DD.act 5 rfl rfl rfl rfl rfl (Ef.grow rfl rfl rfl rfl rfl rfl rfl rfl rfl encCo_len encCo_sg hg3.g (ls := [c]) (.own rfl rfl rfl rfl) (by simp; omega)) ((by rintro _ _ _ ⟨_, rfl, rfl, hg, _⟩; exact ⟨noL_le _, rfl, .inl rfl⟩)) ?_
      rintro _ _ _ ⟨v', rfl, rfl, hg4, _⟩
      obtain ⟨ad2, cap2, rfl, _⟩ := hg4.slice
      refine DD.run' [6] rfl ?_
      refine DD.act 7 rfl rfl rfl rfl rfl (Ef.sto rfl) (by rintro _ _ _ ⟨rfl, rfl, rfl⟩; exact ⟨noL_le _, rfl, .inr rfl⟩) ?_
      rintro _ _ _ ⟨rfl, rfl, rfl⟩
      refine .fin rfl ?_
      refine W.go 99 rfl ?_
      rw [dec64 (by omega)]
      refine W.again (again2 i _ _ _ (by omega) ⟨u ++ [c], _, I3, m2 + 4, i, rfl, by simp; omega, by simp; omega, ?_, ⟨hg4, hg3.h, hg3.i⟩, rfl, rfl⟩) (by exact ⟨rfl, rfl, rfl, rfl, trivial⟩) (by exact ⟨rfl, rfl, trivial⟩)
      intro x hx
      rcases List.mem_append.1 hx with hx | hx
      · exact hco x hx
      · rw [List.mem_singleton.1 hx]; exact hc
    · have hi0 : i = 0 := by have : ¬ (0 : Int) < i := by simpa using e2
                             omega
      subst hi0
      obtain ⟨ua, uc, rfl, huc⟩ := hg2.g.slice
      obtain ⟨sd8, hb8⟩ := hg2.hat.blk
      have hcoL := (hg2.g.sl_but encCo_len hb8 (by decide)).2
      refine W.go 99 rfl ?_
      refine W.ret r rfl rfl ?_
      have hok : Ok ⟨t, u, dy, nw, rs, tp⟩ := ⟨by show 1 ≤ t.length; omega, by show t.length ≤ 3; omega, hsh, by show u.length ≤ 3; omega, fun c hc => by have := hco c hc; unfold ConeH at this; omega, a1, by show dy ≤ 4; omega, by show 0 ≤ (nw : Int); omega, by show (nw : Int) ≤ 5; omega, by show 0 ≤ tp; omega, by show tp ≤ 5; omega, a4, by show rs ≤ 3; omega⟩
      have hL6 : Le (L.but b) L6 := but_trans (but_trans (but_trans (but_trans (but_trans (but_same hk1) (but_same hk2)) (but_same hk3)) (but_same hk4)) (but_same hk5)) hg.le
      have hL68 : Le (L6.but b) L8 := but_trans (but_same hk7) hg2.le
      exact ⟨⟨t, u, dy, nw, rs, tp⟩, ⟨sa, ua, sc, uc⟩, m2, rfl, ⟨hok, by show u.length ≤ kc; omega, a2, by show (nw : Int) ≤ 2; omega, a6, by show tp ≤ 4; omega, hco⟩, by omega, but_trans hL6 hL68, hg2.hat, ⟨hshL.le (but_but hL68), hcoL, by show t.length ≤ _; omega, by show u.length ≤ _; omega⟩, huc⟩
theorem StoveOf_sp (b : Nat) (ad : Option Addr) (cap : Nat) (l : List Int) (n kc kd : Nat) (L : LH) (h : HatAt L b ad cap l n) (hn : n ≤ 800000) (hl : l.length ≤ 140737488355328) (hc3 : kc ≤ 3) (hd1 : 1 ≤ kd) (hd4 : kd ≤ 4) :
  Sp X 38 [pt b, .int .i64 kc, .int .i64 kd] L (fun v L' => ∃ s p m, v = stA s p ∧ StoveH s kc kd ∧ m ≤ n + 40 ∧ Le (L.but b) L' ∧ HatAt L' b ad cap l m ∧ StAt (L'.but b) s p) :=
 (StoveOfC_sp b ad cap l n kc kd L h hn hl hc3 hd1 hd4).mono (fun _ _ ⟨s, p, m, h1, h2, h3, h4, h5, h6, _⟩ => ⟨s, p, m, h1, h2, h3, h4, h5, h6⟩) (fun _ _ h => h)
end Go.Mz


set_option maxRecDepth 100000
namespace Go.Mz
open Go.Conc Go.Proofs
variable {X : Logic Tryz.prog}
end Go.Mz


set_option maxRecDepth 100000
namespace Go.Mz
open Go.Conc Go.Proofs
variable {X : Logic Tryz.prog}
def vastB (s : St) : Bool := decide (20 < s.shelves.length) || decide (20 < s.cones.length) || (decide (s.cones.length = 3) && decide (s.days = 4))
theorem flat_set_get {α : Type} {enc : α → List Value} {k : Nat} (hk : ∀ x, (enc x).length = k) : ∀ (l : List α) (d : Nat) (x : α) (i : Nat), d < l.length → ((l.set d x).flatMap enc)[i]? = if d * k ≤ i ∧ i < d * k + k then (enc x)[i - d * k]? else (l.flatMap enc)[i]?
 | [], _, _, _, h => absurd h (Nat.not_lt_zero _)
 | y :: l, 0, x, i, _ => by
  simp only [List.set_cons_zero, List.flatMap_cons, Nat.zero_mul, Nat.zero_add, Nat.zero_le, true_and, Nat.sub_zero]
  by_cases h : i < k
  ·rw [if_pos h, List.getElem?_append_left (by rw [hk]; exact h)]
  ·rw [if_neg h, List.getElem?_append_right (by rw [hk]; omega), List.getElem?_append_right (by rw [hk]; omega), hk, hk]
 | y :: l, d + 1, x, i, h => by
  simp only [List.set_cons_succ, List.flatMap_cons]
  have e : (d + 1) * k = d * k + k := Nat.succ_mul d k
  by_cases h2 : i < k
  ·rw [List.getElem?_append_left (by rw [hk]; exact h2), List.getElem?_append_left (by rw [hk]; exact h2), if_neg (by omega)]
  ·rw [List.getElem?_append_right (by rw [hk]; omega), List.getElem?_append_right (by rw [hk]; omega), hk, flat_set_get hk l d x (i - k) (by simpa using h)]
   by_cases h3 : d * k ≤ i - k ∧ i - k < d * k + k
   ·rw [if_pos h3, if_pos (by omega), e, show i - k - d * k = i - (d * k + k) by omega]
   ·rw [if_neg h3, if_neg (by omega)]
end Go.Mz


set_option maxRecDepth 100000
namespace Go.Mz
open Go.Conc Go.Proofs
def roomS : St := ⟨[⟨0, 1⟩, ⟨2, 1⟩], [⟨6, 3, 1, 5⟩, ⟨4, 4, 2, 6⟩], 3, 0, 2, 3⟩
theorem d_fate : FateE roomS [1, 2, 3] 0 ⟨1, 1⟩ = (1, 1, 0) := by kernel_rfl
theorem d_most : MostE roomS [0, 0, 0] = ([⟨-1, 0⟩, ⟨1, 0⟩], 1, 0) := by kernel_rfl
theorem d_soon : SoonE roomS [1, 2, 3] = ([⟨0, 0⟩, ⟨1, 0⟩], 2, 0) := by kernel_rfl
theorem d_crowd : CrowdE roomS [0, 0, 0] = ([0, 1], 0) := by kernel_rfl
theorem d_spare : SpareE roomS [1, 2, 3] 0 = (2, 0) := by kernel_rfl
theorem d_fire : FireE roomS = ([1, 1, 2], 4, 0) := by kernel_rfl
theorem d_days : DaysE roomS = (3, 0) := by kernel_rfl
section
variable {X : Logic Tryz.prog}
theorem roomL_sp (L : LH) : Sp X 75 [] L (fun v L' => ∃ p, v = stA roomS p ∧ Le L L' ∧ StAt L' roomS p) := by
 refine Sp.enter (n := 8) Tryz.func75 rfl rfl rfl rfl fun C hX _ hL0 r => ?_
 refine W.goP [4] 99 rfl ?_
 refine W.pub 3 (.inr ⟨_, _, _, rfl⟩) rfl rfl ?_
 intro b3 hb3 _
 refine W.goP [7] 99 rfl ?_
 refine W.pub 6 (.inr ⟨_, _, _, rfl⟩) rfl rfl ?_
 intro b6 hb6 _
 refine W.go 99 rfl ?_
 refine W.ret r rfl rfl ?_
 have f1 := Le.put hb3 (.cells #[.int .i64 0, .int .i64 1, .int .i64 2, .int .i64 1] 59)
 have f2 := Le.put hb6 (.cells #[.int .i64 6, .int .i64 3, .int .i64 1, .int .i64 5, .int .i64 4, .int .i64 4, .int .i64 2, .int .i64 6] 27)
 have k1 := f2 _ _ (put_same L b3 (.cells #[.int .i64 0, .int .i64 1, .int .i64 2, .int .i64 1] 59))
 have k2 := put_same (L.put b3 (.cells #[.int .i64 0, .int .i64 1, .int .i64 2, .int .i64 1] 59)) b6 (.cells #[.int .i64 6, .int .i64 3, .int .i64 1, .int .i64 5, .int .i64 4, .int .i64 4, .int .i64 2, .int .i64 6] 27)
 refine ⟨⟨some ⟨b3, 0, none⟩, some ⟨b6, 0, none⟩, 2, 2⟩, rfl, f1.trans f2, ⟨fun i x hx => ⟨_, rfl, fun j v hv => ?_⟩, fun i x hx => ⟨_, rfl, fun j v hv => ?_⟩, by decide, by decide⟩⟩
 ·rw [add_of, Nat.zero_add]
  refine cell_of k1 ?_
  match i, hx, j, hv with
  | 0, hx, 0, hv => cases hx; cases hv; rfl
  | 0, hx, 1, hv => cases hx; cases hv; rfl
  | 1, hx, 0, hv => cases hx; cases hv; rfl
  | 1, hx, 1, hv => cases hx; cases hv; rfl
 ·rw [add_of, Nat.zero_add]
  refine cell_of k2 ?_
  match i, hx, j, hv with
  | 0, hx, 0, hv => cases hx; cases hv; rfl
  | 0, hx, 1, hv => cases hx; cases hv; rfl
  | 0, hx, 2, hv => cases hx; cases hv; rfl
  | 0, hx, 3, hv => cases hx; cases hv; rfl
  | 1, hx, 0, hv => cases hx; cases hv; rfl
  | 1, hx, 1, hv => cases hx; cases hv; rfl
  | 1, hx, 2, hv => cases hx; cases hv; rfl
  | 1, hx, 3, hv => cases hx; cases hv; rfl
end
variable {Post : Value → World → Prop} {W0 : World}
theorem ask_new {L L1 : LH} {s : St} {p : Pt} {b : Nat} {x y z : Int} (hs : StAt L s p) (hb : L b = none) (hgl : GlOk L) (hl : L1 = L.put b (.cells #[.int .i64 x, .int .i64 y, .int .i64 z] 3)) : AskAt L1 s p (some ⟨b, 0, none⟩) [x, y, z] := by
 subst hl
 exact ⟨hs.le (Le.put hb _), ints3 (put_same _ _ _), hgl.le (Le.put hb _), by simp⟩
theorem both_at {L : LH} {b : Nat} {k d k2 d2 : Int} (h : L b = some (.cells #[.int .i64 k, .int .i64 d, .int .i64 k2, .int .i64 d2] 30 (0, 0), true)) : SlAt L (some ⟨b, 0, none⟩) 2 encSt [⟨k, d⟩, ⟨k2, d2⟩] := fun i x hx => ⟨_, rfl, fun j v hv => by
 rw [add_of, Nat.zero_add]
 refine cell_of h ?_
 match i, hx, j, hv with
 | 0, hx, 0, hv => cases hx; cases hv; rfl
 | 0, hx, 1, hv => cases hx; cases hv; rfl
 | 1, hx, 0, hv => cases hx; cases hv; rfl
 | 1, hx, 1, hv => cases hx; cases hv; rfl⟩
theorem dried_sp (L : LH) (hgl : GlOk L) : Sp (LFGo Tryz.prog Post W0) 21 [] L (fun v L' => v = .bool true ∧ Dim L L') := by
 refine Sp.enter (n := 138) Tryz.func21 rfl rfl rfl rfl fun C hX _ hL0 r => ?_
 refine W.go 99 rfl ?_
 refine W.eff rfl rfl rfl (Ef.call rfl (roomL_sp L)) ?_
 rintro _ _ _ ⟨_, rfl, rfl, p1, rfl, hl1, hs1⟩
 refine W.go 99 rfl ?_
 rename_i L1
 refine W.eff rfl rfl rfl (Ef.call rfl (hot_sp L1)) ?_
 rintro _ _ _ ⟨_, rfl, rfl, b1, rfl, hb1, rfl⟩
 refine W.go 99 rfl ?_
 refine W.eff rfl rfl rfl (Ef.call rfl (at_sp _ _ _)) ?_
 rintro _ _ _ ⟨_, rfl, rfl, rfl, rfl⟩
 refine W.go 99 rfl ?_
 have hf := Fate_sp (X := C.X) roomS p1 (some ⟨b1, 0, none⟩) 3 [1, 2, 3] 0 ⟨1, 1⟩ _ (ask_new hs1 hb1 (hgl.le hl1) rfl)
 rw [d_fate] at hf
 refine W.eff rfl rfl rfl (Ef.call rfl (hf)) ?_
 rintro _ _ _ ⟨_, rfl, rfl, rfl, hl2⟩
 refine W.go 99 rfl ?_
 rename_i L2
 have hl2 := hl1.trans ((Le.put hb1 _).trans hl2)
 refine W.eff rfl rfl rfl (Ef.call rfl (roomL_sp L2)) ?_
 rintro _ _ _ ⟨_, rfl, rfl, p2, rfl, hl3, hs3⟩
 refine W.go 99 rfl ?_
 rename_i L3
 refine W.eff rfl rfl rfl (Ef.call rfl (cold_sp L3)) ?_
 rintro _ _ _ ⟨_, rfl, rfl, b3, rfl, hb3, rfl⟩
 refine W.go 99 rfl ?_
 have hf := Most_sp (X := C.X) roomS p2 (some ⟨b3, 0, none⟩) 3 [0, 0, 0] _ (ask_new hs3 hb3 (hgl.le (hl2.trans hl3)) rfl)
 rw [d_most] at hf
 refine W.eff rfl rfl rfl (Ef.call rfl (hf)) ?_
 rintro _ _ _ ⟨_, rfl, rfl, u4, rfl, ad4, cap4, rfl, hl4, hp4, _⟩
 refine W.go 99 rfl ?_
 rename_i L4 _
 have hl4 := hl2.trans (hl3.trans ((Le.put hb3 _).trans hl4))
 refine W.eff rfl rfl rfl (Ef.call rfl (roomL_sp L4)) ?_
 rintro _ _ _ ⟨_, rfl, rfl, p5, rfl, hl5, hs5⟩
 refine W.go 99 rfl ?_
 rename_i L5
 refine W.eff rfl rfl rfl (Ef.call rfl (hot_sp L5)) ?_
 rintro _ _ _ ⟨_, rfl, rfl, b5, rfl, hb5, rfl⟩
 refine W.go 99 rfl ?_
 have hf := Soonest_sp (X := C.X) roomS p5 (some ⟨b5, 0, none⟩) 3 [1, 2, 3] _ (ask_new hs5 hb5 (hgl.le (hl4.trans hl5)) rfl)
 rw [d_soon] at hf
 refine W.eff rfl rfl rfl (Ef.call rfl (hf)) ?_
 rintro _ _ _ ⟨_, rfl, rfl, u6, rfl, ad6, cap6, rfl, hl6, hp6, _⟩
 refine W.go 99 rfl ?_
 rename_i L6 _
 have hl46 := hl5.trans ((Le.put hb5 _).trans hl6)
 refine W.eff rfl rfl rfl (Ef.call rfl (roomL_sp L6)) ?_
 rintro _ _ _ ⟨_, rfl, rfl, p7, rfl, hl7, hs7⟩
 refine W.go 99 rfl ?_
 rename_i L7
 refine W.eff rfl rfl rfl (Ef.call rfl (cold_sp L7)) ?_
 rintro _ _ _ ⟨_, rfl, rfl, b7, rfl, hb7, rfl⟩
 refine W.go 99 rfl ?_
 have hf := Crowd_sp (X := C.X) roomS p7 (some ⟨b7, 0, none⟩) 3 [0, 0, 0] _ (ask_new hs7 hb7 (hgl.le (hl4.trans (hl46.trans hl7))) rfl)
 rw [d_crowd] at hf
 refine W.eff rfl rfl rfl (Ef.call rfl (hf)) ?_
 rintro _ _ _ ⟨_, rfl, rfl, u8, rfl, ad8, cap8, rfl, hl8, hp8, _⟩
 refine W.go 99 rfl ?_
 rename_i L8 _
 have hl68 := hl7.trans ((Le.put hb7 _).trans hl8)
 refine W.eff rfl rfl rfl (Ef.call rfl (roomL_sp L8)) ?_
 rintro _ _ _ ⟨_, rfl, rfl, p9, rfl, hl9, hs9⟩
 refine W.go 99 rfl ?_
 rename_i L9
 have hf := Fire_sp (Post := Post) (W0 := W0) roomS p9 L9 hs9 (hgl.le (hl4.trans (hl46.trans (hl68.trans hl9))))
 rw [d_fire, ← hX] at hf
 refine W.eff rfl rfl rfl (Ef.call rfl (hf)) ?_
 rintro _ _ _ ⟨_, rfl, rfl, ad10, cap10, rfl, hp10, hd10⟩
 refine W.go 99 rfl ?_
 rename_i L10
 have hd := (Dim.of_le (hl4.trans (hl46.trans (hl68.trans hl9)))).trans hd10
 have hp4 := (Dim.of_le (hl46.trans (hl68.trans hl9))).trans hd10 |>.sl hp4
 have hp6 := (Dim.of_le (hl68.trans hl9)).trans hd10 |>.sl hp6
 have hp8 := (Dim.of_le hl9).trans hd10 |>.sl hp8
 refine W.eff rfl rfl rfl (Ef.call rfl (roomL_sp L10)) ?_
 rintro _ _ _ ⟨_, rfl, rfl, p11, rfl, hl11, hs11⟩
 refine W.go 99 rfl ?_
 rename_i L11
 have hf := Days_sp (Post := Post) (W0 := W0) roomS p11 L11 hs11 ((hd.trans (Dim.of_le hl11)).cell hgl)
 rw [d_days, ← hX] at hf
 refine W.eff rfl rfl rfl (Ef.call rfl (hf)) ?_
 rintro _ _ _ ⟨_, rfl, rfl, rfl, hd12⟩
 refine W.go 99 rfl ?_
 rename_i L12
 have hd1 := (Dim.of_le hl11).trans hd12
 refine W.eff rfl rfl rfl (Ef.call rfl (roomL_sp L12)) ?_
 rintro _ _ _ ⟨_, rfl, rfl, p13, rfl, hl13, hs13⟩
 refine W.go 99 rfl ?_
 rename_i L13
 refine W.eff rfl rfl rfl (Ef.call rfl (hot_sp L13)) ?_
 rintro _ _ _ ⟨_, rfl, rfl, b13, rfl, hb13, rfl⟩
 refine W.go 99 rfl ?_
 have hf := Spare_sp (X := C.X) roomS p13 (some ⟨b13, 0, none⟩) 3 [1, 2, 3] 0 _ (ask_new hs13 hb13 (((hd.trans hd1).trans (Dim.of_le hl13)).cell hgl) rfl)
 rw [d_spare] at hf
 refine W.eff rfl rfl rfl (Ef.call rfl (hf)) ?_
 rintro _ _ _ ⟨_, rfl, rfl, rfl, hl14⟩
 rename_i L14
 have hd2 := hd1.trans (Dim.of_le (hl13.trans ((Le.put hb13 _).trans hl14)))
 have hp4 := hd2.sl hp4
 have hp6 := hd2.sl hp6
 have hp8 := hd2.sl hp8
 have hp10 := hd2.sl hp10
 have hd := hd.trans hd2
 refine W.go 6 rfl ?_
 refine W.weak (E' := [(1, .v (.int .i64 1)), (2, .v (.int .i64 1)), (3, .v (.int .i64 0)), (4, .v (.slice ad4 2 cap4)), (5, .v (.int .i64 1)), (6, .v (.int .i64 0)), (7, .v (.slice ad6 2 cap6)), (8, .v (.int .i64 2)), (9, .v (.int .i64 0)), (10, .v (.slice ad8 2 cap8)), (11, .v (.int .i64 0)), (12, .v (.slice ad10 3 cap10)), (13, .v (.int .i64 4)), (14, .v (.int .i64 0)), (15, .v (.int .i64 3)), (16, .v (.int .i64 0)), (17, .v (.int .i64 2)), (18, .v (.int .i64 0))]) (B' := []) (by exact ⟨rfl, rfl, rfl, rfl, rfl, rfl, rfl, rfl, rfl, rfl, rfl, rfl, rfl, rfl, rfl, rfl, rfl, rfl, trivial⟩) (by exact trivial) ?_
 refine W.go 99 rfl ?_
 refine W.split rfl rfl rfl (fun c => ?_) (fun c => absurd c (by decide))
 refine W.go 99 rfl ?_
 refine W.split rfl rfl rfl (fun c => ?_) (fun c => absurd c (by decide))
 refine W.go 99 rfl ?_
 refine W.split rfl rfl rfl (fun c => ?_) (fun c => absurd c (by decide))
 refine W.go 99 rfl ?_
 refine W.split rfl rfl rfl (fun c => ?_) (fun c => absurd c (by decide))
 refine W.go 99 rfl ?_
 refine W.split rfl rfl rfl (fun c => ?_) (fun c => absurd c (by decide))
 refine W.go 99 rfl ?_
 refine W.split rfl rfl rfl (fun c => ?_) (fun c => absurd c (by decide))
 refine W.go 99 rfl ?_
 refine W.split rfl rfl rfl (fun c => ?_) (fun c => absurd c (by decide))
 refine W.go 99 rfl ?_
 refine W.split rfl rfl rfl (fun c => ?_) (fun c => absurd c (by decide))
 refine W.go 99 rfl ?_
 refine W.split rfl rfl rfl (fun c => ?_) (fun c => absurd c (by decide))
 refine W.go 99 rfl ?_
 refine W.split rfl rfl rfl (fun c => ?_) (fun c => absurd c (by decide))
 refine W.go 99 rfl ?_
 refine W.split rfl rfl rfl (fun c => ?_) (fun c => absurd c (by decide))
 refine W.go 99 rfl ?_
 refine W.split rfl rfl rfl (fun c => ?_) (fun c => absurd c (by decide))
 refine W.go 99 rfl ?_
 refine W.split rfl rfl rfl (fun c => ?_) (fun c => absurd c (by decide))
 refine W.go 99 rfl ?_
 refine W.split rfl rfl rfl (fun c => ?_) (fun c => absurd c (by decide))
 refine W.go 99 rfl ?_
 refine W.eff rfl rfl rfl (Ef.call rfl (both_sp (-1) 0 1 0 L14)) ?_
 rintro _ _ _ ⟨_, rfl, rfl, b15, rfl, hb15, rfl⟩
 refine W.go 99 rfl ?_
 have he := EqStands_sp (X := C.X) ad4 (some ⟨b15, 0, none⟩) cap4 2 [⟨-1, 0⟩, ⟨1, 0⟩] [⟨-1, 0⟩, ⟨1, 0⟩] _ (hp4.le (Le.put hb15 _)) (both_at (put_same _ _ _)) (by decide) (by decide)
 refine W.eff rfl rfl rfl (Ef.call rfl (he)) ?_
 rintro _ _ _ ⟨_, rfl, rfl, rfl, rfl⟩
 refine W.go 99 rfl ?_
 refine W.split rfl rfl rfl (fun c => ?_) (fun c => absurd c (by decide))
 refine W.go 99 rfl ?_
 refine W.eff rfl rfl rfl (Ef.call rfl (both_sp 0 0 1 0 _)) ?_
 rintro _ _ _ ⟨_, rfl, rfl, b16, rfl, hb16, rfl⟩
 refine W.go 99 rfl ?_
 have hl16 := (Le.put hb15 (.cells #[.int .i64 (-1), .int .i64 0, .int .i64 1, .int .i64 0] 30)).trans (Le.put hb16 (.cells #[.int .i64 0, .int .i64 0, .int .i64 1, .int .i64 0] 30))
 have he := EqStands_sp (X := C.X) ad6 (some ⟨b16, 0, none⟩) cap6 2 [⟨0, 0⟩, ⟨1, 0⟩] [⟨0, 0⟩, ⟨1, 0⟩] _ (hp6.le hl16) (both_at (put_same _ _ _)) (by decide) (by decide)
 refine W.eff rfl rfl rfl (Ef.call rfl (he)) ?_
 rintro _ _ _ ⟨_, rfl, rfl, rfl, rfl⟩
 refine W.go 99 rfl ?_
 refine W.split rfl rfl rfl (fun c => ?_) (fun c => absurd c (by decide))
 refine W.go 99 rfl ?_
 refine W.pub 130 (.inr ⟨_, _, _, rfl⟩) rfl rfl ?_
 intro b17 hb17 _
 have hl17 := hl16.trans (Le.put hb17 (.cells #[.int .i64 0, .int .i64 1] 3))
 have he := EqInts_sp (X := C.X) ad8 (some ⟨b17, 0, none⟩) cap8 2 [0, 1] [0, 1] _ (hp8.le hl17) (ints2 (put_same _ _ _)) (by decide) (by decide)
 refine W.eff rfl rfl rfl (Ef.call rfl (he)) ?_
 rintro _ _ _ ⟨_, rfl, rfl, rfl, rfl⟩
 refine W.go 99 rfl ?_
 refine W.split rfl rfl rfl (fun c => ?_) (fun c => absurd c (by decide))
 refine W.go 99 rfl ?_
 refine W.pub 135 (.inr ⟨_, _, _, rfl⟩) rfl rfl ?_
 intro b18 hb18 _
 have hl18 := hl17.trans (Le.put hb18 (.cells #[.int .i64 1, .int .i64 1, .int .i64 2] 3))
 have he := EqInts_sp (X := C.X) ad10 (some ⟨b18, 0, none⟩) cap10 3 [1, 1, 2] [1, 1, 2] _ (hp10.le hl18) (ints3 (put_same _ _ _)) (by decide) (by decide)
 refine W.eff rfl rfl rfl (Ef.call rfl (he)) ?_
 rintro _ _ _ ⟨_, rfl, rfl, rfl, rfl⟩
 refine W.go 99 rfl ?_
 refine W.ret r rfl rfl ?_
 refine ⟨?_, hd.trans (Dim.of_le hl18)⟩
 rw [decide_eq_true rfl]
 rfl
end Go.Mz


set_option maxRecDepth 100000
namespace Go.Mz
open Go.Conc Go.Proofs
theorem le_but {L L1 : LH} {b : Nat} (hb : L b = none) (hl : Le L L1) : Le L (L1.but b) := fun b' x hx => by
 rw [but_get (fun e => by subst e; rw [hb] at hx; cases hx)]; exact hl _ _ hx
def encSP (x : St × Pt) : List Value := bxS x.1 x.2
abbrev HP := Rf × List Int
def encHP (x : HP) : List Value := [slV x.1]
structure HPOk (L : LH) (x : HP) : Prop where
 i : IntsAt L x.1.1 x.2
 l : x.1.2.1 = x.2.length
 n : x.2.length ≤ 20
structure SPOk (L : LH) (x : St × Pt) : Prop where
 st : StAt L x.1 x.2
 s : x.1.shelves.length ≤ 20
 c : x.1.cones.length ≤ 20
theorem HPOk.le {L L' : LH} {x : HP} (h : HPOk L x) (hl : Le L L') : HPOk L' x := ⟨h.i.le hl, h.l, h.n⟩
theorem SPOk.le {L L' : LH} {x : St × Pt} (h : SPOk L x) (hl : Le L L') : SPOk L' x := ⟨h.st.le hl, h.s, h.c⟩
structure SevAt (L : LH) (ba bb : Nat) (Ss : List (St × Pt)) (Hs : List HP) : Prop where
 ss : SlAt L (some ⟨ba, 0, none⟩) 6 encSP Ss
 hs : SlAt L (some ⟨bb, 0, none⟩) 1 encHP Hs
 so : ∀ x ∈ Ss, SPOk L x
 ho : ∀ x ∈ Hs, HPOk L x
theorem SevAt.le {L L' : LH} {ba bb : Nat} {Ss : List (St × Pt)} {Hs : List HP} (h : SevAt L ba bb Ss Hs) (hl : Le L L') : SevAt L' ba bb Ss Hs := ⟨h.ss.le hl, h.hs.le hl, fun x hx => (h.so x hx).le hl, fun x hx => (h.ho x hx).le hl⟩
section
variable {X : Logic Tryz.prog}
end
end Go.Mz

