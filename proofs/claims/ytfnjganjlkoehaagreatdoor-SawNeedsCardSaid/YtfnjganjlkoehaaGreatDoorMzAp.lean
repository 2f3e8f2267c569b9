/- Lemmas on which the claim leans. -/
import Derived.Test.YtfnjganjlkoehaaGreatDoorMzAo
set_option maxRecDepth 100000
namespace Go.Mz
open Go.Conc Go.Proofs
variable {X : Logic Tryz.prog}
theorem same_end {α : Type} [DecidableEq α] {a b : List α} {i : Nat} (h : a.take i = b.take i) (hi : i = a.length ∨ i = b.length) (h1 : i ≤ a.length) (h2 : i ≤ b.length) : ((a.length : Int) == (b.length : Int)) = decide (a = b) := by
 rw [Bool.eq_iff_iff, beq_iff_eq, decide_eq_true_eq]
 constructor
 ·intro e
  rw [List.take_of_length_le (by omega), List.take_of_length_le (by omega)] at h
  exact h
 ·rintro rfl; rfl
theorem take_next {α : Type} {a b : List α} {i : Nat} (h : a.take i = b.take i) (h1 : i < a.length) (h2 : i < b.length) (he : a[i] = b[i]) : a.take (i + 1) = b.take (i + 1) := by
 rw [List.take_succ_eq_append_getElem h1, List.take_succ_eq_append_getElem h2, h, he]
theorem EqInts_sp (pa pb : Option Addr) (ca cb : Nat) (a b : List Int) (L : LH) (ha : IntsAt L pa a) (hb : IntsAt L pb b) (na : a.length ≤ 1000000) (nb : b.length ≤ 1000000) :
  Sp X 35 [.slice pa a.length ca, .slice pb b.length cb] L (fun v L' => v = .bool (decide (a = b)) ∧ L = L') := by
 refine Sp.enter (n := 32) Tryz.func35 rfl rfl rfl rfl fun C hX _ hL0 r => ?_
 refine W.go 99 rfl ?_
 refine W.loop (fun m E B L' => ∃ (i : Nat), m = a.length - i ∧ i ≤ a.length ∧ i ≤ b.length ∧ a.take i = b.take i ∧ L = L' ∧
   E = [(0, .v (.slice pa a.length ca)), (1, .v (.slice pb b.length cb)), (5, .v (.int .i64 i))] ∧ B = [])
  ⟨0, rfl, by omega, by omega, rfl, rfl, rfl, rfl⟩ (by exact ⟨rfl, rfl, rfl, trivial⟩) trivial ?_
 rintro _ _ _ _ ⟨i, rfl, h1, h2, ht, rfl, rfl, rfl⟩ again
 refine W.go 99 rfl ?_
 refine W.split rfl rfl rfl (fun e1 => W.go 99 rfl ?_) (fun e1 => W.go 99 rfl ?_)
 ·have hia : i < a.length := by simpa using e1
  refine W.split rfl rfl rfl (fun e2 => W.go 99 rfl ?_) (fun e2 => W.go 99 rfl ?_)
  ·have hib : i < b.length := by simpa using e2
   obtain ⟨aa, rfl⟩ := ha.addr hia
   obtain ⟨ab, rfl⟩ := hb.addr hib
   refine W.drawn (by kernel_rfl) _ (Le.refl _) ?_
   refine DD.run' [0, 1, 4, 5] rfl ?_
   refine DD.vf 2 rfl rfl rfl rfl rfl (Vf.idx1 rfl rfl rfl rfl rfl rfl rfl (hia)) ?_
   refine DD.vf 3 rfl rfl rfl rfl rfl (Vf.load rfl rfl rfl (ha.int (List.getElem?_eq_getElem hia))) ?_
   refine DD.vf 6 rfl rfl rfl rfl rfl (Vf.idx1 rfl rfl rfl rfl rfl rfl rfl (hib)) ?_
   refine DD.vf 7 rfl rfl rfl rfl rfl (Vf.load rfl rfl rfl (hb.int (List.getElem?_eq_getElem hib))) ?_
   refine DD.run' [8] rfl ?_
   refine .fin rfl ?_
   refine W.go 99 rfl ?_
   refine W.split rfl rfl rfl (fun e3 => W.go 99 rfl ?_) (fun e3 => W.go 99 rfl ?_)
   ·refine W.ret r rfl rfl ?_
    have hne : a ≠ b := fun e => by subst e; simp at e3
    rw [decide_eq_false hne]
    exact ⟨rfl, rfl⟩
   ·exact W.again (again _ _ _ _ (by omega) ⟨i + 1, rfl, by omega, by omega, take_next ht hia hib (by simpa using e3), rfl, rfl, rfl⟩) ⟨rfl, rfl, congrArg some (inc64 (by omega)), trivial⟩ trivial
  ·refine W.ret r rfl rfl ?_
   have hib : i = b.length := by simp at e2; omega
   rw [← same_end ht (.inr hib) h1 h2]
   exact ⟨rfl, rfl⟩
 ·refine W.ret r rfl rfl ?_
  have hia : i = a.length := by simp at e1; omega
  rw [← same_end ht (.inl hia) h1 h2]
  exact ⟨rfl, rfl⟩
structure HatAt (L : LH) (b : Nat) (ad : Option Addr) (cap : Nat) (l : List Int) (n : Nat) : Prop where
 blk : ∃ seed : Int, L b = some (.cells [Value.slice ad l.length cap, .int .i64 n, .int .u64 seed].toArray 79 (0, 0), true)
 ints : IntsAt (L.but b) ad l
theorem HatAt.next {L L' : LH} {b : Nat} {ad : Option Addr} {cap : Nat} {l : List Int} {n : Nat} (h : HatAt L b ad cap l n) (hk : ∀ b', b' ≠ b → L' b' = L b') (hs : ∃ seed : Int, L' b = some (.cells [Value.slice ad l.length cap, .int .i64 ((n + 1 : Nat) : Int), .int .u64 seed].toArray 79 (0, 0), true)) : HatAt L' b ad cap l (n + 1) := by
 refine ⟨hs, ?_⟩
 have e : L'.but b = L.but b := by
  funext b'
  unfold LH.but
  split
  ·rfl
  ·rename_i hb; exact hk b' hb
 rw [e]; exact h.ints
theorem HatAt.le {L L' : LH} {b : Nat} {ad : Option Addr} {cap : Nat} {l : List Int} {n : Nat} (h : HatAt L b ad cap l n) (hl : Le L L') : HatAt L' b ad cap l n :=
 ⟨let ⟨sd, g⟩ := h.blk; ⟨sd, hl _ _ g⟩, h.ints.le fun b' x hx => by
  rw [but_get (fun e => by subst e; unfold LH.but at hx; rw [if_pos rfl] at hx; cases hx)]
  exact hl _ _ (but_le _ _ _ _ hx)⟩
theorem u64_nn (y : Int) : 0 ≤ IntKind.u64.wrap y := by
 unfold IntKind.wrap
 exact Int.emod_nonneg _ (by decide)
theorem u64_in (y : Int) (h1 : 0 ≤ y) (h2 : y < 18446744073709551616) : IntKind.u64.wrap y = y := by
 unfold IntKind.wrap
 exact Int.emod_eq_of_lt h1 h2
theorem nat2 {n : Nat} (h : n ≤ 1000000) : IntKind.i64.wrap ((n : Int) + 1) = ((n + 1 : Nat) : Int) := by rw [wrap64_in _ (by omega) (by omega)]; rfl
theorem stir_sp (b : Nat) (ad : Option Addr) (cap : Nat) (l : List Int) (n : Nat) (L : LH) (h : HatAt L b ad cap l n) (hn : n ≤ 1000000) (hl : l.length ≤ 140737488355328) :
  Sp X 70 [pt b] L (fun v L' => (∃ x : Int, v = .int .u64 x ∧ 0 ≤ x) ∧ (∀ b', b' ≠ b → L' b' = L b') ∧ ∃ seed : Int, L' b = some (.cells [Value.slice ad l.length cap, .int .i64 ((n + 1 : Nat) : Int), .int .u64 seed].toArray 79 (0, 0), true)) := by
 obtain ⟨⟨seed, hb⟩, hi⟩ := h
 have hi := hi.le (but_le _ _)
 refine Sp.enter (n := 75) Tryz.func70 rfl rfl rfl rfl fun C hX _ hL0 r => ?_
 refine W.go 99 rfl ?_
 refine W.vf rfl rfl rfl rfl (Vf.load rfl rfl rfl (cell_of hb rfl)) ?_
 refine W.go 99 rfl ?_
 refine W.drawn (by kernel_rfl) _ (Le.refl _) ?_
 refine DD.run' [0, 1, 2, 4, 5, 6] rfl ?_
 refine DD.vf 3 rfl rfl rfl rfl rfl (Vf.load rfl rfl rfl (cell_of hb rfl)) ?_
 refine DD.vf 7 rfl rfl rfl rfl rfl (Vf.load rfl rfl rfl (cell_of hb rfl)) ?_
 refine DD.run' [8, 9] rfl ?_
 refine .fin rfl ?_
 refine W.cut1 (fun E B L' => L = L' ∧ ∃ y : Int, SubE E [(0, .v (pt b)), (3, .v (.int .u64 y))]) ?_ ?_
 ·rintro E B _ ⟨rfl, y, hE⟩
  refine W.weak (B' := []) hE (by cases B <;> exact trivial) ?_
  refine W.go 99 rfl ?_
  refine W.vf rfl rfl rfl rfl (Vf.load rfl rfl rfl (cell_of hb rfl)) ?_
  refine W.go 99 rfl ?_
  rw [nat2 hn]
  refine W.eff0 rfl rfl (Ef.stoL rfl ⟨_, rfl, rfl⟩ rfl hb rfl rfl rfl rfl rfl) ?_
  rintro _ _ _ ⟨rfl, rfl, rfl⟩
  refine W.go 99 rfl ?_
  refine W.vf rfl rfl rfl rfl (Vf.load rfl rfl rfl (cell_of (put_same _ _ _) rfl)) ?_
  refine W.go 99 rfl ?_
  refine W.eff0 rfl rfl (Ef.stoL rfl ⟨_, rfl, rfl⟩ rfl (put_same _ _ _) rfl rfl rfl rfl rfl) ?_
  rintro _ _ _ ⟨rfl, rfl, rfl⟩
  refine W.go 99 rfl ?_
  generalize hL1 : LH.put (LH.put L b _) b _ = L1
  have hk1 : ∀ b', b' ≠ b → L1 b' = L b' := fun b' hb' => by rw [← hL1, put_ne _ _ hb', put_ne _ _ hb']
  obtain ⟨sd1, hb1⟩ : ∃ sd1 : Int, L1 b = some (.cells [Value.slice ad l.length cap, .int .i64 ((n + 1 : Nat) : Int), .int .u64 sd1].toArray 79 (0, 0), true) := ⟨_, by rw [← hL1]; exact put_same _ _ _⟩
  clear hL1
  refine W.drawn (by kernel_rfl) noL (noL_le _) ?_
  refine DD.run' [0, 1, 2, 3, 5, 6, 7] rfl ?_
  refine DD.act2 4 8 rfl rfl rfl rfl rfl rfl rfl rfl (Ef.val rfl (Vf.load rfl rfl rfl (by exact cell_of hb1 rfl))) (Ef.val rfl (Vf.load rfl rfl rfl (by exact cell_of hb1 rfl))) (by rintro _ _ _ ⟨rfl, rfl, rfl⟩; exact ⟨noL_le _, rfl, .inl rfl⟩) (by rintro _ _ _ ⟨rfl, rfl, rfl⟩; exact ⟨noL_le _, rfl, .inl rfl⟩) ?_ ?_
  ·rintro _ _ _ ⟨rfl, rfl, hq⟩
   obtain rfl := hq.symm
   refine DD.act 8 rfl rfl rfl rfl rfl (Ef.val rfl (Vf.load rfl rfl rfl (cell_of hb1 rfl))) (by rintro _ _ _ ⟨rfl, rfl, rfl⟩; exact ⟨noL_le _, rfl, .inl rfl⟩) ?_
   rintro _ _ _ ⟨rfl, rfl, rfl⟩
   refine DD.run' [9, 10, 11, 12] rfl ?_
   refine DD.act 13 rfl rfl rfl rfl rfl (Ef.stoL rfl ⟨_, rfl, rfl⟩ rfl hb1 rfl rfl rfl rfl rfl) ((by rintro _ _ _ ⟨rfl, rfl, rfl⟩; exact ⟨noL_le _, rfl, .inl rfl⟩)) ?_
   rintro _ _ _ ⟨rfl, rfl, rfl⟩
   refine .fin rfl ?_
   refine W.go 99 rfl ?_
   refine W.vf rfl rfl rfl rfl (Vf.load rfl rfl rfl (cell_of (put_same _ _ _) rfl)) ?_
   refine W.go 99 rfl ?_
   refine W.ret r rfl rfl ?_
   exact ⟨⟨_, rfl, Int.fdiv_nonneg (u64_nn _) (by decide)⟩, fun b' hb' => by rw [put_ne _ _ hb']; exact hk1 b' hb', _, put_same _ _ _⟩
  ·rintro _ _ _ ⟨rfl, rfl, hq⟩
   obtain rfl := hq.symm
   refine DD.run' [9] rfl ?_
   refine DD.act 4 rfl rfl rfl rfl rfl (Ef.val rfl (Vf.load rfl rfl rfl (cell_of hb1 rfl))) (by rintro _ _ _ ⟨rfl, rfl, rfl⟩; exact ⟨noL_le _, rfl, .inl rfl⟩) ?_
   rintro _ _ _ ⟨rfl, rfl, rfl⟩
   refine DD.run' [10, 11, 12] rfl ?_
   refine DD.act 13 rfl rfl rfl rfl rfl (Ef.stoL rfl ⟨_, rfl, rfl⟩ rfl hb1 rfl rfl rfl rfl rfl) ((by rintro _ _ _ ⟨rfl, rfl, rfl⟩; exact ⟨noL_le _, rfl, .inl rfl⟩)) ?_
   rintro _ _ _ ⟨rfl, rfl, rfl⟩
   refine .fin rfl ?_
   refine W.go 99 rfl ?_
   refine W.vf rfl rfl rfl rfl (Vf.load rfl rfl rfl (cell_of (put_same _ _ _) rfl)) ?_
   refine W.go 99 rfl ?_
   refine W.ret r rfl rfl ?_
   exact ⟨⟨_, rfl, Int.fdiv_nonneg (u64_nn _) (by decide)⟩, fun b' hb' => by rw [put_ne _ _ hb']; exact hk1 b' hb', _, put_same _ _ _⟩
 ·intro rest
  refine W.split rfl rfl rfl (fun e1 => ?_) (fun e1 => ?_)
  ·have hnl : n < l.length := by simpa using e1
   obtain ⟨la, rfl⟩ := hi.addr hnl
   refine W.go 99 rfl ?_
   refine W.drawn (by kernel_rfl) _ (Le.refl _) ?_
   refine DD.run' [0, 1, 2, 3, 5, 6, 7] rfl ?_
   refine DD.vf 4 rfl rfl rfl rfl rfl (Vf.load rfl rfl rfl (cell_of hb rfl)) ?_
   refine DD.vf 8 rfl rfl rfl rfl rfl (Vf.load rfl rfl rfl (cell_of hb rfl)) ?_
   refine DD.vf 9 rfl rfl rfl rfl rfl (Vf.idx1 rfl rfl rfl rfl rfl rfl rfl (hnl)) ?_
   refine DD.vf 10 rfl rfl rfl rfl rfl (Vf.load rfl rfl rfl (hi.int (List.getElem?_eq_getElem hnl))) ?_
   refine DD.run' [11, 12, 13, 14] rfl ?_
   refine .fin rfl ?_
   exact rest _ _ _ ⟨rfl, _, rfl, rfl, trivial⟩
  ·refine W.go 2 rfl ?_
   exact rest _ _ _ ⟨rfl, _, rfl, rfl, trivial⟩
theorem To_sp (b : Nat) (ad : Option Addr) (cap : Nat) (l : List Int) (n m : Nat) (L : LH) (h : HatAt L b ad cap l n) (hn : n ≤ 1000000) (hl : l.length ≤ 140737488355328) (hm : m ≤ 1000000) :
  Sp X 24 [pt b, .int .i64 m] L (fun v L' => (∃ y : Nat, v = .int .i64 y ∧ y ≤ m) ∧ (∀ b', b' ≠ b → L' b' = L b') ∧ ∃ seed : Int, L' b = some (.cells [Value.slice ad l.length cap, .int .i64 ((n + 1 : Nat) : Int), .int .u64 seed].toArray 79 (0, 0), true)) := by
 refine Sp.enter (n := 16) Tryz.func24 rfl rfl rfl rfl fun C hX _ hL0 r => ?_
 refine W.go 99 rfl ?_
 refine W.eff rfl rfl rfl (Ef.call rfl (stir_sp b ad cap l n L h hn hl)) ?_
 rintro _ _ _ ⟨_, rfl, rfl, ⟨x, rfl, hx⟩, hk, hs⟩
 refine W.go 99 rfl ?_
 refine W.split rfl rfl rfl (fun e1 => W.go 99 rfl ?_) (fun e1 => W.go 99 rfl ?_)
 ·refine W.ret r rfl rfl ?_
  exact ⟨⟨0, rfl, by omega⟩, hk, hs⟩
 ·have hm1 : 1 ≤ m := by simp at e1; omega
  rw [u64_in (m : Int) (by omega) (by omega), u64_in ((m : Int) + 1) (by omega) (by omega)]
  have hr1 : 0 ≤ x.tmod ((m : Int) + 1) := Int.tmod_nonneg _ hx
  have hr2 : x.tmod ((m : Int) + 1) < (m : Int) + 1 := Int.tmod_lt_of_pos _ (by omega)
  have hrem : intRes .rem .u64 x ((m : Int) + 1) = some (.int .u64 (x.tmod ((m : Int) + 1))) := by
   have h0 : ¬ ((m : Int) + 1 = 0) := by omega
   simp [intRes, h0]
  refine W.vf rfl rfl rfl rfl (Vf.bin (v := .int .u64 (x.tmod ((m : Int) + 1))) rfl rfl hrem) ?_
  refine W.go 99 rfl ?_
  refine W.ret r rfl rfl ?_
  refine ⟨⟨(x.tmod ((m : Int) + 1)).toNat, ?_, by omega⟩, hk, hs⟩
  rw [show (((x.tmod ((m : Int) + 1)).toNat : Nat) : Int) = x.tmod ((m : Int) + 1) by omega]
  show Value.int .i64 (IntKind.i64.wrap (x.tmod ((m : Int) + 1))) = _
  rw [wrap64_in _ (by omega) (by omega)]
theorem From_sp (b : Nat) (ad : Option Addr) (cap : Nat) (l : List Int) (n : Nat) (lo : Int) (m : Nat) (L : LH) (h : HatAt L b ad cap l n) (hn : n ≤ 1000000) (hl : l.length ≤ 140737488355328) (hm : m ≤ 1000000) (h1 : -1000000 ≤ lo) (h2 : lo ≤ 1000000) :
  Sp X 47 [pt b, .int .i64 lo, .int .i64 (lo + m)] L (fun v L' => (∃ y : Int, v = .int .i64 y ∧ lo ≤ y ∧ y ≤ lo + m) ∧ (∀ b', b' ≠ b → L' b' = L b') ∧ ∃ seed : Int, L' b = some (.cells [Value.slice ad l.length cap, .int .i64 ((n + 1 : Nat) : Int), .int .u64 seed].toArray 79 (0, 0), true)) := by
 refine Sp.enter (n := 14) Tryz.func47 rfl rfl rfl rfl fun C hX _ hL0 r => ?_
 refine W.go 99 rfl ?_
 rw [wrap64_in _ (by omega) (by omega), show lo + (m : Int) - lo = (m : Int) by omega]
 refine W.eff rfl rfl rfl (Ef.call rfl (To_sp b ad cap l n m L h hn hl hm)) ?_
 rintro _ _ _ ⟨_, rfl, rfl, ⟨y, rfl, hy⟩, hk, hs⟩
 refine W.go 99 rfl ?_
 rw [wrap64_in _ (by omega) (by omega)]
 refine W.ret r rfl rfl ?_
 exact ⟨⟨_, rfl, by omega, by omega⟩, hk, hs⟩
theorem Seldom_sp (b : Nat) (ad : Option Addr) (cap : Nat) (l : List Int) (n m : Nat) (L : LH) (h : HatAt L b ad cap l n) (hn : n ≤ 1000000) (hl : l.length ≤ 140737488355328) (hm : m ≤ 1000000) :
  Sp X 85 [pt b, .int .i64 ((m : Int) + 1)] L (fun v L' => (∃ y : Bool, v = .bool y) ∧ (∀ b', b' ≠ b → L' b' = L b') ∧ ∃ seed : Int, L' b = some (.cells [Value.slice ad l.length cap, .int .i64 ((n + 1 : Nat) : Int), .int .u64 seed].toArray 79 (0, 0), true)) := by
 refine Sp.enter (n := 10) Tryz.func85 rfl rfl rfl rfl fun C hX _ hL0 r => ?_
 refine W.go 99 rfl ?_
 rw [wrap64_in _ (by omega) (by omega), show (m : Int) + 1 - 1 = (m : Int) by omega]
 refine W.eff rfl rfl rfl (Ef.call rfl (To_sp b ad cap l n m L h hn hl hm)) ?_
 rintro _ _ _ ⟨_, rfl, rfl, ⟨y, rfl, hy⟩, hk, hs⟩
 refine W.go 99 rfl ?_
 refine W.ret r rfl rfl ?_
 exact ⟨⟨_, rfl⟩, hk, hs⟩
theorem NewHat_sp (ad : Option Addr) (cap : Nat) (l : List Int) (L : LH) (h : IntsAt L ad l) : Sp X 22 [.slice ad l.length cap] L (fun v L' => ∃ b, v = pt b ∧ L b = none ∧ Le L L' ∧ HatAt L' b ad cap l 0) := by
 refine Sp.enter (n := 6) Tryz.func22 rfl rfl rfl rfl fun C hX _ hL0 r => ?_
 refine W.goP [2] 99 rfl ?_
 refine W.go 99 rfl ?_
 refine W.pub 2 (.inl ⟨_, rfl⟩) rfl rfl ?_
 intro b hb _
 refine W.ret r rfl rfl ?_
 exact ⟨b, rfl, hb, Le.put hb _, ⟨_, put_same _ _ _⟩, h.le fun b' x hx => by rw [but_get (fun e => by subst e; rw [hb] at hx; cases hx)]; exact Le.put hb _ _ _ hx⟩
theorem One_sp (b : Nat) (ad xa : Option Addr) (cap xc : Nat) (l xs : List Int) (n : Nat) (L : LH) (h : HatAt L b ad cap l n) (hx : IntsAt L xa xs) (hn : n ≤ 1000000) (hl : l.length ≤ 140737488355328) (hm : xs.length ≤ 1000000) (h1 : 1 ≤ xs.length) (hxb : ∀ a, xa = some a → a.block ≠ b) :
  Sp X 86 [pt b, .slice xa xs.length xc] L (fun v L' => (∃ y : Int, v = .int .i64 y ∧ y ∈ xs) ∧ (∀ b', b' ≠ b → L' b' = L b') ∧ ∃ seed : Int, L' b = some (.cells [Value.slice ad l.length cap, .int .i64 ((n + 1 : Nat) : Int), .int .u64 seed].toArray 79 (0, 0), true)) := by
 obtain ⟨m, hmx⟩ : ∃ m, xs.length = m + 1 := ⟨xs.length - 1, by omega⟩
 obtain ⟨xd, rfl⟩ := hx.addr (i := 0) (by omega)
 have hxb := hxb xd rfl
 refine Sp.enter (n := 13) Tryz.func86 rfl rfl rfl rfl fun C hX _ hL0 r => ?_
 refine W.go 99 rfl ?_
 rw [wrap64_in _ (by omega) (by omega), show (xs.length : Int) - 1 = (m : Int) by omega]
 refine W.eff rfl rfl rfl (Ef.call rfl (To_sp b ad cap l n m L h hn hl (by omega))) ?_
 rintro _ _ _ ⟨_, rfl, rfl, ⟨y, rfl, hy⟩, hk, hs⟩
 refine W.go 99 rfl ?_
 have hyl : y < xs.length := by omega
 rename_i L2
 have hc : L2.cell? (xd.add y) = some (.int .i64 xs[y]) := by
  have := hx.int (List.getElem?_eq_getElem hyl)
  have hb2 : (xd.add y).block = xd.block := by unfold Addr.add; split <;> rfl
  unfold LH.cell? at this ⊢
  rw [hk _ (by rw [hb2]; exact hxb)]; exact this
 refine W.vf rfl rfl rfl rfl (Vf.idx1 rfl rfl rfl rfl rfl rfl rfl (hyl)) ?_
 refine W.vf rfl rfl rfl rfl (Vf.load rfl rfl rfl (hc)) ?_
 refine W.go 99 rfl ?_
 refine W.ret r rfl rfl ?_
 exact ⟨⟨_, rfl, List.getElem_mem hyl⟩, hk, hs⟩
theorem DupInts_sp (ad : Option Addr) (c : Nat) (l : List Int) (L : LH) (h : IntsAt L ad l) (hn : l.length ≤ 1000000) : Sp X 32 [.slice ad l.length c] L (fun v L' => Grow L 1 3 encI L' v l) := by
 refine Sp.enter (n := 6) Tryz.func32 rfl rfl rfl rfl fun C hX _ hL0 r => ?_
 refine W.go 99 rfl ?_
 refine W.pub 3 (.inr ⟨_, _, _, rfl⟩) rfl rfl ?_
 intro b hb _
 refine W.eff rfl rfl rfl (Ef.grow rfl rfl rfl rfl rfl rfl rfl rfl rfl encI_len encI_sg (Grow.new (Le.put hb _) (put_same _ _ _) hb) (ls := l) (.sl (h.le (Le.put hb _)) encI_len rfl) (by simp; omega)) ?_
 rintro _ _ _ ⟨v', rfl, rfl, hg', _⟩
 refine W.go 99 rfl ?_
 refine W.ret r rfl rfl ?_
 exact hg'
theorem EqLists_sp (pa pb : Option Addr) (ca cb : Nat) (a b : List (List Int)) (L : LH) (ha : RowsAt L pa 1 encI a) (hb : RowsAt L pb 1 encI b) (na : a.length ≤ 1000000) (nb : b.length ≤ 1000000) (la : ∀ x ∈ a, x.length ≤ 1000000) (lb : ∀ x ∈ b, x.length ≤ 1000000) :
  Sp X 84 [.slice pa a.length ca, .slice pb b.length cb] L (fun v L' => v = .bool (decide (a = b)) ∧ L = L') := by
 refine Sp.enter (n := 33) Tryz.func84 rfl rfl rfl rfl fun C hX _ hL0 r => ?_
 refine W.go 99 rfl ?_
 refine W.loop (fun w E B L' => ∃ (i : Nat), w = a.length - i ∧ i ≤ a.length ∧ i ≤ b.length ∧ a.take i = b.take i ∧ L = L' ∧
   E = [(0, .v (.slice pa a.length ca)), (1, .v (.slice pb b.length cb)), (5, .v (.int .i64 i))] ∧ B = [])
  ⟨0, rfl, by omega, by omega, rfl, rfl, rfl, rfl⟩ (by exact ⟨rfl, rfl, rfl, trivial⟩) trivial ?_
 rintro _ _ _ _ ⟨i, rfl, hi, hib, hpre, rfl, rfl, rfl⟩ again
 refine W.go 99 rfl ?_
 refine W.split rfl rfl rfl (fun e1 => W.go 99 rfl ?_) (fun e1 => W.go 99 rfl ?_)
 ·have hia : i < a.length := by simpa using e1
  refine W.split rfl rfl rfl (fun e2 => W.go 99 rfl ?_) (fun e2 => W.go 99 rfl ?_)
  ·have hibl : i < b.length := by simpa using e2
   obtain ⟨x, hx⟩ : ∃ x, a[i]? = some x := ⟨_, List.getElem?_eq_getElem hia⟩
   obtain ⟨y, hy⟩ : ∃ y, b[i]? = some y := ⟨_, List.getElem?_eq_getElem hibl⟩
   obtain ⟨pa', rfl⟩ := ha.addr hia
   obtain ⟨pb', rfl⟩ := hb.addr hibl
   obtain ⟨xa, xc, hxc, hxs, hcx⟩ := ha.row hx
   obtain ⟨ya, yc, hyc, hys, hcy⟩ := hb.row hy
   refine W.drawn (by kernel_rfl) _ (Le.refl _) ?_
   refine DD.run' [0, 1, 4, 5] rfl ?_
   refine DD.vf 2 rfl rfl rfl rfl rfl (Vf.idx1 rfl rfl rfl rfl rfl rfl rfl (hia)) ?_
   refine DD.vf 3 rfl rfl rfl rfl rfl (Vf.load rfl rfl rfl (hxc)) ?_
   refine DD.vf 6 rfl rfl rfl rfl rfl (Vf.idx1 rfl rfl rfl rfl rfl rfl rfl (hibl)) ?_
   refine DD.vf 7 rfl rfl rfl rfl rfl (Vf.load rfl rfl rfl (hyc)) ?_
   refine DD.act 8 rfl rfl rfl rfl rfl (Ef.call rfl (EqInts_sp xa ya xc yc x y L hxs hys (la x (List.mem_of_getElem? hx)) (lb y (List.mem_of_getElem? hy)))) (by rintro _ _ _ ⟨_, rfl, rfl, rfl, rfl⟩; exact ⟨Le.refl _, rfl, .inl rfl⟩) ?_
   rintro _ _ _ ⟨_, rfl, rfl, rfl, rfl⟩
   refine DD.run' [9] rfl ?_
   refine .fin rfl ?_
   refine W.go 99 rfl ?_
   refine W.split rfl rfl rfl (fun e3 => W.go 99 rfl ?_) (fun e3 => W.go 99 rfl ?_)
   ·have hne : x ≠ y := by simpa using e3
    exact W.ret r rfl rfl ⟨by rw [decide_eq_false (fun h => hne (by rw [h, hy] at hx; exact (Option.some.inj hx).symm))]; rfl, rfl⟩
   ·have heq : x = y := by simpa using e3
    subst heq
    refine W.again (again _ _ _ _ (by omega) ⟨i + 1, rfl, by omega, by omega, ?_, rfl, rfl, rfl⟩) ⟨rfl, rfl, congrArg some (inc64 (by omega)), trivial⟩ trivial
    obtain ⟨_, h1⟩ := List.getElem?_eq_some_iff.1 hx
    obtain ⟨_, h2⟩ := List.getElem?_eq_some_iff.1 hy
    rw [List.take_succ_eq_append_getElem hia, List.take_succ_eq_append_getElem hibl, hpre, h1, h2]
  ·have hibl : i = b.length := by simp at e2; omega
   refine W.ret r rfl rfl ?_
   refine ⟨?_, rfl⟩
   rw [decide_eq_false (fun h => by rw [h] at hia; omega)]
   simp [retV]
   omega
 ·have hia : i = a.length := by simp at e1; omega
  refine W.ret r rfl rfl ?_
  refine ⟨?_, rfl⟩
  by_cases hl : a.length = b.length
  ·have h : a = b := by rw [hia, List.take_length, hl, List.take_length] at hpre; exact hpre
   rw [decide_eq_true h]
   simp [retV, hl]
  ·rw [decide_eq_false (fun h => hl (by rw [h]))]
   simp [retV]
   omega
end Go.Mz

