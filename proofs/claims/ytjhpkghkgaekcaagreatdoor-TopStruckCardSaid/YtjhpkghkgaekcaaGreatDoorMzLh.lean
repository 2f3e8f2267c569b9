/- Lemmas on which the claim leans. -/
import Derived.Test.YtjhpkghkgaekcaaGreatDoorMzLg
set_option maxRecDepth 100000
namespace Go.Mz
open Go.Conc Go.Proofs
variable {X : Logic Tryz.prog}
theorem same_end {α : Type} [DecidableEq α] {a b : List α} {i : Nat} (h : a.take i = b.take i) (hi : i = a.length ∨ i = b.length) (h1 : i ≤ a.length) (h2 : i ≤ b.length) : ((a.length : Int) == (b.length : Int)) = decide (a = b) := by
 rw [Bool.eq_iff_iff, beq_iff_eq, decide_eq_true_eq]
 constructor
 ·intro e
  rw [List.take_of_length_le (by omega), List.take_of_length_le (by omega)] at h
  exact h
 ·rintro rfl; rfl
theorem take_next {α : Type} {a b : List α} {i : Nat} (h : a.take i = b.take i) (h1 : i < a.length) (h2 : i < b.length) (he : a[i] = b[i]) : a.take (i + 1) = b.take (i + 1) := by
 rw [List.take_succ_eq_append_getElem h1, List.take_succ_eq_append_getElem h2, h, he]
theorem EqInts_sp (pa pb : Option Addr) (ca cb : Nat) (a b : List Int) (L : LH) (ha : IntsAt L pa a) (hb : IntsAt L pb b) (na : a.length ≤ 1000000) (nb : b.length ≤ 1000000) :
  Sp X 62 [.slice pa a.length ca, .slice pb b.length cb] L (fun v L' => v = .bool (decide (a = b)) ∧ L = L') := by
 refine Sp.enter (n := 32) Tryz.func62 rfl rfl rfl rfl fun C hX _ hL0 r => ?_
 refine W.go 99 rfl ?_
 refine W.loop (fun m E B L' => ∃ (i : Nat), m = a.length - i ∧ i ≤ a.length ∧ i ≤ b.length ∧ a.take i = b.take i ∧ L = L' ∧
   E = [(0, .v (.slice pa a.length ca)), (1, .v (.slice pb b.length cb)), (5, .v (.int .i64 i))] ∧ B = [])
  ⟨0, rfl, by omega, by omega, rfl, rfl, rfl, rfl⟩ (by exact ⟨rfl, rfl, rfl, trivial⟩) trivial ?_
 rintro _ _ _ _ ⟨i, rfl, h1, h2, ht, rfl, rfl, rfl⟩ again
 refine W.go 99 rfl ?_
 refine W.split rfl rfl rfl (fun e1 => W.go 99 rfl ?_) (fun e1 => W.go 99 rfl ?_)
 ·have hia : i < a.length := by simpa using e1
  refine W.split rfl rfl rfl (fun e2 => W.go 99 rfl ?_) (fun e2 => W.go 99 rfl ?_)
  ·have hib : i < b.length := by simpa using e2
   obtain ⟨aa, rfl⟩ := ha.addr hia
   obtain ⟨ab, rfl⟩ := hb.addr hib
   refine W.drawn (by kernel_rfl) _ (Le.refl _) ?_
   refine DD.run' [0, 1, 4, 5] rfl ?_
   refine DD.vf 2 rfl rfl rfl rfl rfl (Vf.idx1 rfl rfl rfl rfl rfl rfl rfl (hia)) ?_
   refine DD.vf 3 rfl rfl rfl rfl rfl (Vf.load rfl rfl rfl (ha.int (List.getElem?_eq_getElem hia))) ?_
   refine DD.vf 6 rfl rfl rfl rfl rfl (Vf.idx1 rfl rfl rfl rfl rfl rfl rfl (hib)) ?_
   refine DD.vf 7 rfl rfl rfl rfl rfl (Vf.load rfl rfl rfl (hb.int (List.getElem?_eq_getElem hib))) ?_
   refine DD.run' [8] rfl ?_
   refine .fin rfl ?_
   refine W.go 99 rfl ?_
   refine W.split rfl rfl rfl (fun e3 => W.go 99 rfl ?_) (fun e3 => W.go 99 rfl ?_)
   ·refine W.ret r rfl rfl ?_
    have hne : a ≠ b := fun e => by subst e; simp at e3
    rw [decide_eq_false hne]
    exact ⟨rfl, rfl⟩
   ·exact W.again (again _ _ _ _ (by omega) ⟨i + 1, rfl, by omega, by omega, take_next ht hia hib (by simpa using e3), rfl, rfl, rfl⟩) ⟨rfl, rfl, congrArg some (inc64 (by omega)), trivial⟩ trivial
  ·refine W.ret r rfl rfl ?_
   have hib : i = b.length := by simp at e2; omega
   rw [← same_end ht (.inr hib) h1 h2]
   exact ⟨rfl, rfl⟩
 ·refine W.ret r rfl rfl ?_
  have hia : i = a.length := by simp at e1; omega
  rw [← same_end ht (.inl hia) h1 h2]
  exact ⟨rfl, rfl⟩
structure HatAt (L : LH) (b : Nat) (ad : Option Addr) (cap : Nat) (l : List Int) (n : Nat) : Prop where
 blk : ∃ seed : Int, L b = some (.cells [Value.slice ad l.length cap, .int .i64 n, .int .u64 seed].toArray 96 (0, 0), true)
 ints : IntsAt (L.but b) ad l
theorem u64_nn (y : Int) : 0 ≤ IntKind.u64.wrap y := by
 unfold IntKind.wrap
 exact Int.emod_nonneg _ (by decide)
theorem u64_in (y : Int) (h1 : 0 ≤ y) (h2 : y < 18446744073709551616) : IntKind.u64.wrap y = y := by
 unfold IntKind.wrap
 exact Int.emod_eq_of_lt h1 h2
theorem nat2 {n : Nat} (h : n ≤ 1000000) : IntKind.i64.wrap ((n : Int) + 1) = ((n + 1 : Nat) : Int) := by rw [wrap64_in _ (by omega) (by omega)]; rfl
theorem stir_sp (b : Nat) (ad : Option Addr) (cap : Nat) (l : List Int) (n : Nat) (L : LH) (h : HatAt L b ad cap l n) (hn : n ≤ 1000000) (hl : l.length ≤ 140737488355328) :
  Sp X 51 [pt b] L (fun v L' => (∃ x : Int, v = .int .u64 x ∧ 0 ≤ x) ∧ (∀ b', b' ≠ b → L' b' = L b') ∧ ∃ seed : Int, L' b = some (.cells [Value.slice ad l.length cap, .int .i64 ((n + 1 : Nat) : Int), .int .u64 seed].toArray 96 (0, 0), true)) := by
 obtain ⟨⟨seed, hb⟩, hi⟩ := h
 have hi := hi.le (but_le _ _)
 refine Sp.enter (n := 75) Tryz.func51 rfl rfl rfl rfl fun C hX _ hL0 r => ?_
 refine W.go 99 rfl ?_
 refine W.vf rfl rfl rfl rfl (Vf.load rfl rfl rfl (cell_of hb rfl)) ?_
 refine W.go 99 rfl ?_
 refine W.drawn (by kernel_rfl) _ (Le.refl _) ?_
 refine DD.run' [0, 1, 2, 4, 5, 6] rfl ?_
 refine DD.vf 3 rfl rfl rfl rfl rfl (Vf.load rfl rfl rfl (cell_of hb rfl)) ?_
 refine DD.vf 7 rfl rfl rfl rfl rfl (Vf.load rfl rfl rfl (cell_of hb rfl)) ?_
 refine DD.run' [8, 9] rfl ?_
 refine .fin rfl ?_
 refine W.cut1 (fun E B L' => L = L' ∧ ∃ y : Int, SubE E [(0, .v (pt b)), (3, .v (.int .u64 y))]) ?_ ?_
 ·rintro E B _ ⟨rfl, y, hE⟩
  refine W.weak (B' := []) hE (by cases B <;> exact trivial) ?_
  refine W.go 99 rfl ?_
  refine W.vf rfl rfl rfl rfl (Vf.load rfl rfl rfl (cell_of hb rfl)) ?_
  refine W.go 99 rfl ?_
  rw [nat2 hn]
  refine W.eff0 rfl rfl (Ef.stoL rfl ⟨_, rfl, rfl⟩ rfl hb rfl rfl rfl rfl rfl) ?_
  rintro _ _ _ ⟨rfl, rfl, rfl⟩
  refine W.go 99 rfl ?_
  refine W.vf rfl rfl rfl rfl (Vf.load rfl rfl rfl (cell_of (put_same _ _ _) rfl)) ?_
  refine W.go 99 rfl ?_
  refine W.eff0 rfl rfl (Ef.stoL rfl ⟨_, rfl, rfl⟩ rfl (put_same _ _ _) rfl rfl rfl rfl rfl) ?_
  rintro _ _ _ ⟨rfl, rfl, rfl⟩
  refine W.go 99 rfl ?_
  generalize hL1 : LH.put (LH.put L b _) b _ = L1
  have hk1 : ∀ b', b' ≠ b → L1 b' = L b' := fun b' hb' => by rw [← hL1, put_ne _ _ hb', put_ne _ _ hb']
  obtain ⟨sd1, hb1⟩ : ∃ sd1 : Int, L1 b = some (.cells [Value.slice ad l.length cap, .int .i64 ((n + 1 : Nat) : Int), .int .u64 sd1].toArray 96 (0, 0), true) := ⟨_, by rw [← hL1]; exact put_same _ _ _⟩
  clear hL1
  refine W.drawn (by kernel_rfl) noL (noL_le _) ?_
  refine DD.run' [0, 1, 2, 3, 5, 6, 7] rfl ?_
  refine DD.act2 4 8 rfl rfl rfl rfl rfl rfl rfl rfl (Ef.val rfl (Vf.load rfl rfl rfl (by exact cell_of hb1 rfl))) (Ef.val rfl (Vf.load rfl rfl rfl (by exact cell_of hb1 rfl))) (by rintro _ _ _ ⟨rfl, rfl, rfl⟩; exact ⟨noL_le _, rfl, .inl rfl⟩) (by rintro _ _ _ ⟨rfl, rfl, rfl⟩; exact ⟨noL_le _, rfl, .inl rfl⟩) ?_ ?_
  ·rintro _ _ _ ⟨rfl, rfl, hq⟩
   obtain rfl := hq.symm
   refine DD.act 8 rfl rfl rfl rfl rfl (Ef.val rfl (Vf.load rfl rfl rfl (cell_of hb1 rfl))) (by rintro _ _ _ ⟨rfl, rfl, rfl⟩; exact ⟨noL_le _, rfl, .inl rfl⟩) ?_
   rintro _ _ _ ⟨rfl, rfl, rfl⟩
   refine DD.run' [9, 10, 11, 12] rfl ?_
   refine DD.act 13 rfl rfl rfl rfl rfl (Ef.stoL rfl ⟨_, rfl, rfl⟩ rfl hb1 rfl rfl rfl rfl rfl) ((by rintro _ _ _ ⟨rfl, rfl, rfl⟩; exact ⟨noL_le _, rfl, .inl rfl⟩)) ?_
   rintro _ _ _ ⟨rfl, rfl, rfl⟩
   refine .fin rfl ?_
   refine W.go 99 rfl ?_
   refine W.vf rfl rfl rfl rfl (Vf.load rfl rfl rfl (cell_of (put_same _ _ _) rfl)) ?_
   refine W.go 99 rfl ?_
   refine W.ret r rfl rfl ?_
   exact ⟨⟨_, rfl, Int.fdiv_nonneg (u64_nn _) (by decide)⟩, fun b' hb' => by rw [put_ne _ _ hb']; exact hk1 b' hb', _, put_same _ _ _⟩
  ·rintro _ _ _ ⟨rfl, rfl, hq⟩
   obtain rfl := hq.symm
   refine DD.run' [9] rfl ?_
   refine DD.act 4 rfl rfl rfl rfl rfl (Ef.val rfl (Vf.load rfl rfl rfl (cell_of hb1 rfl))) (by rintro _ _ _ ⟨rfl, rfl, rfl⟩; exact ⟨noL_le _, rfl, .inl rfl⟩) ?_
   rintro _ _ _ ⟨rfl, rfl, rfl⟩
   refine DD.run' [10, 11, 12] rfl ?_
   refine DD.act 13 rfl rfl rfl rfl rfl (Ef.stoL rfl ⟨_, rfl, rfl⟩ rfl hb1 rfl rfl rfl rfl rfl) ((by rintro _ _ _ ⟨rfl, rfl, rfl⟩; exact ⟨noL_le _, rfl, .inl rfl⟩)) ?_
   rintro _ _ _ ⟨rfl, rfl, rfl⟩
   refine .fin rfl ?_
   refine W.go 99 rfl ?_
   refine W.vf rfl rfl rfl rfl (Vf.load rfl rfl rfl (cell_of (put_same _ _ _) rfl)) ?_
   refine W.go 99 rfl ?_
   refine W.ret r rfl rfl ?_
   exact ⟨⟨_, rfl, Int.fdiv_nonneg (u64_nn _) (by decide)⟩, fun b' hb' => by rw [put_ne _ _ hb']; exact hk1 b' hb', _, put_same _ _ _⟩
 ·intro rest
  refine W.split rfl rfl rfl (fun e1 => ?_) (fun e1 => ?_)
  ·have hnl : n < l.length := by simpa using e1
   obtain ⟨la, rfl⟩ := hi.addr hnl
   refine W.go 99 rfl ?_
   refine W.drawn (by kernel_rfl) _ (Le.refl _) ?_
   refine DD.run' [0, 1, 2, 3, 5, 6, 7] rfl ?_
   refine DD.vf 4 rfl rfl rfl rfl rfl (Vf.load rfl rfl rfl (cell_of hb rfl)) ?_
   refine DD.vf 8 rfl rfl rfl rfl rfl (Vf.load rfl rfl rfl (cell_of hb rfl)) ?_
   refine DD.vf 9 rfl rfl rfl rfl rfl (Vf.idx1 rfl rfl rfl rfl rfl rfl rfl (hnl)) ?_
   refine DD.vf 10 rfl rfl rfl rfl rfl (Vf.load rfl rfl rfl (hi.int (List.getElem?_eq_getElem hnl))) ?_
   refine DD.run' [11, 12, 13, 14] rfl ?_
   refine .fin rfl ?_
   exact rest _ _ _ ⟨rfl, _, rfl, rfl, trivial⟩
  ·refine W.go 2 rfl ?_
   exact rest _ _ _ ⟨rfl, _, rfl, rfl, trivial⟩
theorem To_sp (b : Nat) (ad : Option Addr) (cap : Nat) (l : List Int) (n m : Nat) (L : LH) (h : HatAt L b ad cap l n) (hn : n ≤ 1000000) (hl : l.length ≤ 140737488355328) (hm : m ≤ 1000000) :
  Sp X 9 [pt b, .int .i64 m] L (fun v L' => (∃ y : Nat, v = .int .i64 y ∧ y ≤ m) ∧ (∀ b', b' ≠ b → L' b' = L b') ∧ ∃ seed : Int, L' b = some (.cells [Value.slice ad l.length cap, .int .i64 ((n + 1 : Nat) : Int), .int .u64 seed].toArray 96 (0, 0), true)) := by
 refine Sp.enter (n := 16) Tryz.func9 rfl rfl rfl rfl fun C hX _ hL0 r => ?_
 refine W.go 99 rfl ?_
 refine W.eff rfl rfl rfl (Ef.call rfl (stir_sp b ad cap l n L h hn hl)) ?_
 rintro _ _ _ ⟨_, rfl, rfl, ⟨x, rfl, hx⟩, hk, hs⟩
 refine W.go 99 rfl ?_
 refine W.split rfl rfl rfl (fun e1 => W.go 99 rfl ?_) (fun e1 => W.go 99 rfl ?_)
 ·refine W.ret r rfl rfl ?_
  exact ⟨⟨0, rfl, by omega⟩, hk, hs⟩
 ·have hm1 : 1 ≤ m := by simp at e1; omega
  rw [u64_in (m : Int) (by omega) (by omega), u64_in ((m : Int) + 1) (by omega) (by omega)]
  have hr1 : 0 ≤ x.tmod ((m : Int) + 1) := Int.tmod_nonneg _ hx
  have hr2 : x.tmod ((m : Int) + 1) < (m : Int) + 1 := Int.tmod_lt_of_pos _ (by omega)
  have hrem : intRes .rem .u64 x ((m : Int) + 1) = some (.int .u64 (x.tmod ((m : Int) + 1))) := by
   have h0 : ¬ ((m : Int) + 1 = 0) := by omega
   simp [intRes, h0]
  refine W.vf rfl rfl rfl rfl (Vf.bin (v := .int .u64 (x.tmod ((m : Int) + 1))) rfl rfl hrem) ?_
  refine W.go 99 rfl ?_
  refine W.ret r rfl rfl ?_
  refine ⟨⟨(x.tmod ((m : Int) + 1)).toNat, ?_, by omega⟩, hk, hs⟩
  rw [show (((x.tmod ((m : Int) + 1)).toNat : Nat) : Int) = x.tmod ((m : Int) + 1) by omega]
  show Value.int .i64 (IntKind.i64.wrap (x.tmod ((m : Int) + 1))) = _
  rw [wrap64_in _ (by omega) (by omega)]
theorem From_sp (b : Nat) (ad : Option Addr) (cap : Nat) (l : List Int) (n : Nat) (lo : Int) (m : Nat) (L : LH) (h : HatAt L b ad cap l n) (hn : n ≤ 1000000) (hl : l.length ≤ 140737488355328) (hm : m ≤ 1000000) (h1 : -1000000 ≤ lo) (h2 : lo ≤ 1000000) :
  Sp X 64 [pt b, .int .i64 lo, .int .i64 (lo + m)] L (fun v L' => (∃ y : Int, v = .int .i64 y ∧ lo ≤ y ∧ y ≤ lo + m) ∧ (∀ b', b' ≠ b → L' b' = L b') ∧ ∃ seed : Int, L' b = some (.cells [Value.slice ad l.length cap, .int .i64 ((n + 1 : Nat) : Int), .int .u64 seed].toArray 96 (0, 0), true)) := by
 refine Sp.enter (n := 14) Tryz.func64 rfl rfl rfl rfl fun C hX _ hL0 r => ?_
 refine W.go 99 rfl ?_
 rw [wrap64_in _ (by omega) (by omega), show lo + (m : Int) - lo = (m : Int) by omega]
 refine W.eff rfl rfl rfl (Ef.call rfl (To_sp b ad cap l n m L h hn hl hm)) ?_
 rintro _ _ _ ⟨_, rfl, rfl, ⟨y, rfl, hy⟩, hk, hs⟩
 refine W.go 99 rfl ?_
 rw [wrap64_in _ (by omega) (by omega)]
 refine W.ret r rfl rfl ?_
 exact ⟨⟨_, rfl, by omega, by omega⟩, hk, hs⟩
theorem NewHat_sp (ad : Option Addr) (cap : Nat) (l : List Int) (L : LH) (h : IntsAt L ad l) : Sp X 7 [.slice ad l.length cap] L (fun v L' => ∃ b, v = pt b ∧ L b = none ∧ Le L L' ∧ HatAt L' b ad cap l 0) := by
 refine Sp.enter (n := 6) Tryz.func7 rfl rfl rfl rfl fun C hX _ hL0 r => ?_
 refine W.goP [2] 99 rfl ?_
 refine W.go 99 rfl ?_
 refine W.pub 2 (.inl ⟨_, rfl⟩) rfl rfl ?_
 intro b hb _
 refine W.ret r rfl rfl ?_
 exact ⟨b, rfl, hb, Le.put hb _, ⟨_, put_same _ _ _⟩, h.le fun b' x hx => by rw [but_get (fun e => by subst e; rw [hb] at hx; cases hx)]; exact Le.put hb _ _ _ hx⟩
theorem One_sp (b : Nat) (ad xa : Option Addr) (cap xc : Nat) (l xs : List Int) (n : Nat) (L : LH) (h : HatAt L b ad cap l n) (hx : IntsAt L xa xs) (hn : n ≤ 1000000) (hl : l.length ≤ 140737488355328) (hm : xs.length ≤ 1000000) (h1 : 1 ≤ xs.length) (hxb : ∀ a, xa = some a → a.block ≠ b) :
  Sp X 63 [pt b, .slice xa xs.length xc] L (fun v L' => (∃ y : Int, v = .int .i64 y ∧ y ∈ xs) ∧ (∀ b', b' ≠ b → L' b' = L b') ∧ ∃ seed : Int, L' b = some (.cells [Value.slice ad l.length cap, .int .i64 ((n + 1 : Nat) : Int), .int .u64 seed].toArray 96 (0, 0), true)) := by
 obtain ⟨m, hmx⟩ : ∃ m, xs.length = m + 1 := ⟨xs.length - 1, by omega⟩
 obtain ⟨xd, rfl⟩ := hx.addr (i := 0) (by omega)
 have hxb := hxb xd rfl
 refine Sp.enter (n := 13) Tryz.func63 rfl rfl rfl rfl fun C hX _ hL0 r => ?_
 refine W.go 99 rfl ?_
 rw [wrap64_in _ (by omega) (by omega), show (xs.length : Int) - 1 = (m : Int) by omega]
 refine W.eff rfl rfl rfl (Ef.call rfl (To_sp b ad cap l n m L h hn hl (by omega))) ?_
 rintro _ _ _ ⟨_, rfl, rfl, ⟨y, rfl, hy⟩, hk, hs⟩
 refine W.go 99 rfl ?_
 have hyl : y < xs.length := by omega
 rename_i L2
 have hc : L2.cell? (xd.add y) = some (.int .i64 xs[y]) := by
  have := hx.int (List.getElem?_eq_getElem hyl)
  have hb2 : (xd.add y).block = xd.block := by unfold Addr.add; split <;> rfl
  unfold LH.cell? at this ⊢
  rw [hk _ (by rw [hb2]; exact hxb)]; exact this
 refine W.vf rfl rfl rfl rfl (Vf.idx1 rfl rfl rfl rfl rfl rfl rfl (hyl)) ?_
 refine W.vf rfl rfl rfl rfl (Vf.load rfl rfl rfl (hc)) ?_
 refine W.go 99 rfl ?_
 refine W.ret r rfl rfl ?_
 exact ⟨⟨_, rfl, List.getElem_mem hyl⟩, hk, hs⟩
theorem DupInts_sp (ad : Option Addr) (c : Nat) (l : List Int) (L : LH) (h : IntsAt L ad l) (hn : l.length ≤ 1000000) : Sp X 53 [.slice ad l.length c] L (fun v L' => Grow L 1 3 encI L' v l) := by
 refine Sp.enter (n := 6) Tryz.func53 rfl rfl rfl rfl fun C hX _ hL0 r => ?_
 refine W.go 99 rfl ?_
 refine W.pub 3 (.inr ⟨_, _, _, rfl⟩) rfl rfl ?_
 intro b hb _
 refine W.eff rfl rfl rfl (Ef.grow rfl rfl rfl rfl rfl rfl rfl rfl rfl encI_len encI_sg (Grow.new (Le.put hb _) (put_same _ _ _) hb) (ls := l) (.sl (h.le (Le.put hb _)) encI_len rfl) (by simp; omega)) ?_
 rintro _ _ _ ⟨v', rfl, rfl, hg', _⟩
 refine W.go 99 rfl ?_
 refine W.ret r rfl rfl ?_
 exact hg'
end Go.Mz


set_option maxRecDepth 100000
namespace Go.Mz
open Go.Conc Go.Proofs
variable {X : Logic Tryz.prog}
structure Htt (J L : LH) (b : Nat) (ad : Option Addr) (cap : Nat) (l : List Int) (n : Nat) : Prop where
 le : Le J L
 jb : J b = none
 blk : ∃ seed : Int, L b = some (.cells [Value.slice ad l.length cap, .int .i64 n, .int .u64 seed].toArray 96 (0, 0), true)
 ints : IntsAt J ad l
section
variable {J L L' : LH} {b : Nat} {ad : Option Addr} {cap : Nat} {l : List Int} {n : Nat}
theorem Htt.but (h : Htt J L b ad cap l n) : Le J (L.but b) := fun x o hx => by
 rw [but_get (fun e => by subst e; rw [h.jb] at hx; cases hx)]; exact h.le _ _ hx
theorem Htt.hat (h : Htt J L b ad cap l n) : HatAt L b ad cap l n := ⟨h.blk, h.ints.le h.but⟩
theorem Htt.next (h : Htt J L b ad cap l n) (hk : ∀ x, x ≠ b → L' x = L x) (hs : ∃ seed : Int, L' b = some (.cells [Value.slice ad l.length cap, .int .i64 ((n + 1 : Nat) : Int), .int .u64 seed].toArray 96 (0, 0), true)) : Htt J L' b ad cap l (n + 1) :=
 ⟨fun x o hx => by rw [hk x (fun e => by subst e; rw [h.jb] at hx; cases hx)]; exact h.le _ _ hx, h.jb, hs, h.ints⟩
theorem Htt.put (h : Htt J L b ad cap l n) {x : Nat} (hx : L x = none) (o : Obj) : Htt J (L.put x o) b ad cap l n := by
 obtain ⟨sd, g⟩ := h.blk
 have e : b ≠ x := fun e => by rw [← e, g] at hx; cases hx
 exact ⟨h.le.trans (Le.put hx _), h.jb, ⟨sd, by rw [put_ne _ _ e]; exact g⟩, h.ints⟩
theorem Htt.wide {J' : LH} (h : Htt J L b ad cap l n) (h1 : Le J J') (h2 : Le J' L) (h3 : J' b = none) : Htt J' L b ad cap l n := ⟨h2, h3, h.blk, h.ints.le h1⟩
theorem Htt.all (h : Htt J L b ad cap l n) : Htt (L.but b) L b ad cap l n := h.wide h.but (but_le _ _) (by unfold LH.but; rw [if_pos rfl])
end
structure HtQ (J L : LH) (b : Nat) (ad : Option Addr) (cap : Nat) (l : List Int) (n : Nat) (L' : LH) : Prop where
 h : Htt J L' b ad cap l (n + 1)
 k : ∀ x, x ≠ b → L' x = L x
section
variable {J L L' : LH} {b : Nat} {ad : Option Addr} {cap : Nat} {l : List Int} {n : Nat}
theorem To_h (m : Nat) (h : Htt J L b ad cap l n) (hn : n ≤ 1000000) (hl : l.length ≤ 140737488355328) (hm : m ≤ 1000000) : Sp X 9 [pt b, .int .i64 m] L (fun v L' => ∃ y : Nat, v = .int .i64 y ∧ y ≤ m ∧ HtQ J L b ad cap l n L') :=
 (To_sp b ad cap l n m L h.hat hn hl hm).mono (fun _ _ ⟨⟨y, h1, h2⟩, hk, hs⟩ => ⟨y, h1, h2, h.next hk hs, hk⟩) fun _ _ h => h
theorem From_h (lo hi : Int) (h : Htt J L b ad cap l n) (hn : n ≤ 1000000) (hl : l.length ≤ 140737488355328) (h1 : 0 ≤ lo) (h3 : lo ≤ hi) (h4 : hi ≤ 1000000) : Sp X 64 [pt b, .int .i64 lo, .int .i64 hi] L (fun v L' => ∃ y : Int, v = .int .i64 y ∧ lo ≤ y ∧ y ≤ hi ∧ HtQ J L b ad cap l n L') := by
 have e : lo + ((hi - lo).toNat : Int) = hi := by omega
 have := From_sp (X := X) b ad cap l n lo (hi - lo).toNat L h.hat hn hl (by omega) (by omega) (by omega)
 rw [e] at this
 exact this.mono (fun _ _ ⟨⟨y, h1, h2, h3⟩, hk, hs⟩ => ⟨y, h1, h2, h3, h.next hk hs, hk⟩) fun _ _ h => h
theorem One_h (xa : Option Addr) (xc : Nat) (xs : List Int) (h : Htt J L b ad cap l n) (hx : IntsAt L xa xs) (hxb : ∀ a, xa = some a → a.block ≠ b) (hn : n ≤ 1000000) (hl : l.length ≤ 140737488355328) (hm : xs.length ≤ 1000000) (h1 : 1 ≤ xs.length) : Sp X 63 [pt b, .slice xa xs.length xc] L (fun v L' => ∃ y : Int, v = .int .i64 y ∧ y ∈ xs ∧ HtQ J L b ad cap l n L') :=
 (One_sp b ad xa cap xc l xs n L h.hat hx hn hl hm h1 hxb).mono (fun _ _ ⟨⟨y, h1, h2⟩, hk, hs⟩ => ⟨y, h1, h2, h.next hk hs, hk⟩) fun _ _ h => h
end
structure Gw (J L : LH) (k : Nat) (e : TypeId) (v : Value) (len : Nat) (cs : List Value) (ob : Option Nat) : Prop where
 o : Own L k e v len cs ob
 j : ∀ o, ob = some o → J o = none
section
variable {J L L' : LH} {b : Nat} {ad : Option Addr} {cap : Nat} {l : List Int} {n k : Nat} {e : TypeId} {v : Value} {len : Nat} {cs : List Value} {ob : Option Nat}
theorem Gw.nil : Gw J L k e (.slice none 0 0) 0 [] none := ⟨Own.nil, fun _ h => by cases h⟩
theorem Own.ty (h : Own L k e v len cs ob) {o : Nat} (ho : ob = some o) : ∃ c, L o = some (.cells c e (0, 0), true) := by
 subst ho
 obtain ⟨_, c, _, g, _⟩ := h
 exact ⟨c, g⟩
theorem Gw.hat (h : Gw J L k e v len cs ob) (hh : Htt J L b ad cap l n) (he : e ≠ 96) (hk : ∀ x, x ≠ b → L' x = L x) : Gw J L' k e v len cs ob :=
 ⟨h.o.keep fun o ho => hk o (fun e' => by
  obtain ⟨c, g⟩ := h.o.ty ho
  obtain ⟨sd, g2⟩ := hh.blk
  subst e'; rw [g] at g2; cases g2; exact he rfl), h.j⟩
theorem Gw.put (h : Gw J L k e v len cs ob) {x : Nat} (hx : L x = none) (o : Obj) : Gw J (L.put x o) k e v len cs ob :=
 ⟨h.o.keep fun o' ho => put_ne _ _ (fun e' => by
  obtain ⟨c, g⟩ := h.o.ty ho
  rw [← e', g] at hx; cases hx), h.j⟩
theorem app_rest {v' : Value} {ob' : Option Nat} {len' : Nat} {cs' : List Value} (h : Gw J L k e v len cs ob) (hh : Htt J L b ad cap l n) (he : e ≠ 96) (hw : Own L' k e v' len' cs' ob') (hc : (L' = L ∧ ob' = none ∧ ob = none) ∨ ∃ b c, ob' = some b ∧ L' = L.put b (.cells c e) ∧ ((ob = some b ∧ ∃ c0, L b = some (.cells c0 e (0, 0), true) ∧ c.size = c0.size) ∨ L b = none)) :
  Gw J L' k e v' len' cs' ob' ∧ Htt J L' b ad cap l n ∧ ∀ x c e', L x = some (.cells c e' (0, 0), true) → e' ≠ e → L' x = L x := by
 rcases hc with ⟨rfl, rfl, _⟩ | ⟨q, c, rfl, rfl, ⟨rfl, c0, g, _⟩ | g⟩
 ·exact ⟨⟨hw, fun _ h => by cases h⟩, hh, fun _ _ _ _ _ => rfl⟩
 ·have hJ := h.j q rfl
  obtain ⟨sd, g2⟩ := hh.blk
  have hqb : b ≠ q := fun e' => by subst e'; rw [g] at g2; cases g2; exact he rfl
  refine ⟨⟨hw, fun _ h => by cases h; exact hJ⟩, ⟨le_put_none hh.le hJ _, hh.jb, ⟨sd, by rw [put_ne _ _ hqb]; exact g2⟩, hh.ints⟩, fun x c e' hx hne => put_ne _ _ (fun e2 => ?_)⟩
  subst e2; rw [g] at hx; cases hx; exact hne rfl
 ·refine ⟨⟨hw, fun _ h => by cases h; exact none_of_le hh.le g⟩, hh.put g _, fun x c e' hx hne => put_ne _ _ (fun e2 => ?_)⟩
  subst e2; rw [g] at hx; cases hx
theorem Gw.rest {e2 : TypeId} {k2 len2 : Nat} {v2 : Value} {cs2 : List Value} {ob2 : Option Nat} (h : Gw J L k2 e2 v2 len2 cs2 ob2) (hr : ∀ x c e', L x = some (.cells c e' (0, 0), true) → e' ≠ e → L' x = L x) (hne : e2 ≠ e) : Gw J L' k2 e2 v2 len2 cs2 ob2 :=
 ⟨h.o.keep fun o ho => by
  obtain ⟨c, g⟩ := h.o.ty ho
  exact hr o c e2 g hne, h.j⟩
end
end Go.Mz


set_option maxRecDepth 100000
namespace Go.Mz
open Go.Conc Go.Proofs
variable {X : Logic Tryz.prog}
section
variable {J L L' : LH} {b : Nat} {ad : Option Addr} {cap : Nat} {l : List Int} {n k : Nat} {e : TypeId} {v : Value} {len : Nat} {cs : List Value} {ob : Option Nat}
theorem Gw.at_but {α : Type} {enc : α → List Value} {xs : List α} {xa : Option Addr} {xc : Nat} (h : Gw J L k e (.slice xa len xc) xs.length (xs.flatMap enc) ob) (hh : Htt J L b ad cap l n) (he : e ≠ 96) (hk : ∀ x, (enc x).length = k) : len = xs.length ∧ SlAt (L.but b) xa k enc xs ∧ xs.length ≤ xc := by
 have ho := h.o.keep (L' := L.but b) fun o ho => but_get (fun e' => by
  obtain ⟨c, g⟩ := h.o.ty ho
  obtain ⟨sd, g2⟩ := hh.blk
  subst e'; rw [g] at g2; cases g2; exact he rfl)
 obtain ⟨_, _, e1, hc⟩ := h.o.slice
 cases e1
 exact ⟨rfl, ho.at hk, hc⟩
end
theorem intsB (xs : List Int) {L : LH} {b : Nat} {fz : Nat × Nat} {wr : Bool} (h : L b = some (.cells (xs.flatMap encI).toArray 3 fz, wr)) : IntsAt L (some ⟨b, 0, none⟩) xs := by
 intro i x hx
 refine ⟨_, rfl, fun j v hv => ?_⟩
 rw [add_of]
 refine cell_of h ?_
 rw [Nat.zero_add, List.getElem?_toArray]
 exact flat_get encI_len hx hv
theorem Htt.off {J L : LH} {b : Nat} {ad : Option Addr} {cap : Nat} {l : List Int} {n x : Nat} (h : Htt J L b ad cap l n) (hx : L x = none) : x ≠ b := fun e => by
 obtain ⟨sd, g⟩ := h.blk
 rw [e, g] at hx; cases hx
theorem grow_step {α : Type} {enc : α → List Value} {J L L' : LH} {b : Nat} {ad : Option Addr} {cap : Nat} {l : List Int} {n k : Nat} {e : TypeId} {xs : List α} {x : α} {xa : Option Addr} {xc : Nat} {ob ob' : Option Nat} {v' : Value} (h : Gw J L k e (.slice xa xs.length xc) xs.length (xs.flatMap enc) ob) (hh : Htt J L b ad cap l n) (he : e ≠ 96) (hw : Own L' k e v' (xs.length + 1) (xs.flatMap enc ++ enc x) ob')
  (hc : (L' = L ∧ ob' = none ∧ ob = none) ∨ ∃ b c, ob' = some b ∧ L' = L.put b (.cells c e) ∧ ((ob = some b ∧ ∃ c0, L b = some (.cells c0 e (0, 0), true) ∧ c.size = c0.size) ∨ L b = none)) :
  ∃ xa' xc', v' = .slice xa' (xs.length + 1) xc' ∧ Gw J L' k e (.slice xa' (xs ++ [x]).length xc') (xs ++ [x]).length ((xs ++ [x]).flatMap enc) ob' ∧ Htt J L' b ad cap l n ∧ ∀ x c e', L x = some (.cells c e' (0, 0), true) → e' ≠ e → L' x = L x := by
 obtain ⟨h1, h2, h3⟩ := app_rest h hh he hw hc
 obtain ⟨xa', xc', rfl, _⟩ := hw.slice
 have e1 : (xs ++ [x]).length = xs.length + 1 := by simp
 have e2 : (xs ++ [x]).flatMap enc = xs.flatMap enc ++ enc x := by simp
 exact ⟨xa', xc', rfl, by rw [e1, e2]; exact h1, h2, h3⟩
theorem dec0 {i : Nat} (h : i < 1000000) : IntKind.i64.wrap (((i + 1 : Nat) : Int) - 1) = (i : Int) := by
 rw [wrap64_in _ (by omega) (by omega)]; omega
structure BoilM (x : Bl) (pans ticks : Nat) : Prop where
 s1 : 1 ≤ x.starts.length
 s2 : x.starts.length ≤ pans
 sb : ∀ s ∈ x.starts, 0 ≤ s.lo ∧ s.lo ≤ s.hi ∧ s.hi ≤ 14
 rl : x.rates.length = x.starts.length
 rb : ∀ r ∈ x.rates, 1 ≤ r ∧ r ≤ 3
 mrk : ∃ m0 m1 m2, x.marks = [m0, m1, m2] ∧ 1 ≤ m0 ∧ m0 < m1 ∧ m1 < m2 ∧ m2 ≤ 20
 h1 : 1 ≤ x.heats.length
 h2 : x.heats.length ≤ ticks
 hb : ∀ s ∈ x.heats, 0 ≤ s.lo ∧ s.lo ≤ s.hi ∧ s.hi ≤ 4
 p : x.proofs = []
theorem BoilOf_t (J L : LH) (b : Nat) (ad : Option Addr) (cap : Nat) (l : List Int) (n pans ticks : Nat) (h : Htt J L b ad cap l n) (hn : n ≤ 900000) (hl : l.length ≤ 140737488355328) (hp : 1 ≤ pans) (hp3 : pans ≤ 3) (ht : 1 ≤ ticks) (ht5 : ticks ≤ 5) :
    Sp X 48 [pt b, .int .i64 pans, .int .i64 ticks] L (fun v L' => ∃ x p J' m, v = blA x p ∧ BoilM x pans ticks ∧ m ≤ n + 100 ∧ Le J J' ∧ Htt J' L' b ad cap l m ∧ BlAt J' x p ∧ p.a4 = none ∧ p.c4 = 0) := by
  refine Sp.enter (n := 80) Tryz.func48 rfl rfl rfl rfl fun C hX _ hL0 r => ?_
  refine W.go 99 rfl ?_
  refine W.eff rfl rfl rfl (Ef.call rfl (From_h 1 pans h (by omega) hl (by omega) (by omega) (by omega))) ?_
  rintro _ _ _ ⟨_, rfl, rfl, y, rfl, hy1, hy2, hq⟩
  refine W.go 99 rfl ?_
  obtain ⟨q, rfl⟩ : ∃ q : Nat, y = q := ⟨y.toNat, by omega⟩
  refine W.loop (fun w E B L' => ∃ (i : Nat) (ss : List Spn) (rr : List Int) (sa ra : Option Addr) (sc rc m : Nat) (os orr : Option Nat), w = i ∧ i + ss.length = q ∧ rr.length = ss.length ∧ m ≤ n + 1 + 4 * ss.length ∧ (∀ s ∈ ss, 0 ≤ s.lo ∧ s.lo ≤ s.hi ∧ s.hi ≤ 14) ∧ (∀ r ∈ rr, 1 ≤ r ∧ r ≤ 3) ∧ Htt J L' b ad cap l m ∧
      Gw J L' 2 88 (.slice sa ss.length sc) ss.length (ss.flatMap encSp) os ∧ Gw J L' 1 3 (.slice ra rr.length rc) rr.length (rr.flatMap encI) orr ∧
      E = [(0, .v (pt b)), (2, .v (.int .i64 ticks)), (6, .p 0 0), (7, .p 1 0), (8, .v (.int .i64 i))] ∧ B = [some ⟨ti28.z.cells.toList.map .v, 28⟩, some ⟨[.v (.slice sa ss.length sc), .v (.slice ra rr.length rc), .v (.slice none 0 0), .v (.slice none 0 0), .v (.slice none 0 0)], 28⟩])
    ⟨q, [], [], none, none, 0, 0, n + 1, none, none, rfl, by simp, rfl, by simp, by simp, by simp, hq.h, Gw.nil, Gw.nil, rfl, rfl⟩ (by exact ⟨rfl, rfl, rfl, rfl, rfl, trivial⟩) (by exact ⟨rfl, rfl, trivial⟩) ?_
  clear hq
  rintro i _ _ L1 ⟨_, ss, rr, sa, ra, sc, rc, m, os, orr, rfl, hiq, hrl, hm, hss, hrr, hh, hgs, hgr, rfl, rfl⟩ again
  refine W.go 99 rfl ?_
  refine W.split rfl rfl rfl (fun e1 => ?_) (fun e1 => ?_)
  · obtain ⟨i, rfl⟩ : ∃ j, i = j + 1 := ⟨i - 1, by have : (0 : Int) < i := by simpa using e1
                                                   omega⟩
    refine W.go 99 rfl ?_
    refine W.eff rfl rfl rfl (Ef.call rfl (From_h 0 12 hh (by omega) hl (by omega) (by omega) (by omega))) ?_
    rintro _ _ _ ⟨_, rfl, rfl, y, rfl, hy3, hy4, hq⟩
    refine W.go 99 rfl ?_
    obtain ⟨hh, hk⟩ := hq
    have hgs1 := hgs.hat ‹Htt J L1 b ad cap l m› (by decide) hk
    have hgr1 := hgr.hat ‹Htt J L1 b ad cap l m› (by decide) hk
    rename_i L2
    refine W.drawn (by kernel_rfl) noL (noL_le _) ?_
    refine DD.run' [0, 1, 2, 3, 4, 5] rfl ?_
    refine DD.act 6 rfl rfl rfl rfl rfl (Ef.pub 27 (.inr ⟨_, _, _, rfl⟩) rfl rfl (fun b9 hb9 _ => Ef.call rfl (One_h (some ⟨b9, 0, none⟩) 4 [0, 0, 1, 2] (hh.put hb9 _) (intsB [0, 0, 1, 2] (put_same _ _ _)) (fun a ha => by cases ha; exact hh.off hb9) (by omega) hl (by decide) (by decide)))) (by rintro _ _ _ ⟨_, _, _, _, rfl, rfl, _⟩; exact ⟨noL_le _, rfl, .inl rfl⟩) ?_
    rintro _ _ _ ⟨b9, hb9, _, _, rfl, rfl, z, rfl, hz, hq⟩
    have hgs2 := (hgs1.put hb9 _).hat (hh.put hb9 _) (by decide) hq.k
    have hgr2 := (hgr1.put hb9 _).hat (hh.put hb9 _) (by decide) hq.k
    have hh3 := hq.h
    rename_i L3
    clear hq
    have hz2 : 0 ≤ z ∧ z ≤ 2 := by simp at hz; omega
    have hw : IntKind.i64.wrap (y + z) = y + z := wrap64_in _ (by omega) (by omega)
    refine DD.run' [7, 8, 9] rfl ?_
    rw [hw]
    refine DD.act 10 rfl rfl rfl rfl rfl (Ef.growA (len := ss.length) (m := 1) (vs := encSp ⟨y, y + z⟩) rfl rfl rfl rfl rfl rfl rfl rfl rfl (encSp_sg _) hgs2.o (.own rfl rfl rfl rfl) (by omega)) ((by rintro _ _ _ ⟨_, _, rfl, rfl, _⟩; exact ⟨noL_le _, rfl, .inl rfl⟩)) ?_
    rintro _ _ _ ⟨v1, ob1, rfl, rfl, ho1, hc1⟩
    obtain ⟨sa', sc', rfl, hgs4, hh4, hrest⟩ := grow_step hgs2 hh3 (by decide) ho1 hc1
    have hgr4 := hgr2.rest hrest (by decide)
    rename_i L4
    clear hgs1 hgr1 hgs2 hgr2 hh3 ho1 hc1 hrest hk hh
    refine DD.run' [11] rfl ?_
    refine DD.act 12 rfl rfl rfl rfl rfl (Ef.sto rfl) (by rintro _ _ _ ⟨rfl, rfl, rfl⟩; exact ⟨noL_le _, rfl, .inr rfl⟩) ?_
    rintro _ _ _ ⟨rfl, rfl, rfl⟩
    refine .fin rfl ?_
    refine W.weak (E' := [(0, .v (pt b)), (2, .v (.int .i64 ticks)), (6, .p 0 0), (7, .p 1 0), (8, .v (.int .i64 ((i + 1 : Nat) : Int)))]) (B' := [some ⟨ti28.z.cells.toList.map .v, 28⟩, some ⟨[.v (.slice sa' (ss.length + 1) sc'), .v (.slice ra rr.length rc), .v (.slice none 0 0), .v (.slice none 0 0), .v (.slice none 0 0)], 28⟩]) (by exact ⟨rfl, rfl, rfl, rfl, rfl, trivial⟩) (by exact ⟨rfl, rfl, trivial⟩) ?_
    refine W.go 99 rfl ?_
    refine W.drawn (by kernel_rfl) noL (noL_le _) ?_
    refine DD.run' [0, 1, 2, 3] rfl ?_
    refine DD.act 4 rfl rfl rfl rfl rfl (Ef.call rfl (From_h 1 3 hh4 (by omega) hl (by omega) (by omega) (by omega))) (by rintro _ _ _ ⟨_, rfl, rfl, _⟩; exact ⟨noL_le _, rfl, .inl rfl⟩) ?_
    rintro _ _ _ ⟨_, rfl, rfl, w, rfl, hw1, hw3, hq⟩
    have hgs5 := hgs4.hat hh4 (by decide) hq.k
    have hgr5 := hgr4.hat hh4 (by decide) hq.k
    have hh5 := hq.h
    clear hq hgs4 hgr4 hh4
    refine DD.run' [5] rfl ?_
    refine DD.act 6 rfl rfl rfl rfl rfl (Ef.pub 39 (.inr ⟨_, _, _, rfl⟩) rfl rfl (fun b9 hb9 _ => Ef.call rfl (One_h (some ⟨b9, 0, none⟩) 4 [1, 1, 2, w] (hh5.put hb9 _) (intsB [1, 1, 2, w] (put_same _ _ _)) (fun a ha => by cases ha; exact hh5.off hb9) (by omega) hl (by show 4 ≤ 1000000; decide) (by show 1 ≤ 4; decide)))) (by rintro _ _ _ ⟨_, _, _, _, rfl, rfl, _⟩; exact ⟨noL_le _, rfl, .inl rfl⟩) ?_
    rintro _ _ _ ⟨b8, hb8, _, _, rfl, rfl, u, rfl, hu, hq⟩
    have hgs6 := (hgs5.put hb8 _).hat (hh5.put hb8 _) (by decide) hq.k
    have hgr6 := (hgr5.put hb8 _).hat (hh5.put hb8 _) (by decide) hq.k
    have hh6 := hq.h
    clear hq hgs5 hgr5
    have hu2 : 1 ≤ u ∧ u ≤ 3 := by simp at hu; omega
    refine DD.run' [7] rfl ?_
    refine DD.act 8 rfl rfl rfl rfl rfl (Ef.growA (len := rr.length) (m := 1) (vs := encI u) rfl rfl rfl rfl rfl rfl rfl rfl rfl (encI_sg _) hgr6.o (.own rfl rfl rfl rfl) (by omega)) ((by rintro _ _ _ ⟨_, _, rfl, rfl, _⟩; exact ⟨noL_le _, rfl, .inl rfl⟩)) ?_
    rintro _ _ _ ⟨v2, ob2, rfl, rfl, ho2, hc2⟩
    obtain ⟨ra', rc', rfl, hgr7, hh7, hrest⟩ := grow_step hgr6 hh6 (by decide) ho2 hc2
    have hgs7 := hgs6.rest hrest (by decide)
    clear hgr6 hgs6 hh6 hh5 ho2 hc2 hrest
    refine DD.run' [9] rfl ?_
    refine DD.act 10 rfl rfl rfl rfl rfl (Ef.sto rfl) (by rintro _ _ _ ⟨rfl, rfl, rfl⟩; exact ⟨noL_le _, rfl, .inr rfl⟩) ?_
    rintro _ _ _ ⟨rfl, rfl, rfl⟩
    refine .fin rfl ?_
    refine W.go 99 rfl ?_
    have e1 : (ss ++ [(⟨y, y + z⟩ : Spn)]).length = ss.length + 1 := by simp
    have e2 : (rr ++ [u]).length = rr.length + 1 := by simp
    exact W.again (again i _ _ _ (by omega) ⟨i, ss ++ [(⟨y, y + z⟩ : Spn)], rr ++ [u], sa', ra', sc', rc', _, ob1, ob2, rfl, by omega, by omega, by omega, fun s hs => by
      rcases List.mem_append.1 hs with hs | hs
      · exact hss s hs
      · rw [List.mem_singleton.1 hs]; show 0 ≤ y ∧ y ≤ y + z ∧ y + z ≤ 14; exact ⟨hy3, by omega, by omega⟩, fun r hr => by
      rcases List.mem_append.1 hr with hr | hr
      · exact hrr r hr
      · rw [List.mem_singleton.1 hr]; exact hu2, hh7, hgs7, hgr7, rfl, rfl⟩) (by exact ⟨rfl, rfl, rfl, rfl, congrArg (fun z => some (SV.v (Value.int .i64 z))) (dec0 (by omega)), trivial⟩) (by rw [e1, e2]; exact ⟨rfl, rfl, trivial⟩)
  · have hi0 : i = 0 := by have : ¬ (0 : Int) < i := by simpa using e1
                           omega
    subst hi0
    clear again
    obtain ⟨_, hsS, hcS⟩ := hgs.at_but hh (by decide) encSp_len
    obtain ⟨_, hsR, hcR⟩ := hgr.at_but hh (by decide) encI_len
    have hJ1 := hh.but
    have hh1 := hh.all
    clear hgs hgr hh
    generalize hJe : L1.but b = J1 at hsS hsR hJ1 hh1
    clear hJe
    refine W.go 99 rfl ?_
    refine W.eff rfl rfl rfl (Ef.call rfl (From_h 1 9 hh1 (by omega) hl (by omega) (by omega) (by omega))) ?_
    rintro _ _ _ ⟨_, rfl, rfl, y, rfl, hy3, hy4, hq⟩
    refine W.go 99 rfl ?_
    have hh2 := hq.h
    clear hq hh1
    refine W.eff rfl rfl rfl (Ef.call rfl (From_h 1 4 hh2 (by omega) hl (by omega) (by omega) (by omega))) ?_
    rintro _ _ _ ⟨_, rfl, rfl, y2, rfl, hy5, hy6, hq⟩
    refine W.go 99 rfl ?_
    have hh3 := hq.h
    clear hq hh2
    refine W.eff rfl rfl rfl (Ef.call rfl (From_h 5 11 hh3 (by omega) hl (by omega) (by omega) (by omega))) ?_
    rintro _ _ _ ⟨_, rfl, rfl, y3, rfl, hy7, hy8, hq⟩
    have hh4 := hq.h
    clear hq hh3
    have hw2 : IntKind.i64.wrap (y + y2) = y + y2 := wrap64_in _ (by omega) (by omega)
    have hw3 : IntKind.i64.wrap (y + y3) = y + y3 := wrap64_in _ (by omega) (by omega)
    rw [hw2]
    refine W.goP [54] 99 rfl ?_
    refine W.go 1 rfl ?_
    rw [hw3]
    refine W.goP [56] 99 rfl ?_
    rename_i L4
    refine W.pub 55 (.inr ⟨_, _, _, rfl⟩) rfl rfl ?_
    intro mb hmb _
    have hmb4 := put_same L4 mb (.cells ([y, y + y2, y + y3].flatMap encI).toArray 3)
    have hh5 := hh4.put hmb (.cells ([y, y + y2, y + y3].flatMap encI).toArray 3)
    have hne : mb ≠ b := hh4.off hmb
    have hsM : IntsAt ((L4.put mb (.cells ([y, y + y2, y + y3].flatMap encI).toArray 3)).but b) (some ⟨mb, 0, none⟩) [y, y + y2, y + y3] := intsB _ ((but_get hne).trans hmb4)
    have hJ2 := hh5.but
    have hh6 := hh5.all
    change W C _ _ _ _ _ (L4.put mb (.cells ([y, y + y2, y + y3].flatMap encI).toArray 3))
    generalize hL5 : L4.put mb (.cells ([y, y + y2, y + y3].flatMap encI).toArray 3) = L5 at hsM hJ2 hh6 ⊢
    clear hL5 hmb4 hh5 hh4
    generalize hJe : L5.but b = J2 at hsM hJ2 hh6
    clear hJe
    refine W.go 99 rfl ?_
    refine W.eff rfl rfl rfl (Ef.call rfl (From_h 1 ticks hh6 (by omega) hl (by omega) (by omega) (by omega))) ?_
    rintro _ _ _ ⟨_, rfl, rfl, yt, rfl, hy9, hy10, hq⟩
    refine W.go 99 rfl ?_
    have hh7 := hq.h
    clear hq hh6
    obtain ⟨t, rfl⟩ : ∃ t : Nat, yt = t := ⟨yt.toNat, by omega⟩
    refine W.loop (fun w E B L' => ∃ (i : Nat) (hs : List Spn) (ha : Option Addr) (hc m2 : Nat) (ho : Option Nat), w = i ∧ i + hs.length = t ∧ m2 ≤ m + 5 + 2 * hs.length ∧ (∀ s ∈ hs, 0 ≤ s.lo ∧ s.lo ≤ s.hi ∧ s.hi ≤ 4) ∧ Htt J2 L' b ad cap l m2 ∧
        Gw J2 L' 2 88 (.slice ha hs.length hc) hs.length (hs.flatMap encSp) ho ∧
        E = [(0, .v (pt b)), (6, .p 0 0), (7, .p 1 0), (11, .v (.int .i64 i))] ∧ B = [some ⟨ti28.z.cells.toList.map .v, 28⟩, some ⟨[.v (.slice sa ss.length sc), .v (.slice ra rr.length rc), .v (.slice (some ⟨mb, 0, none⟩) 3 3), .v (.slice ha hs.length hc), .v (.slice none 0 0)], 28⟩])
      ⟨t, [], none, 0, _, none, rfl, by simp, by simp, by simp, hh7, Gw.nil, rfl, rfl⟩ (by exact ⟨rfl, rfl, rfl, rfl, trivial⟩) (by exact ⟨rfl, rfl, trivial⟩) ?_
    clear hh7
    rintro i _ _ L6 ⟨_, hs, ha, hc, m2, ho, rfl, hit, hm2, hhs, hh, hgh, rfl, rfl⟩ again
    refine W.go 99 rfl ?_
    refine W.split rfl rfl rfl (fun e1 => ?_) (fun e1 => ?_)
    · obtain ⟨i, rfl⟩ : ∃ j, i = j + 1 := ⟨i - 1, by have : (0 : Int) < i := by simpa using e1
                                                     omega⟩
      refine W.go 99 rfl ?_
      refine W.eff rfl rfl rfl (Ef.call rfl (To_h 4 hh (by omega) hl (by omega))) ?_
      rintro _ _ _ ⟨_, rfl, rfl, w, rfl, hw4, hq⟩
      refine W.go 99 rfl ?_
      have hgh1 := hgh.hat hh (by decide) hq.k
      have hh1 := hq.h
      clear hq
      refine W.drawn (by kernel_rfl) noL (noL_le _) ?_
      refine DD.run' [0, 1, 2, 3, 4, 5] rfl ?_
      refine DD.act 6 rfl rfl rfl rfl rfl (Ef.pub 71 (.inr ⟨_, _, _, rfl⟩) rfl rfl (fun b9 hb9 _ => Ef.call rfl (One_h (some ⟨b9, 0, none⟩) 4 [0, 1, 1, 2] (hh1.put hb9 _) (intsB [0, 1, 1, 2] (put_same _ _ _)) (fun a ha => by cases ha; exact hh1.off hb9) (by omega) hl (by decide) (by decide)))) (by rintro _ _ _ ⟨_, _, _, _, rfl, rfl, _⟩; exact ⟨noL_le _, rfl, .inl rfl⟩) ?_
      rintro _ _ _ ⟨b9, hb9, _, _, rfl, rfl, z, rfl, hz, hq⟩
      have hgh2 := (hgh1.put hb9 _).hat (hh1.put hb9 _) (by decide) hq.k
      have hh2 := hq.h
      clear hq hgh1
      have hz2 : 0 ≤ z ∧ z ≤ 2 := by simp at hz; omega
      have hwz : IntKind.i64.wrap ((w : Int) + z) = (w : Int) + z := wrap64_in _ (by omega) (by omega)
      refine DD.run' [7, 8, 9, 10] rfl ?_
      rw [hwz]
      have hmin : (w : Int) ≤ (if (w : Int) + z < 4 then (w : Int) + z else 4) ∧ (if (w : Int) + z < 4 then (w : Int) + z else 4) ≤ 4 := by split <;> omega
      generalize (if (w : Int) + z < 4 then (w : Int) + z else 4) = u at hmin ⊢
      refine DD.act 11 rfl rfl rfl rfl rfl (Ef.growA (len := hs.length) (m := 1) (vs := encSp ⟨w, u⟩) rfl rfl rfl rfl rfl rfl rfl rfl rfl (encSp_sg _) hgh2.o (.own rfl rfl rfl rfl) (by omega)) ((by rintro _ _ _ ⟨_, _, rfl, rfl, _⟩; exact ⟨noL_le _, rfl, .inl rfl⟩)) ?_
      rintro _ _ _ ⟨v2, ob2, rfl, rfl, ho2, hc2⟩
      obtain ⟨ha', hc', rfl, hgh3, hh3, _⟩ := grow_step hgh2 hh2 (by decide) ho2 hc2
      clear hgh2 hh2 hh1 ho2 hc2
      refine DD.run' [12] rfl ?_
      refine DD.act 13 rfl rfl rfl rfl rfl (Ef.sto rfl) (by rintro _ _ _ ⟨rfl, rfl, rfl⟩; exact ⟨noL_le _, rfl, .inr rfl⟩) ?_
      rintro _ _ _ ⟨rfl, rfl, rfl⟩
      refine .fin rfl ?_
      refine W.go 99 rfl ?_
      have e1 : (hs ++ [(⟨w, u⟩ : Spn)]).length = hs.length + 1 := by simp
      exact W.again (again i _ _ _ (by omega) ⟨i, hs ++ [(⟨w, u⟩ : Spn)], ha', hc', _, ob2, rfl, by omega, by omega, fun s hs' => by
        rcases List.mem_append.1 hs' with hs' | hs'
        · exact hhs s hs'
        · rw [List.mem_singleton.1 hs']; show 0 ≤ (w : Int) ∧ (w : Int) ≤ u ∧ u ≤ 4; exact ⟨by omega, hmin.1, hmin.2⟩, hh3, hgh3, rfl, rfl⟩) (by exact ⟨rfl, rfl, rfl, congrArg (fun z => some (SV.v (Value.int .i64 z))) (dec0 (by omega)), trivial⟩) (by rw [e1]; exact ⟨rfl, rfl, trivial⟩)
    · have hi0 : i = 0 := by have : ¬ (0 : Int) < i := by simpa using e1
                             omega
      subst hi0
      clear again
      obtain ⟨_, hsH, hcH⟩ := hgh.at_but hh (by decide) encSp_len
      have hJ3 := hh.but
      have hh8 := hh.all
      refine W.go 99 rfl ?_
      refine W.ret r rfl rfl ?_
      refine ⟨⟨ss, rr, [y, y + y2, y + y3], hs, []⟩, ⟨sa, ra, some ⟨mb, 0, none⟩, ha, none, sc, rc, 3, hc, 0⟩, L6.but b, m2, rfl, ⟨by show 1 ≤ ss.length; omega, by show ss.length ≤ pans; omega, hss, hrl, hrr, ⟨_, _, _, rfl, hy3, by omega, by omega, by omega⟩, by show 1 ≤ hs.length; omega, by show hs.length ≤ ticks; omega, hhs, rfl⟩, by omega, hJ1.trans (hJ2.trans hJ3), hh8, ?_, rfl, rfl⟩
      exact ⟨hsS.le (hJ2.trans hJ3), hsR.le (hJ2.trans hJ3), hsM.le hJ3, hsH, sl0, by show ss.length ≤ 1000000; omega, by show rr.length ≤ 1000000; omega, by show 3 ≤ 1000000; decide, by show hs.length ≤ 1000000; omega, by show 0 ≤ 1000000; decide, Nat.le_refl _⟩
end Go.Mz


set_option maxRecDepth 100000
namespace Go.Mz
open Go.Conc Go.Proofs
variable {X : Logic Tryz.prog}
theorem span_lo {L : LH} {a : Addr} {l : List Spn} {i : Nat} {s : Spn} (h : SlAt L (some a) 2 encSp l) (hx : l[i]? = some s) : L.cell? ((a.add (i * 2)).add 0) = some (.int .i64 s.lo) := by
 rw [add_add]; exact h.get hx rfl
theorem span_hi {L : LH} {a : Addr} {l : List Spn} {i : Nat} {s : Spn} (h : SlAt L (some a) 2 encSp l) (hx : l[i]? = some s) : L.cell? ((a.add (i * 2)).add 1) = some (.int .i64 s.hi) := by
 rw [add_add]; exact h.get hx rfl
def InAll (xs : List Int) (ss : List Spn) : Prop := ∀ (i : Nat) (x : Int) (s : Spn), xs[i]? = some x → ss[i]? = some s → inS x s
theorem InAll.snoc {xs : List Int} {ss : List Spn} {y : Int} {s : Spn} (h : InAll xs ss) (hs : ss[xs.length]? = some s) (hy : inS y s) : InAll (xs ++ [y]) ss := fun i x t hx ht => by
 rcases Nat.lt_trichotomy i xs.length with e | e | e
 ·rw [List.getElem?_append_left e] at hx
  exact h i x t hx ht
 ·subst e
  rw [List.getElem?_append_right (Nat.le_refl _), Nat.sub_self] at hx
  rw [hs] at ht
  cases hx; cases ht; exact hy
 ·rw [List.getElem?_eq_none (by simp; omega)] at hx; cases hx
def RunQ (J : LH) (b : Nat) (ad : Option Addr) (cap : Nat) (l : List Int) (n : Nat) (x : Bl) (v : Value) (L' : LH) : Prop :=
 ∃ st hs sa sc ha hc J' m, v = .tuple #[.slice sa st.length sc, .slice ha hs.length hc] ∧ RunOk x st hs ∧ m ≤ n + 10 ∧ Le J J' ∧ Htt J' L' b ad cap l m ∧ IntsAt J' sa st ∧ IntsAt J' ha hs
theorem RunOf_t (J L : LH) (b : Nat) (ad : Option Addr) (cap : Nat) (l : List Int) (n : Nat) (x : Bl) (p : BP) (h : Htt J L b ad cap l n) (hx : BlAt J x p) (hn : n ≤ 900000) (hl : l.length ≤ 140737488355328) (h3 : x.starts.length ≤ 3) (h5 : x.heats.length ≤ 5)
  (hs : ∀ s ∈ x.starts, 0 ≤ s.lo ∧ s.lo ≤ s.hi ∧ s.hi ≤ 40) (hhb : ∀ s ∈ x.heats, 0 ≤ s.lo ∧ s.lo ≤ s.hi ∧ s.hi ≤ 4) : Sp X 49 [pt b, blA x p] L (RunQ J b ad cap l n x) := by
 obtain ⟨p0, p1, p2, p3, p4, c0, c1, c2, c3, c4⟩ := p
 refine Sp.enter (n := 60) Tryz.func49 rfl rfl rfl rfl fun C hX _ hL0 r => ?_
 refine W.go 99 rfl ?_
 refine W.loop (fun w E B L' => ∃ (st : List Int) (sa : Option Addr) (sc : Nat) (ob : Option Nat), w = x.starts.length - st.length ∧ st.length ≤ x.starts.length ∧ InAll st x.starts ∧ Htt J L' b ad cap l (n + st.length) ∧ Gw J L' 1 3 (.slice sa st.length sc) st.length (st.flatMap encI) ob ∧
   E = [(0, .v (pt b)), (3, .p 0 0), (6, .v (.slice sa st.length sc)), (7, .v (.slice none 0 0)), (8, .v (.int .i64 st.length))] ∧ B = [some ⟨(blL x ⟨p0, p1, p2, p3, p4, c0, c1, c2, c3, c4⟩).map .v, 28⟩])
  ⟨[], none, 0, none, rfl, Nat.zero_le _, (fun i y s hy => by simp at hy), h, Gw.nil, rfl, rfl⟩ (by exact ⟨rfl, rfl, rfl, rfl, rfl, trivial⟩) (by exact ⟨rfl, trivial⟩) ?_
 rintro _ _ _ L1 ⟨st, sa, sc, ob, rfl, hsl, hin, hh, hg, rfl, rfl⟩ again
 refine W.go 99 rfl ?_
 refine W.split rfl rfl rfl (fun e1 => W.go 99 rfl ?_) (fun e1 => W.go 99 rfl ?_)
 ·have hi : st.length < x.starts.length := by have := of_decide_eq_true e1; omega
  obtain ⟨a, ha⟩ := hx.h0.addr hi
  have hx0 : SlAt J p0 2 encSp x.starts := hx.h0
  have ha : p0 = some a := ha
  subst ha
  have hsi := List.getElem?_eq_getElem hi
  have hsb := hs _ (List.getElem_mem hi)
  generalize x.starts[st.length] = s at hsi hsb
  refine W.drawn (by kernel_rfl) J hh.le ?_
  refine DD.run' [0, 1, 2, 3, 4, 8, 9, 10] rfl ?_
  refine DD.vf 5 rfl rfl rfl rfl rfl (Vf.idx rfl rfl rfl rfl rfl rfl (hi)) ?_
  refine DD.vf 11 rfl rfl rfl rfl rfl (Vf.idx rfl rfl rfl rfl rfl rfl (hi)) ?_
  refine DD.run' [6, 12] rfl ?_
  refine DD.vf 7 rfl rfl rfl rfl rfl (Vf.load rfl rfl rfl (span_lo hx0 hsi)) ?_
  refine DD.vf 13 rfl rfl rfl rfl rfl (Vf.load rfl rfl rfl (span_hi hx0 hsi)) ?_
  refine DD.act 14 rfl rfl rfl rfl rfl (Ef.call rfl (From_h s.lo s.hi hh (by omega) hl (by omega) (by omega) (by omega))) ((by rintro _ _ _ ⟨_, rfl, rfl, _, _, _, _, hq⟩; exact ⟨hq.h.le, rfl, .inl rfl⟩)) ?_
  rintro _ _ _ ⟨_, rfl, rfl, y, rfl, hy1, hy2, hq⟩
  have hg1 := hg.hat hh (by decide) hq.k
  have hh1 := hq.h
  clear hq
  refine DD.run' [15] rfl ?_
  refine DD.act 16 rfl rfl rfl rfl rfl (Ef.growA (len := st.length) (m := 1) (vs := encI y) rfl rfl rfl rfl rfl rfl rfl rfl rfl (encI_sg _) hg1.o (.own rfl rfl rfl rfl) (by omega)) ((by rintro _ _ _ ⟨_, _, rfl, rfl, hw, hc⟩; exact ⟨(app_rest hg1 hh1 (by decide) hw hc).2.1.le, rfl, .inl rfl⟩)) ?_
  rintro _ _ _ ⟨v2, ob2, rfl, rfl, ho2, hc2⟩
  obtain ⟨sa', sc', rfl, hg2, hh2, _⟩ := grow_step hg1 hh1 (by decide) ho2 hc2
  clear hg1 hh1 ho2 hc2
  refine DD.run' [17] rfl ?_
  refine .fin rfl ?_
  refine W.go 99 rfl ?_
  have e1 : (st ++ [y]).length = st.length + 1 := by simp
  exact W.again (again (x.starts.length - (st.length + 1)) _ _ _ (by omega) ⟨st ++ [y], sa', sc', ob2, by rw [e1], by omega, hin.snoc hsi ⟨hy1, hy2⟩, by rw [e1]; exact hh2, hg2, rfl, rfl⟩) (by rw [e1]; exact ⟨rfl, rfl, rfl, rfl, congrArg some (inc64 (by omega)), trivial⟩) (by exact ⟨rfl, trivial⟩)
 ·have hle : st.length = x.starts.length := by have := of_decide_eq_false e1; omega
  clear again e1
  obtain ⟨_, hsS, hcS⟩ := hg.at_but hh (by decide) encI_len
  have hJ1 := hh.but
  have hh1 := hh.all
  have hx1 := hx.le hJ1
  clear hg hh
  generalize hJe : L1.but b = J1 at hsS hJ1 hh1 hx1
  clear hJe
  refine W.loop (fun w E B L' => ∃ (ht : List Int) (ha : Option Addr) (hc : Nat) (ob : Option Nat), w = x.heats.length - ht.length ∧ ht.length ≤ x.heats.length ∧ InAll ht x.heats ∧ Htt J1 L' b ad cap l (n + st.length + ht.length) ∧ Gw J1 L' 1 3 (.slice ha ht.length hc) ht.length (ht.flatMap encI) ob ∧
    E = [(0, .v (pt b)), (3, .p 0 0), (6, .v (.slice sa st.length sc)), (7, .v (.slice ha ht.length hc)), (9, .v (.int .i64 ht.length))] ∧ B = [some ⟨(blL x ⟨p0, p1, p2, p3, p4, c0, c1, c2, c3, c4⟩).map .v, 28⟩])
   ⟨[], none, 0, none, rfl, Nat.zero_le _, (fun i y s hy => by simp at hy), hh1, Gw.nil, rfl, rfl⟩ (by exact ⟨rfl, rfl, rfl, rfl, rfl, trivial⟩) (by exact ⟨rfl, trivial⟩) ?_
  clear hh1
  rintro _ _ _ L2 ⟨ht, ha, hc, ob, rfl, htl, hhn, hh, hg, rfl, rfl⟩ again
  refine W.go 99 rfl ?_
  refine W.split rfl rfl rfl (fun e1 => W.go 99 rfl ?_) (fun e1 => W.go 99 rfl ?_)
  ·have hi : ht.length < x.heats.length := by have := of_decide_eq_true e1; omega
   obtain ⟨a, ha'⟩ := hx1.h3.addr hi
   have hx0 : SlAt J1 p3 2 encSp x.heats := hx1.h3
   have ha' : p3 = some a := ha'
   subst ha'
   have hsi := List.getElem?_eq_getElem hi
   have hsb := hhb _ (List.getElem_mem hi)
   generalize x.heats[ht.length] = s at hsi hsb
   refine W.drawn (by kernel_rfl) J1 hh.le ?_
   refine DD.run' [0, 1, 2, 3, 4, 8, 9, 10] rfl ?_
   refine DD.vf 5 rfl rfl rfl rfl rfl (Vf.idx rfl rfl rfl rfl rfl rfl (hi)) ?_
   refine DD.vf 11 rfl rfl rfl rfl rfl (Vf.idx rfl rfl rfl rfl rfl rfl (hi)) ?_
   refine DD.run' [6, 12] rfl ?_
   refine DD.vf 7 rfl rfl rfl rfl rfl (Vf.load rfl rfl rfl (span_lo hx0 hsi)) ?_
   refine DD.vf 13 rfl rfl rfl rfl rfl (Vf.load rfl rfl rfl (span_hi hx0 hsi)) ?_
   refine DD.act 14 rfl rfl rfl rfl rfl (Ef.call rfl (From_h s.lo s.hi hh (by omega) hl (by omega) (by omega) (by omega))) ((by rintro _ _ _ ⟨_, rfl, rfl, _, _, _, _, hq⟩; exact ⟨hq.h.le, rfl, .inl rfl⟩)) ?_
   rintro _ _ _ ⟨_, rfl, rfl, y, rfl, hy1, hy2, hq⟩
   have hg1 := hg.hat hh (by decide) hq.k
   have hh1 := hq.h
   clear hq
   refine DD.run' [15] rfl ?_
   refine DD.act 16 rfl rfl rfl rfl rfl (Ef.growA (len := ht.length) (m := 1) (vs := encI y) rfl rfl rfl rfl rfl rfl rfl rfl rfl (encI_sg _) hg1.o (.own rfl rfl rfl rfl) (by omega)) ((by rintro _ _ _ ⟨_, _, rfl, rfl, hw, hc⟩; exact ⟨(app_rest hg1 hh1 (by decide) hw hc).2.1.le, rfl, .inl rfl⟩)) ?_
   rintro _ _ _ ⟨v2, ob2, rfl, rfl, ho2, hc2⟩
   obtain ⟨sa', sc', rfl, hg2, hh2, _⟩ := grow_step hg1 hh1 (by decide) ho2 hc2
   clear hg1 hh1 ho2 hc2
   refine DD.run' [17] rfl ?_
   refine .fin rfl ?_
   refine W.go 99 rfl ?_
   have e1 : (ht ++ [y]).length = ht.length + 1 := by simp
   exact W.again (again (x.heats.length - (ht.length + 1)) _ _ _ (by omega) ⟨ht ++ [y], sa', sc', ob2, by rw [e1], by omega, hhn.snoc hsi ⟨hy1, hy2⟩, by rw [e1]; exact hh2, hg2, rfl, rfl⟩) (by rw [e1]; exact ⟨rfl, rfl, rfl, rfl, congrArg some (inc64 (by omega)), trivial⟩) (by exact ⟨rfl, trivial⟩)
  ·have hle2 : ht.length = x.heats.length := by have := of_decide_eq_false e1; omega
   obtain ⟨_, hsH, hcH⟩ := hg.at_but hh (by decide) encI_len
   refine W.ret r rfl rfl ?_
   exact ⟨st, ht, sa, sc, ha, hc, L2.but b, _, rfl, ⟨hle, hin, hle2, hhn⟩, by omega, hJ1.trans hh.but, hh.all, hsS.le hh.but, hsH⟩
end Go.Mz


set_option maxRecDepth 100000
namespace Go.Mz
open Go.Conc Go.Proofs
variable {X : Logic Tryz.prog}
theorem sum_next {l : List Int} {i : Nat} {y : Int} (h : l[i]? = some y) : sumL (l.take (i + 1)) = sumL (l.take i) + y := by
 obtain ⟨hi, rfl⟩ := List.getElem?_eq_some_iff.1 h
 rw [List.take_succ_eq_append_getElem hi]
 unfold sumL
 rw [List.foldl_append]; rfl
theorem getD_of {α : Type} {l : List α} {i : Nat} {x d : α} (h : l[i]? = some x) : l.getD i d = x := by rw [List.getD_eq_getElem?_getD, h]; rfl
theorem ThickOf_t (x : Bl) (p : BP) (st hs : List Int) (sa ha : Option Addr) (sc hc : Nat) (pan t : Nat) (L : LH) (hx : BlAt L x p) (hst : IntsAt L sa st) (hhs : IntsAt L ha hs) (h1 : pan < st.length) (h2 : pan < x.rates.length) (ht : t ≤ hs.length) (h5 : hs.length ≤ 5) (b1 : 0 ≤ st.getD pan 0 ∧ st.getD pan 0 ≤ 40) (b2 : 0 ≤ x.rates.getD pan 0 ∧ x.rates.getD pan 0 ≤ 3) (b3 : ∀ y ∈ hs, 0 ≤ y ∧ y ≤ (4 : Nat)) :
  Sp X 14 [blA x p, .slice sa st.length sc, .slice ha hs.length hc, .int .i64 pan, .int .i64 t] L (fun v L' => v = .int .i64 (st.getD pan 0 + thickB x hs pan t) ∧ L = L') := by
 obtain ⟨p0, p1, p2, p3, p4, c0, c1, c2, c3, c4⟩ := p
 obtain ⟨s, rfl⟩ := hst.addr h1
 have hx1 : IntsAt L p1 x.rates := hx.h1
 obtain ⟨ra, rfl⟩ := hx1.addr h2
 have hsv := List.getElem?_eq_getElem h1
 have hrv := List.getElem?_eq_getElem h2
 rw [getD_of hsv] at b1 ⊢
 unfold thickB
 rw [getD_of hrv] at b2 ⊢
 generalize st[pan] = s0 at hsv b1 ⊢
 generalize x.rates[pan] = r0 at hrv b2 ⊢
 refine Sp.enter (n := 35) Tryz.func14 rfl rfl rfl rfl fun C hX _ hL0 r => ?_
 refine W.go 99 rfl ?_
 refine W.vf rfl rfl rfl rfl (Vf.idx1 rfl rfl rfl rfl rfl rfl rfl (h1)) ?_
 refine W.go 99 rfl ?_
 refine W.vf rfl rfl rfl rfl (Vf.load rfl rfl rfl (hst.int hsv)) ?_
 refine W.go 99 rfl ?_
 refine W.loop (fun w E B L' => ∃ i : Nat, w = t - i ∧ i ≤ t ∧ L = L' ∧ E = [(2, .v (.slice ha hs.length hc)), (3, .v (.int .i64 pan)), (4, .v (.int .i64 t)), (5, .p 0 0), (11, .v (.int .i64 (s0 + r0 * sumL (hs.take i)))), (12, .v (.int .i64 i))] ∧ B = [some ⟨(blL x ⟨p0, some ra, p2, p3, p4, c0, c1, c2, c3, c4⟩).map .v, 28⟩])
  ⟨0, rfl, Nat.zero_le _, rfl, rfl, rfl⟩ (by exact ⟨rfl, rfl, rfl, rfl, congrArg (fun z => some (SV.v (Value.int .i64 z))) (by show s0 = s0 + r0 * 0; omega), rfl, trivial⟩) (by exact ⟨rfl, trivial⟩) ?_
 rintro _ _ _ _ ⟨i, rfl, hi, rfl, rfl, rfl⟩ again
 have hsum := sumL_bk 4 (hs.take i) fun y hy => b3 y (List.mem_of_mem_take hy)
 rw [List.length_take, Nat.min_eq_left (by omega)] at hsum
 refine W.go 99 rfl ?_
 refine W.split rfl rfl rfl (fun e1 => W.go 99 rfl ?_) (fun e1 => W.go 99 rfl ?_)
 ·have hit : i < t := by have := of_decide_eq_true e1; omega
  have hih : i < hs.length := by omega
  obtain ⟨a, rfl⟩ := hhs.addr hih
  have hv := List.getElem?_eq_getElem hih
  have hb := b3 _ (List.getElem_mem hih)
  have hnx := sum_next hv
  generalize hs[i] = y at hv hb hnx
  refine W.drawn (by kernel_rfl) _ (Le.refl _) ?_
  refine DD.run' [0, 1, 2, 3, 6, 7] rfl ?_
  refine DD.vf 4 rfl rfl rfl rfl rfl (Vf.idx1 rfl rfl rfl rfl rfl rfl rfl (h2)) ?_
  refine DD.vf 8 rfl rfl rfl rfl rfl (Vf.idx1 rfl rfl rfl rfl rfl rfl rfl (hih)) ?_
  refine DD.vf 5 rfl rfl rfl rfl rfl (Vf.load rfl rfl rfl (hx1.int hrv)) ?_
  refine DD.vf 9 rfl rfl rfl rfl rfl (Vf.load rfl rfl rfl (hhs.int hv)) ?_
  refine DD.run' [10, 11, 12] rfl ?_
  refine .fin rfl ?_
  refine W.go 99 rfl ?_
  have hm1 : 0 ≤ r0 * y ∧ r0 * y ≤ 12 := ⟨Int.mul_nonneg b2.1 hb.1, Int.le_trans (Int.mul_le_mul b2.2 hb.2 hb.1 (by decide)) (by decide)⟩
  have hm2 : 0 ≤ r0 * sumL (hs.take i) ∧ r0 * sumL (hs.take i) ≤ 3 * 20 := ⟨Int.mul_nonneg b2.1 hsum.1, Int.mul_le_mul b2.2 (by omega) hsum.1 (by decide)⟩
  exact W.again (again _ _ _ _ (by omega) ⟨i + 1, rfl, hit, rfl, rfl, rfl⟩) (by exact ⟨rfl, rfl, rfl, rfl, congrArg (fun z => some (SV.v (Value.int .i64 z))) (by rw [hnx, Int.mul_add, wrap64_in (r0 * y) (by omega) (by omega), wrap64_in _ (by omega) (by omega), Int.add_assoc]), congrArg some (inc64 (by omega)), trivial⟩) (by exact ⟨rfl, trivial⟩)
 ·have hit : i = t := by have := of_decide_eq_false e1; omega
  subst hit
  exact W.ret r rfl rfl ⟨rfl, rfl⟩
theorem ThreadOf_t (x : Bl) (p : BP) (t : Int) (L : LH) (hx : BlAt L x p) (h5 : x.marks.length ≤ 5) : Sp X 13 [blA x p, .int .i64 t] L (fun v L' => v = .int .i64 (threadB x t : Nat) ∧ L = L') := by
 obtain ⟨p0, p1, p2, p3, p4, c0, c1, c2, c3, c4⟩ := p
 have hx2 : IntsAt L p2 x.marks := hx.h2
 refine Sp.enter (n := 24) Tryz.func13 rfl rfl rfl rfl fun C hX _ hL0 r => ?_
 refine W.go 99 rfl ?_
 refine W.loop (fun w E B L' => ∃ i : Nat, w = x.marks.length - i ∧ i ≤ x.marks.length ∧ L = L' ∧ E = [(1, .v (.int .i64 t)), (2, .p 0 0), (5, .v (.int .i64 ((x.marks.take i).countP fun m => decide (m ≤ t) : Nat))), (6, .v (.int .i64 i))] ∧ B = [some ⟨(blL x ⟨p0, p1, p2, p3, p4, c0, c1, c2, c3, c4⟩).map .v, 28⟩])
  ⟨0, rfl, Nat.zero_le _, rfl, rfl, rfl⟩ (by exact ⟨rfl, rfl, rfl, rfl, trivial⟩) (by exact ⟨rfl, trivial⟩) ?_
 rintro _ _ _ _ ⟨i, rfl, hi, rfl, rfl, rfl⟩ again
 have hcl : (x.marks.take i).countP (fun m => decide (m ≤ t)) ≤ 5 := Nat.le_trans List.countP_le_length (by rw [List.length_take]; omega)
 refine W.go 99 rfl ?_
 refine W.split rfl rfl rfl (fun e1 => W.go 99 rfl ?_) (fun e1 => W.go 99 rfl ?_)
 ·have hit : i < x.marks.length := by have := of_decide_eq_true e1; omega
  obtain ⟨a, rfl⟩ := hx2.addr hit
  have hv := List.getElem?_eq_getElem hit
  have hnx : (x.marks.take (i + 1)).countP (fun m => decide (m ≤ t)) = (x.marks.take i).countP (fun m => decide (m ≤ t)) + if decide (x.marks[i] ≤ t) = true then 1 else 0 := by
   rw [List.take_succ_eq_append_getElem hit, List.countP_append, List.countP_singleton]
  generalize x.marks[i] = y at hv hnx
  generalize (x.marks.take i).countP (fun m => decide (m ≤ t)) = n at hcl hnx ⊢
  refine W.vf rfl rfl rfl rfl (Vf.idx1 rfl rfl rfl rfl rfl rfl rfl (hit)) ?_
  refine W.go 99 rfl ?_
  refine W.vf rfl rfl rfl rfl (Vf.load rfl rfl rfl (hx2.int hv)) ?_
  refine W.go 99 rfl ?_
  refine W.split rfl rfl rfl (fun c2 => ?_) (fun c2 => ?_)
  ·rw [if_pos c2] at hnx
   refine W.go 99 rfl ?_
   exact W.again (again _ _ _ _ (by omega) ⟨i + 1, rfl, hit, rfl, rfl, rfl⟩) (by rw [hnx]; exact ⟨rfl, rfl, congrArg some (inc64 (by omega)), congrArg some (inc64 (by omega)), trivial⟩) (by exact ⟨rfl, trivial⟩)
  ·rw [if_neg (by rw [c2]; decide)] at hnx
   refine W.go 99 rfl ?_
   exact W.again (again _ _ _ _ (by omega) ⟨i + 1, rfl, hit, rfl, rfl, rfl⟩) (by rw [hnx]; exact ⟨rfl, rfl, rfl, congrArg some (inc64 (by omega)), trivial⟩) (by exact ⟨rfl, trivial⟩)
 ·have hit : i = x.marks.length := by have := of_decide_eq_false e1; omega
  subst hit
  exact W.ret r rfl rfl ⟨by rw [List.take_length]; rfl, rfl⟩
end Go.Mz


set_option maxRecDepth 100000
namespace Go.Mz
open Go.Conc Go.Proofs
variable {X : Logic Tryz.prog}
theorem threadB_le {x : Bl} {m0 m1 m2 t : Int} (hm : x.marks = [m0, m1, m2]) : threadB x t ≤ 3 := by
 unfold threadB
 have := List.countP_le_length (p := fun m => decide (m ≤ t)) (l := x.marks)
 rw [hm] at this ⊢
 exact this
theorem BoilM.run {x : Bl} {pans ticks : Nat} {st hs : List Int} (h : BoilM x pans ticks) (r : RunOk x st hs) : (∀ i, i < st.length → 0 ≤ st.getD i 0 ∧ st.getD i 0 ≤ 40) ∧ ∀ y ∈ hs, 0 ≤ y ∧ y ≤ (4 : Nat) := by
 refine ⟨fun i hi => ?_, fun y hy => ?_⟩
 ·have hv := List.getElem?_eq_getElem hi
  have hi2 : i < x.starts.length := by have := r.xl; omega
  have := r.xi i _ _ hv (List.getElem?_eq_getElem hi2)
  have hb := h.sb _ (List.getElem_mem hi2)
  rw [getD_of hv]
  unfold inS at this
  omega
 ·obtain ⟨i, hi, rfl⟩ := List.getElem_of_mem hy
  have hi2 : i < x.heats.length := by have := r.hl; omega
  have := r.hi i _ _ (List.getElem?_eq_getElem hi) (List.getElem?_eq_getElem hi2)
  have hb := h.hb _ (List.getElem_mem hi2)
  unfold inS at this
  omega
structure PrfR (x : Bl) (st hs : List Int) (q : Prf) : Prop where
 r : rightP x st hs q
 e : proofE x q = 0
 p0 : 0 ≤ q.pan ∧ q.pan < x.starts.length
 t0 : 0 ≤ q.tick ∧ q.tick ≤ x.heats.length
 h0 : 0 ≤ q.thread ∧ q.thread ≤ 3
theorem thick_bd2 {x : Bl} {hs : List Int} {pan t : Nat} (b2 : 0 ≤ x.rates.getD pan 0 ∧ x.rates.getD pan 0 ≤ 3) (b3 : ∀ y ∈ hs, 0 ≤ y ∧ y ≤ (4 : Nat)) (h5 : hs.length ≤ 5) : 0 ≤ thickB x hs pan t ∧ thickB x hs pan t ≤ 60 := by
 have hsum := sumL_bk 4 (hs.take t) fun y hy => b3 y (List.mem_of_mem_take hy)
 have hl : (hs.take t).length ≤ 5 := by rw [List.length_take]; omega
 unfold thickB
 exact ⟨Int.mul_nonneg b2.1 hsum.1, Int.le_trans (Int.mul_le_mul b2.2 (show sumL (hs.take t) ≤ 20 by omega) hsum.1 (by decide)) (by decide)⟩
theorem ProofOf_t (J L : LH) (b : Nat) (ad : Option Addr) (cap : Nat) (l : List Int) (n pans ticks : Nat) (x x0 : Bl) (p : BP) (st hs : List Int) (sa ha : Option Addr) (sc hc : Nat) (h : Htt J L b ad cap l n) (hx : BlAt J x p) (hn : n ≤ 900000) (hl : l.length ≤ 140737488355328) (hm : BoilM x0 pans ticks) (hx0 : x = { x0 with proofs := x.proofs }) (hp3 : pans ≤ 3) (ht5 : ticks ≤ 5) (hr : RunOk x0 st hs) (hst : IntsAt J sa st) (hhs : IntsAt J ha hs) :
  Sp X 50 [pt b, blA x p, .slice sa st.length sc, .slice ha hs.length hc] L (fun v L' => ∃ q, v = .agg (encPr q).toArray ∧ PrfR x0 st hs q ∧ Htt J L' b ad cap l (n + 2) ∧ ∀ y, y ≠ b → L' y = L y) := by
 obtain ⟨p0, p1, p2, p3, p4, c0, c1, c2, c3, c4⟩ := p
 have s1 := hm.s1
 obtain ⟨m0, m1, m2, hmk, hm0, hm1, hm2, hm3⟩ := hm.mrk
 have s2 := hm.s2
 have h1 := hm.h1
 have h2 := hm.h2
 have exs : x.starts = x0.starts := by rw [hx0]
 have exh : x.heats = x0.heats := by rw [hx0]
 have exr : x.rates = x0.rates := by rw [hx0]
 have exm : x.marks = x0.marks := by rw [hx0]
 have exl : x.starts.length = x0.starts.length := by rw [exs]
 have ehl : x.heats.length = x0.heats.length := by rw [exh]
 have erl : x.rates.length = x0.rates.length := by rw [exr]
 have eml : x.marks.length = 3 := by rw [exm, hmk]; rfl
 have eth : ∀ i t, thickB x hs i t = thickB x0 hs i t := fun i t => by rw [hx0]; rfl
 have etd : ∀ t, threadB x t = threadB x0 t := fun t => by rw [hx0]; rfl
 obtain ⟨rb1, rb2⟩ := hm.run hr
 have hxl := hr.xl
 have hhl := hr.hl
 have hrl := hm.rl
 refine Sp.enter (n := 34) Tryz.func50 rfl rfl rfl rfl fun C hX _ hL0 r => ?_
 refine W.go 99 rfl ?_
 refine W.drawn (by kernel_rfl) J h.le ?_
 refine DD.run' [0, 1, 2, 3, 4, 6, 7, 8, 9, 12] rfl ?_
 have hw : IntKind.i64.wrap ((x.starts.length : Int) - 1) = ((x.starts.length - 1 : Nat) : Int) := by
  rw [wrap64_in _ (by omega) (by omega)]; omega
 rw [hw]
 refine DD.act 5 rfl rfl rfl rfl rfl (Ef.call rfl (To_h (x.starts.length - 1) h (by omega) hl (by omega))) ((by rintro _ _ _ ⟨_, rfl, rfl, _, _, _, hq⟩; exact ⟨hq.h.le, rfl, .inl rfl⟩)) ?_
 rintro _ _ _ ⟨_, rfl, rfl, pan, rfl, hpan, hq⟩
 have hh1 := hq.h
 have hk1 := hq.k
 clear hq
 refine DD.act 10 rfl rfl rfl rfl rfl (Ef.call rfl (To_h x.heats.length hh1 (by omega) hl (by omega))) ((by rintro _ _ _ ⟨_, rfl, rfl, _, _, _, hq⟩; exact ⟨hq.h.le, rfl, .inl rfl⟩)) ?_
 rintro _ _ _ ⟨_, rfl, rfl, tick, rfl, htick, hq⟩
 have hh2 := hq.h
 have hk2 := hq.k
 clear hq
 refine DD.run' [11] rfl ?_
 refine DD.act 13 rfl rfl rfl rfl rfl (Ef.sto rfl) ((by rintro _ _ _ ⟨rfl, rfl, rfl⟩; exact ⟨hh2.le, rfl, .inl rfl⟩)) ?_
 rintro _ _ _ ⟨rfl, rfl, rfl⟩
 refine .fin rfl ?_
 refine W.go 99 rfl ?_
 have hx3 := hx.le hh2.le
 have hp : pan < st.length := by omega
 have hrp : pan < x.rates.length := by omega
 have b2 : 0 ≤ x.rates.getD pan 0 ∧ x.rates.getD pan 0 ≤ 3 := by
  rw [getD_of (List.getElem?_eq_getElem hrp)]
  have := hm.rb _ (by rw [← exr]; exact List.getElem_mem hrp)
  omega
 refine W.drawn (by kernel_rfl) _ (Le.refl _) ?_
 refine DD.run' [0, 1, 2, 3, 4, 5, 6, 7] rfl ?_
 refine DD.act 8 rfl rfl rfl rfl rfl (Ef.call rfl (ThickOf_t x ⟨p0, p1, p2, p3, p4, c0, c1, c2, c3, c4⟩ st hs sa ha sc hc pan tick _ hx3 (hst.le hh2.le) (hhs.le hh2.le) hp hrp (by omega) (by omega) (rb1 _ hp) b2 rb2)) (by rintro _ _ _ ⟨_, rfl, rfl, rfl, rfl⟩; exact ⟨Le.refl _, rfl, .inl rfl⟩) ?_
 rintro _ _ _ ⟨_, rfl, rfl, rfl, rfl⟩
 refine DD.act 9 rfl rfl rfl rfl rfl (Ef.call rfl (ThreadOf_t x ⟨p0, p1, p2, p3, p4, c0, c1, c2, c3, c4⟩ (st.getD pan 0 + thickB x hs pan tick) _ hx3 (by omega))) (by rintro _ _ _ ⟨_, rfl, rfl, rfl, rfl⟩; exact ⟨Le.refl _, rfl, .inl rfl⟩) ?_
 rintro _ _ _ ⟨_, rfl, rfl, rfl, rfl⟩
 refine DD.run' [10] rfl ?_
 refine DD.act 11 rfl rfl rfl rfl rfl (Ef.sto rfl) (by rintro _ _ _ ⟨rfl, rfl, rfl⟩; exact ⟨Le.refl _, rfl, .inr rfl⟩) ?_
 rintro _ _ _ ⟨rfl, rfl, rfl⟩
 refine .fin rfl ?_
 refine W.go 99 rfl ?_
 refine W.ret r rfl rfl ?_
 have htb := thick_bd2 (t := tick) b2 rb2 (by omega)
 have hs0 := rb1 _ hp
 rw [eth, etd] at *
 have hth := threadB_le (t := st.getD pan 0 + thickB x0 hs pan tick) hmk
 refine ⟨⟨pan, tick, (threadB x0 (st.getD pan 0 + thickB x0 hs pan tick) : Nat)⟩, rfl, ⟨?_, ?_, ⟨by show (0 : Int) ≤ (pan : Int); omega, by show (pan : Int) < _; omega⟩, ⟨by show (0 : Int) ≤ (tick : Int); omega, by show (tick : Int) ≤ _; omega⟩, ⟨by show (0 : Int) ≤ ((threadB x0 _ : Nat) : Int); omega, by show ((threadB x0 _ : Nat) : Int) ≤ 3; omega⟩⟩, hh2, fun y hy => by rw [hk2 y hy, hk1 y hy]⟩
 ·show inS (st.getD pan 0 + thickB x0 hs pan tick) (marksB x0 (threadB x0 (st.getD pan 0 + thickB x0 hs pan tick)))
  exact thread_in hmk hm1 hm2 ⟨by omega, by omega⟩ rfl
 ·generalize threadB x0 (st.getD pan 0 + thickB x0 hs pan tick) = k at hth
  have a1 : inB (pan : Int) 0 ((x0.starts.length : Int) - 1) = true := inB_iff.2 ⟨by omega, by omega⟩
  have a2 : inB (tick : Int) 0 (x0.heats.length : Int) = true := inB_iff.2 ⟨by omega, by omega⟩
  have a3 : inB (k : Int) 0 3 = true := inB_iff.2 ⟨by omega, by omega⟩
  show (if (!inB (pan : Int) 0 ((x0.starts.length : Int) - 1) || !inB (tick : Int) 0 (x0.heats.length : Int)) = true then (3 : Int) else if (!inB (k : Int) 0 3) = true then 8 else 0) = 0
  rw [a1, a2, a3]; rfl
theorem Htt.same {J J3 L L' : LH} {b : Nat} {ad : Option Addr} {cap : Nat} {l : List Int} {n m : Nat} (h : Htt J L b ad cap l n) (h3 : Htt J3 L' b ad cap l m) (hk : ∀ y, y ≠ b → L' y = L y) : Htt J L' b ad cap l m :=
 ⟨fun y o hy => by rw [hk y (fun e => by subst e; rw [h.jb] at hy; cases hy)]; exact h.le _ _ hy, h.jb, h3.blk, h.ints⟩
theorem ProvedOf_t (J L : LH) (b : Nat) (ad : Option Addr) (cap : Nat) (l : List Int) (n : Nat) (h : Htt J L b ad cap l n) (hn : n ≤ 800000) (hl : l.length ≤ 140737488355328) :
    Sp X 8 [pt b, .int .i64 2, .int .i64 3] L (fun v L' => ∃ x p st hs sa ha sc hc J' m, v = .tuple #[blA x p, .slice sa st.length sc, .slice ha hs.length hc] ∧ BoilM { x with proofs := [] } 2 3 ∧ x.proofs.length ≤ 3 ∧ RunOk { x with proofs := [] } st hs ∧ (∀ q ∈ x.proofs, PrfR { x with proofs := [] } st hs q) ∧ m ≤ n + 200 ∧ Le J J' ∧ Htt J' L' b ad cap l m ∧ BlAt J' x p ∧ IntsAt J' sa st ∧ IntsAt J' ha hs) := by
  refine Sp.enter (n := 42) Tryz.func8 rfl rfl rfl rfl fun C hX _ hL0 r => ?_
  refine W.go 99 rfl ?_
  refine W.eff rfl rfl rfl (Ef.call rfl (BoilOf_t J L b ad cap l n 2 3 h (by omega) hl (by decide) (by decide) (by decide) (by decide))) ?_
  rintro _ _ _ ⟨_, rfl, rfl, x, p, J1, m, rfl, hM, hm, hJ1, hh, hx, ha4, hc4⟩
  obtain ⟨p0, p1, p2, p3, p4, c0, c1, c2, c3, c4⟩ := p
  obtain ⟨xs, xr, xm, xh, xp⟩ := x
  have ha4 : p4 = none := ha4
  have hc4 : c4 = 0 := hc4
  subst ha4 hc4
  have hp0 : xp = [] := hM.p
  subst hp0
  have s2 := hM.s2
  have h2 := hM.h2
  rename_i L1
  refine W.go 99 rfl ?_
  refine W.eff rfl rfl rfl (Ef.call rfl (RunOf_t J1 L1 b ad cap l m ⟨xs, xr, xm, xh, []⟩ ⟨p0, p1, p2, p3, none, c0, c1, c2, c3, 0⟩ hh hx (by omega) hl (by omega) (by omega) (fun s hs => by have := hM.sb s hs; omega) hM.hb)) ?_
  rintro _ _ _ ⟨_, rfl, rfl, st, hs, sa, sc, ha, hc, J2, m2, rfl, hR, hm2, hJ2, hh2, hsS, hsH⟩
  refine W.go 99 rfl ?_
  refine W.eff rfl rfl rfl (Ef.call rfl (To_h 3 hh2 (by omega) hl (by omega))) ?_
  rintro _ _ _ ⟨_, rfl, rfl, q, rfl, hq3, hq⟩
  have hh3 := hq.h
  clear hq hh2 hh
  have hx2 := hx.le hJ2
  refine W.go 99 rfl ?_
  rename_i L2
  refine W.loop (fun w E B L' => ∃ (i : Nat) (ps : List Prf) (pa : Option Addr) (pc m3 : Nat) (ob : Option Nat), w = i ∧ i + ps.length = q ∧ m3 ≤ m2 + 1 + 2 * ps.length ∧ (∀ z ∈ ps, PrfR ⟨xs, xr, xm, xh, []⟩ st hs z) ∧ Htt J2 L' b ad cap l m3 ∧ Gw J2 L' 3 35 (.slice pa ps.length pc) ps.length (ps.flatMap encPr) ob ∧
      E = [(0, .v (pt b)), (6, .p 0 0), (9, .p 1 0), (10, .v (.slice sa st.length sc)), (11, .v (.slice ha hs.length hc)), (12, .v (.int .i64 i))] ∧ B = [some ⟨ti28.z.cells.toList.map .v, 28⟩, some ⟨[.v (.slice p0 xs.length c0), .v (.slice p1 xr.length c1), .v (.slice p2 xm.length c2), .v (.slice p3 xh.length c3), .v (.slice pa ps.length pc)], 28⟩])
    ⟨q, [], none, 0, _, none, rfl, by simp, by simp, by simp, hh3, Gw.nil, rfl, rfl⟩ (by exact ⟨rfl, rfl, rfl, rfl, rfl, rfl, trivial⟩) (by exact ⟨rfl, rfl, trivial⟩) ?_
  clear hh3
  rintro i _ _ L3 ⟨_, ps, pa, pc, m3, ob, rfl, hiq, hm3, hps, hh, hg, rfl, rfl⟩ again
  refine W.go 99 rfl ?_
  refine W.split rfl rfl rfl (fun e1 => ?_) (fun e1 => ?_)
  · obtain ⟨i, rfl⟩ : ∃ j, i = j + 1 := ⟨i - 1, by have : (0 : Int) < i := by simpa using e1
                                                   omega⟩
    refine W.go 99 rfl ?_
    obtain ⟨_, hsP, hcP⟩ := hg.at_but hh (by decide) encPr_len
    have hJb := hh.but
    have hxb := hx2.le hJb
    have hx3 : BlAt (L3.but b) ⟨xs, xr, xm, xh, ps⟩ ⟨p0, p1, p2, p3, pa, c0, c1, c2, c3, pc⟩ := ⟨hxb.h0, hxb.h1, hxb.h2, hxb.h3, hsP, hxb.n0, hxb.n1, hxb.n2, hxb.n3, by show ps.length ≤ 1000000; omega, hcP⟩
    refine W.drawn (by kernel_rfl) noL (noL_le _) ?_
    refine DD.run' [0, 1, 2, 3, 4, 5] rfl ?_
    refine DD.act 6 rfl rfl rfl rfl rfl (Ef.call rfl (ProofOf_t (L3.but b) L3 b ad cap l m3 2 3 ⟨xs, xr, xm, xh, ps⟩ ⟨xs, xr, xm, xh, []⟩ ⟨p0, p1, p2, p3, pa, c0, c1, c2, c3, pc⟩ st hs sa ha sc hc hh.all hx3 (by omega) hl hM rfl (by decide) (by decide) hR (hsS.le hJb) (hsH.le hJb))) (by rintro _ _ _ ⟨_, rfl, rfl, _⟩; exact ⟨noL_le _, rfl, .inl rfl⟩) ?_
    rintro _ _ _ ⟨_, rfl, rfl, z, rfl, hz, hh4, hk4⟩
    have hh5 := hh.same hh4 hk4
    have hg5 := hg.hat hh (by decide) hk4
    clear hh4 hsP hx3 hxb hJb
    refine DD.run' [7] rfl ?_
    refine DD.act 8 rfl rfl rfl rfl rfl (Ef.growA (len := ps.length) (m := 1) (vs := encPr z) rfl rfl rfl rfl rfl rfl rfl rfl rfl (encPr_sg _) hg5.o (.own rfl rfl rfl rfl) (by omega)) ((by rintro _ _ _ ⟨_, _, rfl, rfl, _⟩; exact ⟨noL_le _, rfl, .inl rfl⟩)) ?_
    rintro _ _ _ ⟨v2, ob2, rfl, rfl, ho2, hc2⟩
    obtain ⟨pa', pc', rfl, hg6, hh6, _⟩ := grow_step hg5 hh5 (by decide) ho2 hc2
    refine DD.run' [9] rfl ?_
    refine DD.act 10 rfl rfl rfl rfl rfl (Ef.sto rfl) (by rintro _ _ _ ⟨rfl, rfl, rfl⟩; exact ⟨noL_le _, rfl, .inr rfl⟩) ?_
    rintro _ _ _ ⟨rfl, rfl, rfl⟩
    refine .fin rfl ?_
    refine W.go 99 rfl ?_
    have e1 : (ps ++ [z]).length = ps.length + 1 := by simp
    exact W.again (again i _ _ _ (by omega) ⟨i, ps ++ [z], pa', pc', _, ob2, rfl, by omega, by omega, fun y hy => by
      rcases List.mem_append.1 hy with hy | hy
      · exact hps y hy
      · rw [List.mem_singleton.1 hy]; exact hz, hh6, hg6, rfl, rfl⟩) (by exact ⟨rfl, rfl, rfl, rfl, rfl, congrArg (fun z => some (SV.v (Value.int .i64 z))) (dec0 (by omega)), trivial⟩) (by rw [e1]; exact ⟨rfl, rfl, trivial⟩)
  · have hi0 : i = 0 := by have : ¬ (0 : Int) < i := by simpa using e1
                           omega
    subst hi0
    clear again
    obtain ⟨_, hsP, hcP⟩ := hg.at_but hh (by decide) encPr_len
    have hJb := hh.but
    have hxb := hx2.le hJb
    refine W.go 99 rfl ?_
    refine W.ret r rfl rfl ?_
    refine ⟨⟨xs, xr, xm, xh, ps⟩, ⟨p0, p1, p2, p3, pa, c0, c1, c2, c3, pc⟩, st, hs, sa, ha, sc, hc, L3.but b, m3, rfl, hM, by show ps.length ≤ 3; omega, hR, hps, by omega, hJ1.trans (hJ2.trans hJb), hh.all, ⟨hxb.h0, hxb.h1, hxb.h2, hxb.h3, hsP, hxb.n0, hxb.n1, hxb.n2, hxb.n3, by show ps.length ≤ 1000000; omega, hcP⟩, hsS.le hJb, hsH.le hJb⟩
end Go.Mz


set_option maxRecDepth 100000
namespace Go.Mz
open Go.Conc Go.Proofs
variable {X : Logic Tryz.prog}
theorem eq88 {a b a' b' : Int} {n : Nat} {Q : Bool → LH → Prop} {H : Value → LH → Prop} {L : LH} : wpS Tryz.prog Q H (Op.equalIn (n + 2) 88 (intsV [a, b]) (intsV [a', b'])) L = Q (a == a' && b == b') L := by
 rw [eqIn_struct Tryz.underlying88 (by kernel_rfl) (fun f hf => ?_) (fun f hf => ?_)]
 ·simp [eqFs]
 all_goals
  simp only [List.mem_cons, List.not_mem_nil, or_false] at hf
  rcases hf with rfl | rfl
  all_goals exact ⟨by decide, Tryz.underlying3, agg3, by simp⟩
theorem eq35 {a b c a' b' c' : Int} {n : Nat} {Q : Bool → LH → Prop} {H : Value → LH → Prop} {L : LH} : wpS Tryz.prog Q H (Op.equalIn (n + 2) 35 (intsV [a, b, c]) (intsV [a', b', c'])) L = Q (a == a' && (b == b' && c == c')) L := by
 rw [eqIn_struct Tryz.underlying35 (by kernel_rfl) (fun f hf => ?_) (fun f hf => ?_)]
 ·simp [eqFs]
 all_goals
  simp only [List.mem_cons, List.not_mem_nil, or_false] at hf
  rcases hf with rfl | rfl | rfl
  all_goals exact ⟨by decide, Tryz.underlying3, agg3, by simp⟩
theorem EqSpans_t (aa ab : Option Addr) (ca cb : Nat) (l : List Spn) (L : LH) (ha : SlAt L aa 2 encSp l) (hb : SlAt L ab 2 encSp l) (hn : l.length ≤ 1000000) : Sp X 61 [.slice aa l.length ca, .slice ab l.length cb] L (fun v L' => v = .bool true ∧ L = L') := by
 refine Sp.enter (n := 32) Tryz.func61 rfl rfl rfl rfl fun C hX _ hL0 r => ?_
 refine W.go 99 rfl ?_
 refine W.loop (fun m E B L' => ∃ i : Nat, m = l.length - i ∧ i ≤ l.length ∧ L = L' ∧ E = [(0, .v (.slice aa l.length ca)), (1, .v (.slice ab l.length cb)), (5, .v (.int .i64 i))] ∧ B = [])
  ⟨0, rfl, by omega, rfl, rfl, rfl⟩ (by exact ⟨rfl, rfl, rfl, trivial⟩) (by exact trivial) ?_
 rintro _ _ _ _ ⟨i, rfl, hi, rfl, rfl, rfl⟩ again
 refine W.go 99 rfl ?_
 refine W.split rfl rfl rfl (fun e1 => W.go 99 rfl ?_) (fun e1 => W.go 99 rfl ?_)
 ·have hil : i < l.length := by have := of_decide_eq_true e1; omega
  have hx := List.getElem?_eq_getElem hil
  obtain ⟨a, rfl⟩ := ha.addr hil
  obtain ⟨b, rfl⟩ := hb.addr hil
  refine W.split rfl rfl rfl (fun _ => ?_) (fun h => absurd h (by simp; omega))
  refine W.go 99 rfl ?_
  generalize l[i] = s at hx
  refine W.drawn (by kernel_rfl) _ (Le.refl _) ?_
  refine DD.run' [0, 1, 4, 5] rfl ?_
  refine DD.vf 2 rfl rfl rfl rfl rfl (Vf.idx rfl rfl rfl rfl rfl rfl (hil)) ?_
  refine DD.vf 3 rfl rfl rfl rfl rfl (Vf.loadN rfl rfl rfl (ha.whole hx rfl)) ?_
  refine DD.vf 6 rfl rfl rfl rfl rfl (Vf.idx rfl rfl rfl rfl rfl rfl (hil)) ?_
  refine DD.vf 7 rfl rfl rfl rfl rfl (Vf.loadN rfl rfl rfl (hb.whole hx rfl)) ?_
  refine DD.vf 8 rfl rfl rfl rfl rfl (Vf.eqS (xs := [s.lo, s.hi]) (ys := [s.lo, s.hi]) (.inr rfl) rfl rfl rfl rfl (by kernel_rfl) (fun n Q H R => eq88 (n := n + 1))) ?_
  refine .fin rfl ?_
  refine W.go 99 rfl ?_
  refine W.split rfl rfl rfl (fun e3 => W.go 99 rfl ?_) (fun e3 => W.go 99 rfl ?_)
  ·exact absurd e3 (by simp [eqC])
  ·exact W.again (again _ _ _ _ (by omega) ⟨i + 1, rfl, by omega, rfl, rfl, rfl⟩) ⟨rfl, rfl, congrArg some (inc64 (by omega)), trivial⟩ trivial
 ·refine W.ret r rfl rfl ?_
  exact ⟨congrArg Value.bool (by simp), rfl⟩
theorem EqWords_t (aa ab : Option Addr) (ca cb : Nat) (l : List Bs) (L : LH) (ha : SlAt L aa 1 encS l) (hb : SlAt L ab 1 encS l) (hn : l.length ≤ 1000000) : Sp X 40 [.slice aa l.length ca, .slice ab l.length cb] L (fun v L' => v = .bool true ∧ L = L') := by
 refine Sp.enter (n := 32) Tryz.func40 rfl rfl rfl rfl fun C hX _ hL0 r => ?_
 refine W.go 99 rfl ?_
 refine W.loop (fun m E B L' => ∃ i : Nat, m = l.length - i ∧ i ≤ l.length ∧ L = L' ∧ E = [(0, .v (.slice aa l.length ca)), (1, .v (.slice ab l.length cb)), (5, .v (.int .i64 i))] ∧ B = [])
  ⟨0, rfl, by omega, rfl, rfl, rfl⟩ (by exact ⟨rfl, rfl, rfl, trivial⟩) (by exact trivial) ?_
 rintro _ _ _ _ ⟨i, rfl, hi, rfl, rfl, rfl⟩ again
 refine W.go 99 rfl ?_
 refine W.split rfl rfl rfl (fun e1 => W.go 99 rfl ?_) (fun e1 => W.go 99 rfl ?_)
 ·have hil : i < l.length := by have := of_decide_eq_true e1; omega
  have hx := List.getElem?_eq_getElem hil
  obtain ⟨a, rfl⟩ := ha.addr hil
  obtain ⟨b, rfl⟩ := hb.addr hil
  refine W.split rfl rfl rfl (fun _ => ?_) (fun h => absurd h (by simp; omega))
  refine W.go 99 rfl ?_
  generalize l[i] = s at hx
  refine W.drawn (by kernel_rfl) _ (Le.refl _) ?_
  refine DD.run' [0, 1, 4, 5] rfl ?_
  refine DD.vf 2 rfl rfl rfl rfl rfl (Vf.idx1 rfl rfl rfl rfl rfl rfl rfl (hil)) ?_
  refine DD.vf 6 rfl rfl rfl rfl rfl (Vf.idx1 rfl rfl rfl rfl rfl rfl rfl (hil)) ?_
  refine DD.vf 3 rfl rfl rfl rfl rfl (Vf.load rfl rfl rfl (str_at ha hx)) ?_
  refine DD.vf 7 rfl rfl rfl rfl rfl (Vf.load rfl rfl rfl (str_at hb hx)) ?_
  refine DD.run' [8] rfl ?_
  refine .fin rfl ?_
  refine W.go 99 rfl ?_
  refine W.split rfl rfl rfl (fun e3 => W.go 99 rfl ?_) (fun e3 => W.go 99 rfl ?_)
  ·exact absurd e3 (by
    show ¬ (!eqB s s) = true
    have : eqB s s = true := by rw [eqB_eq]; simp
    rw [this]; decide)
  ·exact W.again (again _ _ _ _ (by omega) ⟨i + 1, rfl, by omega, rfl, rfl, rfl⟩) ⟨rfl, rfl, congrArg some (inc64 (by omega)), trivial⟩ trivial
 ·refine W.ret r rfl rfl ?_
  exact ⟨congrArg Value.bool (by simp), rfl⟩
theorem EqBoils_t (x : Bl) (p q : BP) (L : LH) (hp : BlAt L x p) (hq : BlAt L x q) : Sp X 20 [blA x p, blA x q] L (fun v L' => v = .bool true ∧ L = L') := by
 have n0 := hp.n0
 have n1 := hp.n1
 have n2 := hp.n2
 have n3 := hp.n3
 have n4 := hp.n4
 refine Sp.enter (n := 63) Tryz.func20 rfl rfl rfl rfl fun C hX _ hL0 r => ?_
 refine W.go 99 rfl ?_
 refine W.eff rfl rfl rfl (Ef.call rfl (EqSpans_t p.a0 q.a0 p.c0 q.c0 x.starts _ hp.h0 hq.h0 n0)) ?_
 rintro _ _ _ ⟨_, rfl, rfl, rfl, rfl⟩
 refine W.go 99 rfl ?_
 refine W.split rfl rfl rfl (fun c => absurd c (by decide)) (fun c => ?_)
 refine W.go 99 rfl ?_
 refine W.eff rfl rfl rfl (Ef.call rfl (EqInts_sp p.a1 q.a1 p.c1 q.c1 x.rates x.rates _ hp.h1 hq.h1 n1 n1)) ?_
 rintro _ _ _ ⟨_, rfl, rfl, rfl, rfl⟩
 rw [decide_eq_true rfl]
 refine W.go 99 rfl ?_
 refine W.split rfl rfl rfl (fun c => absurd c (by decide)) (fun c => ?_)
 refine W.go 99 rfl ?_
 refine W.eff rfl rfl rfl (Ef.call rfl (EqInts_sp p.a2 q.a2 p.c2 q.c2 x.marks x.marks _ hp.h2 hq.h2 n2 n2)) ?_
 rintro _ _ _ ⟨_, rfl, rfl, rfl, rfl⟩
 rw [decide_eq_true rfl]
 refine W.go 99 rfl ?_
 refine W.split rfl rfl rfl (fun c => absurd c (by decide)) (fun c => ?_)
 refine W.go 99 rfl ?_
 refine W.eff rfl rfl rfl (Ef.call rfl (EqSpans_t p.a3 q.a3 p.c3 q.c3 x.heats _ hp.h3 hq.h3 n3)) ?_
 rintro _ _ _ ⟨_, rfl, rfl, rfl, rfl⟩
 refine W.go 99 rfl ?_
 refine W.split rfl rfl rfl (fun c => absurd c (by decide)) (fun c => ?_)
 refine W.go 99 rfl ?_
 refine W.split rfl rfl rfl (fun h => absurd h (by simp)) (fun _ => ?_)
 refine W.go 99 rfl ?_
 have hwa := hp.h4
 have hwb := hq.h4
 obtain ⟨p0, p1, p2, p3, p4, c0, c1, c2, c3, c4⟩ := p
 obtain ⟨q0, q1, q2, q3, q4, d0, d1, d2, d3, d4⟩ := q
 refine W.loop (fun m E B L' => ∃ i : Nat, m = x.proofs.length - i ∧ i ≤ x.proofs.length ∧ L = L' ∧ E = [(2, .p 0 0), (3, .p 1 0), (5, .v (.int .i64 i))] ∧ B = [some ⟨(blL x ⟨p0, p1, p2, p3, p4, c0, c1, c2, c3, c4⟩).map .v, 28⟩, some ⟨(blL x ⟨q0, q1, q2, q3, q4, d0, d1, d2, d3, d4⟩).map .v, 28⟩])
  ⟨0, rfl, by omega, rfl, rfl, rfl⟩ (by exact ⟨rfl, rfl, rfl, trivial⟩) (by exact ⟨rfl, rfl, trivial⟩) ?_
 rintro _ _ _ _ ⟨i, rfl, hi, rfl, rfl, rfl⟩ again
 refine W.go 99 rfl ?_
 refine W.split rfl rfl rfl (fun e1 => W.go 99 rfl ?_) (fun e1 => W.go 99 rfl ?_)
 ·have hil : i < x.proofs.length := by have := of_decide_eq_true e1; omega
  have hx := List.getElem?_eq_getElem hil
  obtain ⟨aa, hwa'⟩ := hwa.addr hil
  obtain ⟨ab, hwb'⟩ := hwb.addr hil
  simp only at hwa' hwb'
  subst hwa' hwb'
  generalize x.proofs[i] = s at hx
  refine W.drawn (by kernel_rfl) _ (Le.refl _) ?_
  refine DD.run' [0, 1, 2, 5, 6, 7] rfl ?_
  refine DD.vf 3 rfl rfl rfl rfl rfl (Vf.idx rfl rfl rfl rfl rfl rfl (hil)) ?_
  refine DD.vf 4 rfl rfl rfl rfl rfl (Vf.loadN rfl rfl rfl (hwa.whole hx rfl)) ?_
  refine DD.vf 8 rfl rfl rfl rfl rfl (Vf.idx rfl rfl rfl rfl rfl rfl (hil)) ?_
  refine DD.vf 9 rfl rfl rfl rfl rfl (Vf.loadN rfl rfl rfl (hwb.whole hx rfl)) ?_
  refine DD.vf 10 rfl rfl rfl rfl rfl (Vf.eqS (xs := [s.pan, s.tick, s.thread]) (ys := [s.pan, s.tick, s.thread]) (.inr rfl) rfl rfl rfl rfl (by kernel_rfl) (fun n Q H R => eq35 (n := n + 1))) ?_
  refine .fin rfl ?_
  refine W.go 99 rfl ?_
  refine W.split rfl rfl rfl (fun e3 => W.go 99 rfl ?_) (fun e3 => W.go 99 rfl ?_)
  ·exact absurd e3 (by simp [eqC])
  ·exact W.again (again _ _ _ _ (by omega) ⟨i + 1, rfl, by omega, rfl, rfl, rfl⟩) ⟨rfl, rfl, congrArg some (inc64 (by omega)), trivial⟩ ⟨rfl, rfl, trivial⟩
 ·exact W.ret r rfl rfl ⟨rfl, rfl⟩
end Go.Mz


set_option maxRecDepth 100000
namespace Go.Mz
open Go.Conc Go.Proofs
variable {X : Logic Tryz.prog}
theorem DupSpans_t (ad : Option Addr) (c : Nat) (l : List Spn) (L : LH) (h : SlAt L ad 2 encSp l) (hn : l.length ≤ 1000000) : Sp X 52 [.slice ad l.length c] L (NewSl L 2 encSp l) := by
 refine Sp.enter (n := 6) Tryz.func52 rfl rfl rfl rfl fun C hX _ hL0 r => ?_
 refine W.go 99 rfl ?_
 refine W.pub 3 (.inr ⟨_, _, _, rfl⟩) rfl rfl ?_
 intro b hb _
 refine W.eff rfl rfl rfl (Ef.grow rfl rfl rfl rfl rfl rfl rfl rfl rfl encSp_len encSp_sg (Grow.new (Le.put hb _) (put_same _ _ _) hb) (ls := l) (.sl (h.le (Le.put hb _)) encSp_len rfl) (by simp; omega)) ?_
 rintro _ _ _ ⟨v', rfl, rfl, hg', _⟩
 refine W.go 99 rfl ?_
 refine W.ret r rfl rfl ?_
 exact hg'.new_sl encSp_len
theorem DupIntsN_t (ad : Option Addr) (c : Nat) (l : List Int) (L : LH) (h : IntsAt L ad l) (hn : l.length ≤ 1000000) : Sp X 53 [.slice ad l.length c] L (NewSl L 1 encI l) := (DupInts_sp ad c l L h hn).mono (fun _ _ h => h.new_sl encI_len) fun _ _ h => h
theorem DupBoil_t (x : Bl) (p : BP) (L : LH) (h : BlAt L x p) : Sp X 10 [blA x p] L (fun v L' => ∃ p', v = blA x p' ∧ Le L L' ∧ BlAt L' x p') := by
 have n0 := h.n0
 have n1 := h.n1
 have n2 := h.n2
 have n3 := h.n3
 have n4 := h.n4
 refine Sp.enter (n := 20) Tryz.func10 rfl rfl rfl rfl fun C hX _ hL0 r => ?_
 refine W.go 99 rfl ?_
 refine W.drawn (by kernel_rfl) _ (Le.refl _) ?_
 refine DD.run' [0, 1, 3, 4, 6, 7, 9, 10, 12, 13, 14] rfl ?_
 refine DD.act 2 rfl rfl rfl rfl rfl (Ef.call rfl (DupSpans_t p.a0 p.c0 x.starts L h.h0 n0)) ((by rintro _ _ _ ⟨_, rfl, rfl, _, _, rfl, hl, _⟩; exact ⟨hl, rfl, .inl rfl⟩)) ?_
 rintro _ _ _ ⟨_, rfl, rfl, a0, c0, rfl, hl0, hs0, hc0⟩
 refine DD.act 5 rfl rfl rfl rfl rfl (Ef.call rfl (DupIntsN_t p.a1 p.c1 x.rates _ (h.h1.le hl0) n1)) ((by rintro _ _ _ ⟨_, rfl, rfl, _, _, rfl, hl, _⟩; exact ⟨hl0.trans hl, rfl, .inl rfl⟩)) ?_
 rintro _ _ _ ⟨_, rfl, rfl, a1, c1, rfl, hl1, hs1, hc1⟩
 have m1 := hl0.trans hl1
 refine DD.act 8 rfl rfl rfl rfl rfl (Ef.call rfl (DupIntsN_t p.a2 p.c2 x.marks _ (h.h2.le m1) n2)) ((by rintro _ _ _ ⟨_, rfl, rfl, _, _, rfl, hl, _⟩; exact ⟨m1.trans hl, rfl, .inl rfl⟩)) ?_
 rintro _ _ _ ⟨_, rfl, rfl, a2, c2, rfl, hl2, hs2, hc2⟩
 have m2 := m1.trans hl2
 refine DD.act 11 rfl rfl rfl rfl rfl (Ef.call rfl (DupSpans_t p.a3 p.c3 x.heats _ (h.h3.le m2) n3)) ((by rintro _ _ _ ⟨_, rfl, rfl, _, _, rfl, hl, _⟩; exact ⟨m2.trans hl, rfl, .inl rfl⟩)) ?_
 rintro _ _ _ ⟨_, rfl, rfl, a3, c3, rfl, hl3, hs3, hc3⟩
 have m3 := m2.trans hl3
 have hp := h.h4.le m3
 refine DD.act 15 rfl rfl rfl rfl rfl (Ef.pub 15 (.inr ⟨_, _, _, rfl⟩) rfl rfl (fun b9 hb9 _ => Ef.grow rfl rfl rfl rfl rfl rfl rfl rfl rfl encPr_len encPr_sg (Grow.new (Le.put hb9 _) (put_same _ _ _) hb9) (ls := x.proofs) (.sl (hp.le (Le.put hb9 _)) encPr_len rfl) (by simp; omega))) (by rintro _ _ _ ⟨b9, hb9, _, _, rfl, rfl, hg, _⟩; exact ⟨m3.trans hg.1, rfl, .inl rfl⟩) ?_
 rintro _ _ _ ⟨b9, hb9, _, v4, rfl, rfl, hg4, _⟩
 rw [List.nil_append] at hg4
 obtain ⟨a4, c4, rfl, hc4⟩ := hg4.slice
 refine DD.run' [16] rfl ?_
 refine DD.act 17 rfl rfl rfl rfl rfl (Ef.sto rfl) ((by rintro _ _ _ ⟨rfl, rfl, rfl⟩; exact ⟨m3.trans hg4.1, rfl, .inr rfl⟩)) ?_
 rintro _ _ _ ⟨rfl, rfl, rfl⟩
 refine .fin rfl ?_
 refine W.ret r rfl rfl ?_
 have g4 := hg4.1
 exact ⟨⟨a0, a1, a2, a3, a4, c0, c1, c2, c3, c4⟩, rfl, m3.trans g4, hs0.le (hl1.trans (hl2.trans (hl3.trans g4))), hs1.le (hl2.trans (hl3.trans g4)), hs2.le (hl3.trans g4), hs3.le g4, (hg4.at encPr_len).2, n0, n1, n2, n3, n4, hc4⟩
end Go.Mz


set_option maxRecDepth 100000
namespace Go.Mz
open Go.Conc Go.Proofs
variable {X : Logic Tryz.prog}
def d10 : Bs := [48, 49, 50, 51, 52, 53, 54, 55, 56, 57]
def digB (d : Nat) : Bs := (d10.drop d).take (d + 1 - d)
theorem itoa_dig : ∀ n : Fin 100, itoaB n.val = if n.val < 10 then digB (n.val % 10) else digB (n.val / 10 % 10) ++ digB (n.val % 10) := by decide +kernel
theorem digB_len : ∀ d : Fin 10, (digB d.val).length = 1 := by decide +kernel
theorem rem10 (n : Nat) (h : n < 1000000) : intRes .rem .i64 (n : Int) 10 = some (.int .i64 ((n % 10 : Nat) : Int)) := by
 have : (n : Int).tmod 10 = ((n % 10 : Nat) : Int) := by rw [Int.tmod_eq_emod_of_nonneg (by omega)]; omega
 simp [intRes, this]
theorem quo10 (n : Nat) (h : n < 1000000) : IntKind.i64.wrap ((n : Int).tdiv 10) = ((n / 10 : Nat) : Int) := by
 have : (n : Int).tdiv 10 = ((n / 10 : Nat) : Int) := by rw [Int.tdiv_eq_ediv_of_nonneg (by omega)]; omega
 rw [this]
 exact wrap64_in _ (by omega) (by omega)
theorem DigitsOf_t (n : Nat) (L : LH) (hn : n < 100) : Sp X 15 [.int .i64 n] L (fun v L' => v = str (itoaB n) ∧ L = L') := by
 have hi := itoa_dig ⟨n, hn⟩
 simp only at hi
 have hd1 := digB_len ⟨n % 10, by omega⟩
 have hd2 := digB_len ⟨n / 10 % 10, by omega⟩
 simp only at hd1 hd2
 have w1 : IntKind.i64.wrap (((n % 10 : Nat) : Int) + 1) = ((n % 10 + 1 : Nat) : Int) := by rw [wrap64_in _ (by omega) (by omega)]; rfl
 refine Sp.enter (n := 25) Tryz.func15 rfl rfl rfl rfl fun C hX _ hL0 r => ?_
 refine W.goP [5] 99 rfl ?_
 refine W.vf rfl rfl rfl rfl (Vf.bin rfl rfl (rem10 n (by omega))) ?_
 refine W.goP [7] 99 rfl ?_
 refine W.vf rfl rfl rfl rfl (Vf.bin rfl rfl (rem10 n (by omega))) ?_
 refine W.goP [9] 99 rfl ?_
 rw [w1]
 refine W.vf rfl rfl rfl rfl (Vf.strSl (l := d10) (i := n % 10) (j := n % 10 + 1) rfl rfl rfl rfl rfl rfl rfl (by omega) (by show n % 10 + 1 ≤ 10; omega)) ?_
 refine W.goP [11] 99 rfl ?_
 refine W.vf rfl rfl rfl rfl (Vf.quo rfl rfl (by decide)) ?_
 rw [quo10 n (by omega)]
 refine W.go 99 rfl ?_
 refine W.loop (fun w E B L' => ∃ (k : Nat) (s : Bs), w = k ∧ ((k = n / 10 ∧ s = digB (n % 10)) ∨ (k = 0 ∧ s = itoaB n)) ∧ L = L' ∧ E = [(0, .v (.int .i64 k)), (3, .v (str s))] ∧ B = [])
  ⟨n / 10, digB (n % 10), rfl, .inl ⟨rfl, rfl⟩, rfl, rfl, rfl⟩ (by exact ⟨rfl, rfl, trivial⟩) (by exact trivial) ?_
 rintro k _ _ _ ⟨_, s, rfl, hks, rfl, rfl, rfl⟩ again
 refine W.go 99 rfl ?_
 refine W.split rfl rfl rfl (fun e1 => W.go 99 rfl ?_) (fun e1 => W.go 99 rfl ?_)
 ·have hk : 0 < k := by have := of_decide_eq_true e1; omega
  rcases hks with ⟨rfl, rfl⟩ | ⟨h0, _⟩
  ·have v1 : IntKind.i64.wrap (((n / 10 % 10 : Nat) : Int) + 1) = ((n / 10 % 10 + 1 : Nat) : Int) := by rw [wrap64_in _ (by omega) (by omega)]; rfl
   have h10 : ¬ n < 10 := by omega
   rw [if_neg h10] at hi
   refine W.goP [17] 99 rfl ?_
   refine W.vf rfl rfl rfl rfl (Vf.bin rfl rfl (rem10 (n / 10) (by omega))) ?_
   refine W.goP [19] 99 rfl ?_
   refine W.vf rfl rfl rfl rfl (Vf.bin rfl rfl (rem10 (n / 10) (by omega))) ?_
   refine W.goP [21] 99 rfl ?_
   rw [v1]
   refine W.vf rfl rfl rfl rfl (Vf.strSl (l := d10) (i := n / 10 % 10) (j := n / 10 % 10 + 1) rfl rfl rfl rfl rfl rfl rfl (by omega) (by show n / 10 % 10 + 1 ≤ 10; omega)) ?_
   refine W.go 99 rfl ?_
   refine W.vf rfl rfl rfl rfl (Vf.cat (l := digB (n / 10 % 10)) (r := digB (n % 10)) rfl rfl (by omega)) ?_
   refine W.goP [15] 99 rfl ?_
   refine W.vf rfl rfl rfl rfl (Vf.quo rfl rfl (by decide)) ?_
   rw [quo10 (n / 10) (by omega)]
   have hz : n / 10 / 10 = 0 := by omega
   rw [hz]
   refine W.go 99 rfl ?_
   exact W.again (again 0 _ _ _ (by omega) ⟨0, itoaB n, rfl, .inr ⟨rfl, rfl⟩, rfl, rfl, rfl⟩) (by rw [hi]; exact ⟨rfl, rfl, trivial⟩) (by exact trivial)
  ·omega
 ·have hk : k = 0 := by have := of_decide_eq_false e1; omega
  subst hk
  have hs : s = itoaB n := by
   rcases hks with ⟨h0, h1⟩ | ⟨_, h1⟩
   ·rw [if_pos (by omega)] at hi
    rw [h1, hi]
   ·exact h1
  subst hs
  exact W.ret r rfl rfl ⟨rfl, rfl⟩
theorem VerbOf_t (v : Nat) (L : LH) (hv : v < 7) : Sp X 54 [.int .i64 v] L (fun u L' => u = .tuple #[str (wordB v), .int .i64 (sizeV v : Nat)] ∧ L = L') := by
 have hc : v = 0 ∨ v = 1 ∨ v = 2 ∨ v = 3 ∨ v = 4 ∨ v = 5 ∨ v = 6 := by omega
 rcases hc with rfl | rfl | rfl | rfl | rfl | rfl | rfl
 ·refine Sp.enter (n := 16) Tryz.func54 rfl rfl rfl rfl fun C hX _ hL0 r => ?_
  refine W.go 99 rfl ?_
  refine W.drawn (by kernel_rfl) _ (Le.refl _) ?_
  refine DD.run' [0, 1, 4, 5] rfl ?_
  refine DD.vf 2 rfl rfl rfl rfl rfl (Vf.idxSl (i := 0) rfl rfl rfl rfl rfl rfl (by decide)) ?_
  refine DD.vf 6 rfl rfl rfl rfl rfl (Vf.idxSl (i := 0) rfl rfl rfl rfl rfl rfl (by decide)) ?_
  refine DD.run' [3, 7, 8, 9] rfl ?_
  refine .fin rfl ?_
  refine W.go 99 rfl ?_
  exact W.ret r rfl rfl ⟨rfl, rfl⟩
 ·refine Sp.enter (n := 16) Tryz.func54 rfl rfl rfl rfl fun C hX _ hL0 r => ?_
  refine W.go 99 rfl ?_
  refine W.drawn (by kernel_rfl) _ (Le.refl _) ?_
  refine DD.run' [0, 1, 4, 5] rfl ?_
  refine DD.vf 2 rfl rfl rfl rfl rfl (Vf.idxSl (i := 1) rfl rfl rfl rfl rfl rfl (by decide)) ?_
  refine DD.vf 6 rfl rfl rfl rfl rfl (Vf.idxSl (i := 1) rfl rfl rfl rfl rfl rfl (by decide)) ?_
  refine DD.run' [3, 7, 8, 9] rfl ?_
  refine .fin rfl ?_
  refine W.go 99 rfl ?_
  exact W.ret r rfl rfl ⟨rfl, rfl⟩
 ·refine Sp.enter (n := 16) Tryz.func54 rfl rfl rfl rfl fun C hX _ hL0 r => ?_
  refine W.go 99 rfl ?_
  refine W.drawn (by kernel_rfl) _ (Le.refl _) ?_
  refine DD.run' [0, 1, 4, 5] rfl ?_
  refine DD.vf 2 rfl rfl rfl rfl rfl (Vf.idxSl (i := 2) rfl rfl rfl rfl rfl rfl (by decide)) ?_
  refine DD.vf 6 rfl rfl rfl rfl rfl (Vf.idxSl (i := 2) rfl rfl rfl rfl rfl rfl (by decide)) ?_
  refine DD.run' [3, 7, 8, 9] rfl ?_
  refine .fin rfl ?_
  refine W.go 99 rfl ?_
  exact W.ret r rfl rfl ⟨rfl, rfl⟩
 ·refine Sp.enter (n := 16) Tryz.func54 rfl rfl rfl rfl fun C hX _ hL0 r => ?_
  refine W.go 99 rfl ?_
  refine W.drawn (by kernel_rfl) _ (Le.refl _) ?_
  refine DD.run' [0, 1, 4, 5] rfl ?_
  refine DD.vf 2 rfl rfl rfl rfl rfl (Vf.idxSl (i := 3) rfl rfl rfl rfl rfl rfl (by decide)) ?_
  refine DD.vf 6 rfl rfl rfl rfl rfl (Vf.idxSl (i := 3) rfl rfl rfl rfl rfl rfl (by decide)) ?_
  refine DD.run' [3, 7, 8, 9] rfl ?_
  refine .fin rfl ?_
  refine W.go 99 rfl ?_
  exact W.ret r rfl rfl ⟨rfl, rfl⟩
 ·refine Sp.enter (n := 16) Tryz.func54 rfl rfl rfl rfl fun C hX _ hL0 r => ?_
  refine W.go 99 rfl ?_
  refine W.drawn (by kernel_rfl) _ (Le.refl _) ?_
  refine DD.run' [0, 1, 4, 5] rfl ?_
  refine DD.vf 2 rfl rfl rfl rfl rfl (Vf.idxSl (i := 4) rfl rfl rfl rfl rfl rfl (by decide)) ?_
  refine DD.vf 6 rfl rfl rfl rfl rfl (Vf.idxSl (i := 4) rfl rfl rfl rfl rfl rfl (by decide)) ?_
  refine DD.run' [3, 7, 8, 9] rfl ?_
  refine .fin rfl ?_
  refine W.go 99 rfl ?_
  exact W.ret r rfl rfl ⟨rfl, rfl⟩
 ·refine Sp.enter (n := 16) Tryz.func54 rfl rfl rfl rfl fun C hX _ hL0 r => ?_
  refine W.go 99 rfl ?_
  refine W.drawn (by kernel_rfl) _ (Le.refl _) ?_
  refine DD.run' [0, 1, 4, 5] rfl ?_
  refine DD.vf 2 rfl rfl rfl rfl rfl (Vf.idxSl (i := 5) rfl rfl rfl rfl rfl rfl (by decide)) ?_
  refine DD.vf 6 rfl rfl rfl rfl rfl (Vf.idxSl (i := 5) rfl rfl rfl rfl rfl rfl (by decide)) ?_
  refine DD.run' [3, 7, 8, 9] rfl ?_
  refine .fin rfl ?_
  refine W.go 99 rfl ?_
  exact W.ret r rfl rfl ⟨rfl, rfl⟩
 ·refine Sp.enter (n := 16) Tryz.func54 rfl rfl rfl rfl fun C hX _ hL0 r => ?_
  refine W.go 99 rfl ?_
  refine W.drawn (by kernel_rfl) _ (Le.refl _) ?_
  refine DD.run' [0, 1, 4, 5] rfl ?_
  refine DD.vf 2 rfl rfl rfl rfl rfl (Vf.idxSl (i := 6) rfl rfl rfl rfl rfl rfl (by decide)) ?_
  refine DD.vf 6 rfl rfl rfl rfl rfl (Vf.idxSl (i := 6) rfl rfl rfl rfl rfl rfl (by decide)) ?_
  refine DD.run' [3, 7, 8, 9] rfl ?_
  refine .fin rfl ?_
  refine W.go 99 rfl ?_
  exact W.ret r rfl rfl ⟨rfl, rfl⟩
def argB (n : Int) : Bs := if n < 0 then anyB else itoaB n.toNat
def kitL (v : Nat) (a : List Int) : Bs := wordB v ++ tailB (a.map argB)
theorem LineOf_t (v : Nat) (a : List Int) (ad : Option Addr) (cap : Nat) (L : LH) (hv : v < 7) (ha : IntsAt L ad a) (hn : a.length ≤ 10) (hb : ∀ n ∈ a, n < 100) : Sp X 11 [.agg #[.int .i64 v, .slice ad a.length cap]] L (fun u L' => u = str (kitL v a) ∧ L = L') := by
 have hwl : ∀ v : Fin 7, (wordB v.val).length ≤ 5 := by decide
 have hwv := hwl ⟨v, hv⟩
 simp only at hwv
 refine Sp.enter (n := 37) Tryz.func11 rfl rfl rfl rfl fun C hX _ hL0 r => ?_
 refine W.go 99 rfl ?_
 refine W.eff rfl rfl rfl (Ef.call rfl (VerbOf_t v _ hv)) ?_
 rintro _ _ _ ⟨_, rfl, rfl, rfl, rfl⟩
 refine W.go 99 rfl ?_
 refine W.loop (fun w E B L' => ∃ i : Nat, w = a.length - i ∧ i ≤ a.length ∧ L = L' ∧ E = [(1, .p 0 0), (3, .v (str (kitL v (a.take i)))), (5, .v (.int .i64 i))] ∧ B = [some ⟨[.v (.int .i64 v), .v (.slice ad a.length cap)], 38⟩])
  ⟨0, rfl, Nat.zero_le _, rfl, rfl, rfl⟩ (by exact ⟨rfl, congrArg (fun z => some (SV.v (str z))) (by simp [kitL, tailB]), rfl, trivial⟩) (by exact ⟨rfl, trivial⟩) ?_
 rintro _ _ _ _ ⟨i, rfl, hi, rfl, rfl, rfl⟩ again
 refine W.go 99 rfl ?_
 refine W.split rfl rfl rfl (fun e1 => W.go 99 rfl ?_) (fun e1 => W.go 99 rfl ?_)
 ·have hil : i < a.length := by have := of_decide_eq_true e1; omega
  obtain ⟨ad, rfl⟩ := ha.addr hil
  have hx := List.getElem?_eq_getElem hil
  have hb1 := hb _ (List.getElem_mem hil)
  have htk : a.take (i + 1) = a.take i ++ [a[i]] := List.take_succ_eq_append_getElem hil
  have hlen : (kitL v (a.take i)).length ≤ 5 + 11 * 10 := by
   unfold kitL
   rw [List.length_append]
   have := tailB_len ((a.take i).map argB) fun w hw => by
    obtain ⟨n, hn, rfl⟩ := List.mem_map.1 hw
    unfold argB
    split
    ·decide
    ·have h1 := hb n (List.mem_of_mem_take hn)
     have := itoa_len ⟨n.toNat, by omega⟩
     simp only at this
     omega
   rw [List.length_map, List.length_take] at this
   have h2 : 11 * min i a.length ≤ 11 * 10 := Nat.mul_le_mul_left 11 (by omega)
   omega
  have hnx : kitL v (a.take (i + 1)) = kitL v (a.take i) ++ [32] ++ argB a[i] := by
   unfold kitL
   rw [htk, List.map_append, List.map_cons, List.map_nil, tailB_snoc]
   simp [List.append_assoc]
  generalize a[i] = n at hx hb1 hnx
  refine W.vf rfl rfl rfl rfl (Vf.idx1 rfl rfl rfl rfl rfl rfl rfl (hil)) ?_
  refine W.go 99 rfl ?_
  refine W.vf rfl rfl rfl rfl (Vf.load rfl rfl rfl (ha.int hx)) ?_
  refine W.go 99 rfl ?_
  refine W.split rfl rfl rfl (fun c2 => ?_) (fun c2 => ?_)
  ·have hn0 : n < 0 := of_decide_eq_true c2
   refine W.go 99 rfl ?_
   refine W.vf rfl rfl rfl rfl (Vf.cat (l := kitL v (a.take i)) (r := [32, 97, 110, 121]) rfl rfl (by show _ + 4 ≤ _; omega)) ?_
   refine W.go 99 rfl ?_
   exact W.again (again _ _ _ _ (by omega) ⟨i + 1, rfl, hil, rfl, rfl, rfl⟩) (by rw [hnx]; exact ⟨rfl, congrArg (fun z => some (SV.v (str z))) (by unfold argB; rw [if_pos hn0, List.append_assoc]; rfl), congrArg some (inc64 (by omega)), trivial⟩) (by exact ⟨rfl, trivial⟩)
  ·have hn0 : ¬ n < 0 := of_decide_eq_false c2
   obtain ⟨m, rfl⟩ : ∃ m : Nat, n = m := ⟨n.toNat, by omega⟩
   have hil2 := itoa_len ⟨m, by omega⟩
   simp only at hil2
   refine W.go 99 rfl ?_
   refine W.vf rfl rfl rfl rfl (Vf.cat (l := kitL v (a.take i)) (r := [32]) rfl rfl (by show _ + 1 ≤ _; omega)) ?_
   refine W.go 99 rfl ?_
   refine W.vf rfl rfl rfl rfl (Vf.idx1 rfl rfl rfl rfl rfl rfl rfl (hil)) ?_
   refine W.go 99 rfl ?_
   refine W.vf rfl rfl rfl rfl (Vf.load rfl rfl rfl (ha.int hx)) ?_
   refine W.go 99 rfl ?_
   refine W.eff rfl rfl rfl (Ef.call rfl (DigitsOf_t m _ (by omega))) ?_
   rintro _ _ _ ⟨_, rfl, rfl, rfl, rfl⟩
   refine W.vf rfl rfl rfl rfl (Vf.cat (l := kitL v (a.take i) ++ [32]) (r := itoaB m) rfl rfl (by rw [List.length_append, List.length_singleton]; omega)) ?_
   refine W.go 99 rfl ?_
   exact W.again (again _ _ _ _ (by omega) ⟨i + 1, rfl, hil, rfl, rfl, rfl⟩) (by rw [hnx]; exact ⟨rfl, congrArg (fun z => some (SV.v (str z))) (by unfold argB; rw [if_neg hn0, Int.toNat_natCast]), congrArg some (inc64 (by omega)), trivial⟩) (by exact ⟨rfl, trivial⟩)
 ·have hil : i = a.length := by have := of_decide_eq_false e1; omega
  subst hil
  exact W.ret r rfl rfl ⟨by rw [List.take_length]; rfl, rfl⟩
end Go.Mz


namespace Go.Mz
open Go
end Go.Mz

