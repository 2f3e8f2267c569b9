/- Lemmas on which the claim leans. -/
import Derived.Test.YtfnjganjlkoehaaGreatDoorMzAp
set_option maxRecDepth 100000
namespace Go.Mz
open Go.Conc Go.Proofs
variable {X : Logic Tryz.prog}
def GlOk (L : LH) : Prop := L.cell? ⟨0, 0, none⟩ = some (rty 159)
theorem GlOk.le {L L' : LH} (h : GlOk L) (hl : Le L L') : GlOk L' := hl.cell h
theorem AsNil_sp (t : Value) (L : LH) : Sp X 161 [.nilIface, t] L (fun v L' => v = .bool false ∧ L = L') := by
 refine Sp.enter (n := 42) Tryz.func161 rfl rfl rfl rfl fun C hX _ hL0 r => ?_
 refine W.go 99 rfl ?_
 exact W.ret r rfl rfl ⟨rfl, rfl⟩
theorem set_spE {a b : Nat} {x y : Value} {L : LH} (hx : single x = true) (hb : L.cell? ⟨b, 0, none⟩ = some x) (ha : L a = some (.cells #[y] 186 (0, 0), true)) :
  SpE Tryz.prog 175 [.agg #[hdl 186, .pointer (some ⟨a, 0, none⟩), .int .u64 409], .agg #[hdl 186, .pointer (some ⟨b, 0, none⟩), .int .u64 153]] L (fun v L' => v = .tuple #[] ∧ L' = L.put a (.cells #[x] 186)) :=
 ⟨_, _, ext175, fun R hR => w175 (hR.cell hb) hx (hR _ _ ha) fun R' h1 h2 => ⟨_, ⟨rfl, rfl⟩, Post.set hR ha h1 h2⟩⟩
theorem as_sp (a b : Nat) (d y : Value) (t : Value) (hd : single d = true) (L : LH) (hb : L.cell? ⟨b, 0, none⟩ = some (.pointer (some ⟨a, 0, none⟩))) (ha : L a = some (.cells #[y] 186 (0, 0), true)) :
  Sp X 172 [.iface 186 (.agg #[d]), t, .agg #[hdl 188, .pointer (some ⟨b, 0, none⟩), .int .u64 150], rty 186] L (fun v L' => v = .bool true ∧ L' a = some (.cells #[d] 186 (0, 0), true) ∧ ∀ b' x, b' ≠ a → L b' = some x → L' b' = some x) := by
 refine Sp.enter (n := 62) Tryz.func172 rfl rfl rfl rfl fun C hX _ hL0 r => ?_
 refine W.go 99 rfl ?_
 refine W.loop (fun m E B L' => m = 0 ∧ E = [(0, .v (.iface 186 (.agg #[d]))), (3, .v (rty 186)), (6, .p 0 0)] ∧ B = [some ⟨cellsS (.v (.agg #[hdl 188, .pointer (some ⟨b, 0, none⟩), .int .u64 150])), 204⟩] ∧ L = L')
  ⟨rfl, rfl, rfl, rfl⟩ ⟨rfl, rfl, rfl, trivial⟩ ⟨rfl, trivial⟩ ?_
 rintro _ _ _ _ ⟨rfl, rfl, rfl, rfl⟩ again
 refine W.go 99 rfl ?_
 refine W.eff rfl rfl rfl (Ef.ext rfl (SpE.pure ext173 fun _ _ _ => w173 _)) ?_
 rintro _ _ _ ⟨_, rfl, rfl, rfl, rfl⟩
 refine W.go 99 rfl ?_
 refine W.eff rfl rfl rfl (Ef.inv rfl rfl rfl (fun _ _ _ => mAssg _) (.inr (SpE.pure ext202 fun _ _ _ => w202))) ?_
 rintro _ _ _ ⟨_, rfl, rfl, rfl, rfl⟩
 refine W.go 99 rfl ?_
 refine W.split rfl rfl rfl (fun c => ?_) (fun c => absurd c (by decide))
 refine W.go 99 rfl ?_
 refine W.eff rfl rfl rfl (Ef.ext rfl (SpE.read ext174 fun _ _ R hR => w174 (hR.cell hb))) ?_
 rintro _ _ _ ⟨_, rfl, rfl, rfl, rfl⟩
 refine W.go 99 rfl ?_
 refine W.eff rfl rfl rfl (Ef.ext rfl (SpE.alloc ext169 fun _ _ _ => w169h _)) ?_
 rintro _ _ _ ⟨_, rfl, rfl, b1, hb1, rfl, rfl⟩
 refine W.go 99 rfl ?_
 have hne : a ≠ b1 := fun e => by subst e; rw [ha] at hb1; cases hb1
 refine W.eff rfl rfl rfl (Ef.ext rfl (set_spE hd (b := b1) (cell_of (put_same _ _ _) rfl) ((put_ne _ _ hne).trans ha))) ?_
 rintro _ _ _ ⟨_, rfl, rfl, rfl, rfl⟩
 refine W.go 99 rfl ?_
 refine W.ret r rfl rfl ?_
 exact ⟨rfl, put_same _ _ _, fun b' x hb' hx => by rw [put_ne _ _ hb', put_ne _ _ (fun e => by subst e; rw [hb1] at hx; cases hx)]; exact hx⟩
theorem As_sp (a : Nat) (d y : Value) (hd : single d = true) (L : LH) (hg : GlOk L) (ha : L a = some (.cells #[y] 186 (0, 0), true)) :
  Sp X 161 [.iface 186 (.agg #[d]), .iface 188 (.pointer (some ⟨a, 0, none⟩))] L (fun v L' => v = .bool true ∧ L' a = some (.cells #[d] 186 (0, 0), true) ∧ ∀ b' x, b' ≠ a → L b' = some x → L' b' = some x) := by
 refine Sp.enter (n := 42) Tryz.func161 rfl rfl rfl rfl fun C hX _ hL0 r => ?_
 refine W.go 99 rfl ?_
 refine W.eff rfl rfl rfl (Ef.ext rfl (SpE.alloc ext169 fun _ _ _ => w169p _)) ?_
 rintro _ _ _ ⟨_, rfl, rfl, b1, hb1, rfl, rfl⟩
 refine W.go 99 rfl ?_
 have hne : a ≠ b1 := fun e => by subst e; rw [ha] at hb1; cases hb1
 have hb := cell_of (put_same L b1 (.cells #[.pointer (some ⟨a, 0, none⟩)] 188)) (off := 0) (v := .pointer (some ⟨a, 0, none⟩)) rfl
 refine W.eff rfl rfl rfl (Ef.ext rfl (SpE.pure ext170 fun _ _ _ => w170 _)) ?_
 rintro _ _ _ ⟨_, rfl, rfl, rfl, rfl⟩
 refine W.go 99 rfl ?_
 refine W.eff rfl rfl rfl (Ef.inv rfl rfl rfl (fun _ _ _ => mKind _) (.inr (SpE.pure ext190 fun _ _ _ => w190p))) ?_
 rintro _ _ _ ⟨_, rfl, rfl, rfl, rfl⟩
 refine W.go 99 rfl ?_
 refine W.split rfl rfl rfl (fun c => absurd c (by decide)) (fun c => ?_)
 refine W.go 99 rfl ?_
 refine W.eff rfl rfl rfl (Ef.ext rfl (SpE.read ext171 fun _ _ R hR => w171 (hR.cell hb))) ?_
 rintro _ _ _ ⟨_, rfl, rfl, rfl, rfl⟩
 refine W.go 99 rfl ?_
 refine W.split rfl rfl rfl (fun c => absurd c (by decide)) (fun c => ?_)
 refine W.go 99 rfl ?_
 refine W.eff rfl rfl rfl (Ef.inv rfl rfl rfl (fun _ _ _ => mElem _) (.inr (SpE.pure ext204 fun _ _ _ => w204))) ?_
 rintro _ _ _ ⟨_, rfl, rfl, rfl, rfl⟩
 refine W.go 99 rfl ?_
 refine W.eff rfl rfl rfl (Ef.inv rfl rfl rfl (fun _ _ _ => mKind _) (.inr (SpE.pure ext190 fun _ _ _ => w190h))) ?_
 rintro _ _ _ ⟨_, rfl, rfl, rfl, rfl⟩
 refine W.go 99 rfl ?_
 refine W.split rfl rfl rfl (fun c => ?_) (fun c => absurd c (by decide))
 refine W.go 99 rfl ?_
 refine W.vf rfl rfl rfl rfl (Vf.load rfl rfl rfl (hg.le (Le.put hb1 _))) ?_
 refine W.go 99 rfl ?_
 refine W.eff rfl rfl rfl (Ef.inv rfl rfl rfl (fun _ _ _ => mImpl _) (.inr (SpE.pure ext205 fun _ _ _ => w205))) ?_
 rintro _ _ _ ⟨_, rfl, rfl, rfl, rfl⟩
 refine W.go 99 rfl ?_
 refine W.split rfl rfl rfl (fun c => absurd c (by decide)) (fun c => ?_)
 refine W.go 99 rfl ?_
 refine W.eff rfl rfl rfl (Ef.call rfl (as_sp a b1 d y _ hd _ hb ((put_ne _ _ hne).trans ha))) ?_
 rintro _ _ _ ⟨_, rfl, rfl, rfl, h1, h2⟩
 refine W.go 99 rfl ?_
 refine W.ret r rfl rfl ?_
 exact ⟨rfl, h1, fun b' x hb' hx => h2 b' x hb' (by rw [put_ne _ _ (fun e => by subst e; rw [hb1] at hx; cases hx)]; exact hx)⟩
end Go.Mz


set_option maxRecDepth 100000
namespace Go.Mz
open Go.Conc Go.Proofs
variable {X : Logic Tryz.prog}
abbrev v3 (a b c : Int) : Value := .agg #[.int .i64 a, .int .i64 b, .int .i64 c]
theorem loaves_sp (s : Sw) (p : Wp) (a b c : Int) (L : LH) (hn : s.loaves.length ≤ 3) : Sp X 89 [swA s p, v3 a b c] L (NewSl L 1 encI ([a, b, c].take s.loaves.length)) := by
 refine Sp.enter (n := 11) Tryz.func89 rfl rfl rfl rfl fun C hX _ hL0 r => ?_
 refine W.go 99 rfl ?_
 refine W.pub 3 (.inl ⟨_, rfl⟩) rfl rfl ?_
 intro b1 hb1 _
 refine W.vf rfl rfl rfl rfl (Vf.sliceA rfl rfl Tryz.underlying99 size3 (show s.loaves.length ≤ 3 by omega) (by decide)) ?_
 refine W.go 99 rfl ?_
 have hsl : IntsAt (L.put b1 (.cells #[.int .i64 a, .int .i64 b, .int .i64 c] 99)) (some ⟨b1, 0, none⟩) [a, b, c] := sl_block (e := 99) encI_len (put_same _ _ _)
 have hlen : ([a, b, c].take s.loaves.length).length = s.loaves.length := by simp; omega
 have hcl := CloneI_sp (X := X) (some ⟨b1, 0, none⟩) 3 ([a, b, c].take s.loaves.length) _ (hsl.take s.loaves.length) (by omega)
 rw [hlen] at hcl
 rw [← hX] at hcl
 refine W.eff rfl rfl rfl (Ef.call rfl (hcl)) ?_
 rintro _ _ _ ⟨_, rfl, rfl, ad, cap, rfl, hle, hs2, hcp⟩
 refine W.go 99 rfl ?_
 refine W.ret r rfl rfl ?_
 exact ⟨ad, cap, rfl, (Le.put hb1 _).trans hle, hs2, hcp⟩
theorem wantsOf_snoc {s : Sw} {w : List Nat} {i : Nat} {x : Want} (hx : s.wants[i]? = some x) : wantsOf s (w ++ [i]) = wantsOf s w ++ [x] := by
 unfold wantsOf
 rw [List.filterMap_append]
 simp [hx]
theorem natI_get (w : List Nat) (j : Nat) : (natI w)[j]? = (w[j]?).map fun (n : Nat) => (n : Int) := by unfold natI; rw [List.getElem?_map]
theorem natI_len (w : List Nat) : (natI w).length = w.length := by simp [natI]
theorem bits5_len (m : Nat) : (bits5 m).length ≤ 5 := by
 unfold bits5
 have := List.length_filter_le (m.testBit ·) (List.range 5)
 simpa using this
def WnOk (s : Sw) (w : List Nat) : Prop := ∀ i ∈ w, i < s.wants.length
theorem payW_snoc {s : Sw} {w : List Nat} {i : Nat} {x : Want} (hx : s.wants[i]? = some x) : payW s (w ++ [i]) = payW s w + x.pay := by
 unfold payW
 rw [wantsOf_snoc hx, List.map_append, List.map_cons, List.map_nil, sumL_add]
theorem pay_bd {s : Sw} (hok : SOk s) (w : List Nat) : 0 ≤ payW s w ∧ payW s w ≤ 30 * w.length := by
 unfold payW
 have h1 := sumL_bk 30 ((wantsOf s w).map (·.pay)) fun x hx => by
  obtain ⟨y, hy, rfl⟩ := List.mem_map.1 hx
  unfold wantsOf at hy
  obtain ⟨i, _, hi⟩ := List.mem_filterMap.1 hy
  have := hok.wt y (List.mem_of_getElem? hi)
  exact ⟨this.p0, by have := this.p1; omega⟩
 have h2 : ((wantsOf s w).map (·.pay)).length ≤ w.length := by
  rw [List.length_map]
  exact List.length_filterMap_le _ _
 exact ⟨h1.1, by omega⟩
theorem pay_sp (s : Sw) (p : Wp) (m : Nat) (L : LH) (hs : SwAt L s p) (hok : SOk s) (hm : m < 32) (hw : WnOk s (bits5 m)) : Sp X 97 [swA s p, .int .u8 m] L (fun v L' => v = .int .i64 (payW s (bits5 m)) ∧ Le L L') := by
 refine Sp.enter (n := 26) Tryz.func97 rfl rfl rfl rfl fun C hX _ hL0 r => ?_
 refine W.go 99 rfl ?_
 refine W.eff rfl rfl rfl (Ef.call rfl (list_sp m hm L)) ?_
 rintro _ _ _ ⟨_, rfl, rfl, ad, cap, rfl, hle, hls, hcp⟩
 refine W.go 99 rfl ?_
 rename_i L1
 have hs := hs.le hle
 have hl5 := bits5_len m
 generalize bits5 m = w at *
 rw [natI_len]
 refine W.loop (fun n E B L' => ∃ (j : Nat), n = w.length - j ∧ j ≤ w.length ∧ L1 = L' ∧
   E = [(2, .p 0 0), (5, .v (.int .i64 (payW s (w.take j)))), (9, .v (.slice ad w.length cap)), (10, .v (.int .i64 w.length)), (11, .v (.int .i64 j))] ∧ B = [some ⟨cellsS (.v (swA s p)), 83⟩])
  ⟨0, rfl, by omega, rfl, rfl, rfl⟩ (by exact ⟨rfl, rfl, rfl, rfl, rfl, trivial⟩) (by exact ⟨rfl, trivial⟩) ?_
 rintro _ _ _ _ ⟨j, rfl, hj, rfl, rfl, rfl⟩ again
 refine W.go 99 rfl ?_
 refine W.split rfl rfl rfl (fun e1 => W.go 99 rfl ?_) (fun e1 => W.go 99 rfl ?_)
 ·have hjl : j < w.length := by simpa using e1
  have hwj : w[j]? = some w[j] := List.getElem?_eq_getElem hjl
  have hi := hw _ (List.mem_of_getElem? hwj)
  have htk : w.take (j + 1) = w.take j ++ [w[j]] := List.take_succ_eq_append_getElem hjl
  generalize w[j] = i at *
  have hx : s.wants[i]? = some s.wants[i] := List.getElem?_eq_getElem hi
  have hpb := pay_bd hok (w.take j)
  have hpc := pay_bd hok (w.take (j + 1))
  rw [htk, payW_snoc hx] at hpc
  simp only [List.length_append, List.length_take, List.length_singleton] at hpc
  obtain ⟨lad, rfl⟩ := hls.addr (show j < (natI w).length by rw [natI_len]; exact hjl)
  obtain ⟨wa, hwa⟩ := hs.wt.addr hi
  obtain ⟨qa, qb, qc, qd, qe, qf⟩ := p
  obtain rfl : qc = some wa := hwa
  have hwt := hs.wt
  refine W.vf rfl rfl rfl rfl (Vf.idx1 rfl rfl rfl rfl rfl rfl rfl (hjl)) ?_
  refine W.go 99 rfl ?_
  refine W.vf rfl rfl rfl rfl (Vf.load rfl rfl rfl (hls.int (x := (i : Int)) (by rw [natI_get, hwj]; rfl))) ?_
  refine W.go 99 rfl ?_
  refine W.vf rfl rfl rfl rfl (Vf.idx rfl rfl rfl rfl rfl rfl (hi)) ?_
  refine W.go 99 rfl ?_
  have hpy : L1.cell? ((wa.add (i * 4)).add 3) = some (.int .i64 s.wants[i].pay) := by rw [add_add]; exact hwt.get hx (j := 3) rfl
  refine W.vf rfl rfl rfl rfl (Vf.load rfl rfl rfl (hpy)) ?_
  refine W.go 99 rfl ?_
  exact W.again (again _ _ _ _ (by omega) ⟨j + 1, rfl, by omega, rfl, rfl, rfl⟩) ⟨rfl, congrArg some (w64 (by rw [htk, payW_snoc hx]) (by rw [htk, payW_snoc hx]; omega) (by rw [htk, payW_snoc hx]; omega)), rfl, rfl, congrArg some (inc64 (by omega)), trivial⟩ ⟨rfl, trivial⟩
 ·have hje : j = w.length := by simp at e1; omega
  subst hje
  refine W.ret r rfl rfl ?_
  rw [List.take_length]
  exact ⟨rfl, hle⟩
theorem cmpL_natI : ∀ (a b : List Nat), decide (cmpL (natI a) (natI b) < 0) = ltL a b
 | [], [] => rfl
 | [], _ :: _ => rfl
 | _ :: _, [] => rfl
 | x :: a, y :: b => by
  have ih := cmpL_natI a b
  unfold natI at ih ⊢
  rw [List.map_cons, List.map_cons, cmpL, ltL]
  unfold cmpI
  rcases Nat.lt_trichotomy x y with h | h | h
  ·rw [if_pos (show ((x : Nat) : Int) < (y : Int) by omega)]
   simp [h]
  ·subst h
   simp [ih]
  ·rw [if_neg (show ¬ ((x : Nat) : Int) < (y : Int) by omega), if_pos (show ((y : Nat) : Int) < (x : Int) by omega)]
   have h1 : ¬ x < y := by omega
   have h2 : x ≠ y := by omega
   simp [h1, h2]
theorem shorter_sp (m n : Nat) (L : LH) (hm : m < 32) (hn : n < 32) : Sp X 101 [.int .u8 m, .int .u8 n] L (fun v L' => v = .bool (shortB (bits5 m) (bits5 n)) ∧ Le L L') := by
 refine Sp.enter (n := 29) Tryz.func101 rfl rfl rfl rfl fun C hX _ hL0 r => ?_
 refine W.go 99 rfl ?_
 refine W.eff rfl rfl rfl (Ef.call rfl (list_sp m hm L)) ?_
 rintro _ _ _ ⟨_, rfl, rfl, a1, c1, rfl, hl1, hs1, hc1⟩
 refine W.go 99 rfl ?_
 refine W.eff rfl rfl rfl (Ef.call rfl (list_sp n hn _)) ?_
 rintro _ _ _ ⟨_, rfl, rfl, a2, c2, rfl, hl2, hs2, hc2⟩
 refine W.go 99 rfl ?_
 have b1 := bits5_len m
 have b2 := bits5_len n
 have q1 := natI_len (bits5 m)
 have q2 := natI_len (bits5 n)
 have hs1' := hs1.le hl2
 refine W.split rfl rfl rfl (fun e1 => ?_) (fun e1 => ?_)
 ·refine W.go 99 rfl ?_
  refine W.ret r rfl rfl ?_
  refine ⟨?_, hl1.trans hl2⟩
  unfold shortB
  have : (bits5 m).length < (bits5 n).length := by simp at e1; omega
  simp [this, retV]
 have n1 : ¬ (bits5 m).length < (bits5 n).length := by simp at e1; omega
 refine W.go 99 rfl ?_
 refine W.split rfl rfl rfl (fun e2 => ?_) (fun e2 => ?_)
 ·refine W.go 99 rfl ?_
  refine W.eff rfl rfl rfl (Ef.call rfl (Compare_sp a1 a2 c1 c2 (natI (bits5 m)) (natI (bits5 n)) _ hs1' hs2 (by omega) (by omega))) ?_
  rintro _ _ _ ⟨_, rfl, rfl, rfl, rfl⟩
  refine W.go 99 rfl ?_
  refine W.ret r rfl rfl ?_
  refine ⟨?_, hl1.trans hl2⟩
  have n2 : (bits5 m).length = (bits5 n).length := by simp at e2; omega
  have := cmpL_natI (bits5 m) (bits5 n)
  unfold shortB
  simp [n2, retV, ← this]
 ·refine W.go 99 rfl ?_
  refine W.ret r rfl rfl ?_
  refine ⟨?_, hl1.trans hl2⟩
  have n2 : ¬ (bits5 m).length = (bits5 n).length := by simp at e2; omega
  unfold shortB
  simp [n1, n2, retV]
abbrev plV (t s d : Int × Int × Int) (a : Int) : Value := .agg #[.int .i64 t.1, .int .i64 t.2.1, .int .i64 t.2.2, .int .i64 s.1, .int .i64 s.2.1, .int .i64 s.2.2, .int .i64 d.1, .int .i64 d.2.1, .int .i64 d.2.2, .int .i64 a]
abbrev l3 (x : Int × Int × Int) : List Int := [x.1, x.2.1, x.2.2]
def Sm3 (x : Int × Int × Int) : Prop := (0 ≤ x.1 ∧ x.1 ≤ 4000) ∧ (0 ≤ x.2.1 ∧ x.2.1 ≤ 4000) ∧ (0 ≤ x.2.2 ∧ x.2.2 ≤ 4000)
theorem left_sp (t s d : Int × Int × Int) (a : Int) (L : LH) (hs : Sm3 s) (hd : Sm3 d) (ha : 0 ≤ a ∧ a ≤ 4000) : Sp X 107 [plV t s d a] L (fun v L' => v = .int .i64 (sumL (l3 s) - sumL (l3 d) - a) ∧ Le L L') := by
 obtain ⟨s0, s1, s2⟩ := s
 obtain ⟨d0, d1, d2⟩ := d
 obtain ⟨h1, h2, h3⟩ := hs
 obtain ⟨g1, g2, g3⟩ := hd
 have e1 : sumL [s0, s1, s2] = s0 + s1 + s2 := by simp [sumL]
 have e2 : sumL [d0, d1, d2] = d0 + d1 + d2 := by simp [sumL]
 simp only at h1 h2 h3 g1 g2 g3
 refine Sp.enter (n := 13) Tryz.func107 rfl rfl rfl rfl fun C hX _ hL0 r => ?_
 refine W.go 99 rfl ?_
 refine W.drawn (by kernel_rfl) _ (Le.refl _) ?_
 refine DD.run' [0, 1, 3, 4, 7, 8] rfl ?_
 refine DD.act 2 rfl rfl rfl rfl rfl (Ef.call rfl (sum3_sp s0 s1 s2 _ h1 h2 h3)) ((by rintro _ _ _ ⟨_, rfl, rfl, rfl, hl⟩; exact ⟨hl, rfl, .inl rfl⟩)) ?_
 rintro _ _ _ ⟨_, rfl, rfl, rfl, hl1⟩
 refine DD.act 5 rfl rfl rfl rfl rfl (Ef.call rfl (sum3_sp d0 d1 d2 _ g1 g2 g3)) ((by rintro _ _ _ ⟨_, rfl, rfl, rfl, hl⟩; exact ⟨hl1.trans hl, rfl, .inl rfl⟩)) ?_
 rintro _ _ _ ⟨_, rfl, rfl, rfl, hl2⟩
 refine DD.run' [6, 9, 10] rfl ?_
 refine .fin rfl ?_
 refine W.go 99 rfl ?_
 rw [e1, e2, wrap64_in (s0 + s1 + s2 - (d0 + d1 + d2)) (by omega) (by omega), wrap64_in _ (by omega) (by omega), ← e1, ← e2]
 refine W.ret r rfl rfl ?_
 exact ⟨rfl, hl1.trans hl2⟩
end Go.Mz


namespace Go.Mz
open Go
def maskW (w : List Nat) : Nat := w.foldl (fun m i => m ||| 2 ^ i) 0
theorem maskW_snoc (w : List Nat) (i : Nat) : maskW (w ++ [i]) = maskW w ||| 2 ^ i := by unfold maskW; rw [List.foldl_append]; rfl
theorem maskW_bit (w : List Nat) (i : Nat) : (maskW w).testBit i = w.contains i := by
 generalize hn : w.length = n
 induction n generalizing w with
 | zero => rw [List.length_eq_zero_iff] at hn; subst hn; simp [maskW]
 | succ n ih =>
  have hne : w ≠ [] := fun e => by subst e; simp at hn
  obtain ⟨k, x, rfl⟩ : ∃ k x, w = k ++ [x] := ⟨w.dropLast, w.getLast hne, (List.dropLast_concat_getLast hne).symm⟩
  rw [maskW_snoc, Nat.testBit_or, ih k (by simp at hn; omega), Nat.testBit_two_pow]
  rw [Bool.eq_iff_iff]
  simp only [Bool.or_eq_true, List.contains_iff_mem, decide_eq_true_eq, List.mem_append, List.mem_singleton]
  constructor
  ·rintro (h | h)
   ·exact .inl h
   ·exact .inr h.symm
  ·rintro (h | h)
   ·exact .inl h
   ·exact .inr h.symm
def Asc (w : List Nat) : Prop := w.Pairwise (· < ·)
theorem asc_filter : ∀ (n a : Nat) (w : List Nat), Asc w → (∀ x ∈ w, a ≤ x ∧ x < a + n) → (List.range' a n).filter (fun i => w.contains i) = w
 | 0, a, w, _, h => by
  cases w with
  | nil => rfl
  | cons x w => have := h x List.mem_cons_self; omega
 | n + 1, a, [], _, _ => by simp
 | n + 1, a, x :: w, hp, h => by
  have hx := h x List.mem_cons_self
  have hp' := List.pairwise_cons.1 hp
  rw [List.range'_succ, List.filter_cons]
  by_cases e : x = a
  ·subst e
   rw [if_pos (by simp)]
   congr 1
   rw [List.filter_congr (q := fun i => w.contains i) fun i hi => ?_]
   ·exact asc_filter n (x + 1) w hp'.2 fun y hy => by have h1 := hp'.1 y hy; have h2 := h y (List.mem_cons_of_mem _ hy); omega
   ·have := (List.mem_range'_1.1 hi).1
    rw [List.contains_cons]
    have : (i == x) = false := by simp; omega
    rw [this, Bool.false_or]
  ·rw [if_neg]
   ·exact asc_filter n (a + 1) (x :: w) hp fun y hy => by
     have h2 := h y hy
     rcases List.mem_cons.1 hy with rfl | hy'
     ·omega
     ·have h1 := hp'.1 y hy'; omega
   ·rw [List.contains_iff_mem]
    intro hm
    rcases List.mem_cons.1 hm with e' | e'
    ·exact e e'.symm
    ·have h1 := hp'.1 a e'; omega
theorem bits5_mask {w : List Nat} (hp : Asc w) (h : ∀ x ∈ w, x < 5) : bits5 (maskW w) = w := by
 unfold bits5
 rw [List.range_eq_range', List.filter_congr (q := fun i => w.contains i) fun i _ => maskW_bit w i]
 exact asc_filter 5 0 w hp fun x hx => ⟨Nat.zero_le _, by have := h x hx; omega⟩
theorem readGo_asc {m : Int} : ∀ {l : List Int} {p : Option Int}, readGo m p l = 0 → (∀ i ∈ l, 0 ≤ i ∧ i ≤ m) ∧ l.Pairwise (· < ·) ∧ ∀ q, p = some q → ∀ i ∈ l, q < i
 | [], p, _ => ⟨(fun i hi => by cases hi), .nil, (fun _ _ i hi => by cases hi)⟩
 | x :: l, p, h => by
  rw [readGo] at h
  split at h
  ·cases h
  ·rename_i h1
   split at h
   ·cases h
   ·rename_i h2
    obtain ⟨g1, g2, g3⟩ := readGo_asc h
    simp only [Bool.not_eq_true', Bool.not_eq_false, inB_iff] at h1
    refine ⟨fun i hi => ?_, List.pairwise_cons.2 ⟨fun y hy => g3 x rfl y hy, g2⟩, fun q hq i hi => ?_⟩
    ·rcases List.mem_cons.1 hi with rfl | hi
     ·exact h1
     ·exact g1 i hi
    ·subst hq
     simp only [downB, Bool.not_eq_true, decide_eq_false_iff_not] at h2
     rcases List.mem_cons.1 hi with rfl | hi
     ·omega
     ·have := g3 x rfl i hi; omega
theorem read_asc {s : Sw} {l : List Int} (h : readW s l = 0) : Asc (natsW l) ∧ (∀ i ∈ natsW l, i < s.wants.length) ∧ (natsW l).map (fun (n : Nat) => (n : Int)) = l := by
 obtain ⟨h1, h2, _⟩ := readGo_asc h
 refine ⟨?_, fun i hi => ?_, ?_⟩
 ·unfold Asc natsW
  rw [List.pairwise_map]
  exact h2.imp_of_mem fun {a b} ha hb hab => by have := h1 a ha; have := h1 b hb; omega
 ·obtain ⟨j, hj, rfl⟩ := List.mem_map.1 hi
  have := h1 j hj
  omega
 ·unfold natsW
  rw [List.map_map]
  refine (List.map_congr_left (g := id) fun i hi => ?_).trans (List.map_id _)
  have := h1 i hi
  show ((i.toNat : Nat) : Int) = i
  omega
end Go.Mz


set_option maxRecDepth 100000
namespace Go.Mz
open Go.Conc Go.Proofs
variable {X : Logic Tryz.prog}
abbrev encSw0 : List Value := [.slice none 0 0, .slice none 0 0, .int .i64 0, .slice none 0 0]
abbrev swZ : Value := .agg encSw0.toArray
theorem open_sp (s : Sw) (p : Wp) (a2 a3 : Option Addr) (c2 c3 : Nat) (is ds : List Int) (L : LH) (h : SwAt L s p) (hn : Sm s) (h2 : IntsAt L a2 is) (h3 : IntsAt L a3 ds) (hn2 : is.length ≤ 1000000) (hn3 : ds.length ≤ 1000000) :
  Sp X 72 [swA s p, .slice a2 is.length c2, .slice a3 ds.length c3] L (fun v L' => Le L L' ∧ ((openW s is ds ≠ 0 ∧ v = .tuple #[swZ, .int .i64 (openW s is ds)]) ∨ (openW s is ds = 0 ∧ v = .tuple #[swA s p, .int .i64 0]))) := by
 have n1 := hn.hl
 have n3 := hn.hw
 refine Sp.enter (n := 52) Tryz.func72 rfl rfl rfl rfl fun C hX _ hL0 r => ?_
 refine W.go 99 rfl ?_
 refine W.eff rfl rfl rfl (Ef.call rfl (Check_sp s p L h hn)) ?_
 rintro _ _ _ ⟨_, rfl, rfl, rfl, rfl⟩
 refine W.go 99 rfl ?_
 refine W.split rfl rfl rfl (fun e1 => ?_) (fun e1 => ?_)
 ·refine W.go 99 rfl ?_
  have e1' : sawE s ≠ 0 := by simpa using e1
  have e2 : openW s is ds = sawE s := by unfold openW; rw [if_pos e1']
  refine W.ret r rfl rfl ?_
  exact ⟨Le.refl _, .inl ⟨by rw [e2]; exact e1', by rw [e2]; rfl⟩⟩
 have e1' : sawE s = 0 := by simpa using e1
 have hop : openW s is ds = if (is.all fun i => inB i 0 ((s.loaves.length : Int) - 1)) && ds.all fun d => inB d 0 ((s.wants.length : Int) - 1) then 0 else 3 := by unfold openW; rw [if_neg (by simp [e1'])]
 refine W.goP [22] 99 rfl ?_
 refine W.pub 21 (.inr ⟨_, _, _, rfl⟩) rfl rfl ?_
 intro b21 hb21 _
 refine W.go 99 rfl ?_
 have hl2 := Le.put hb21 (.cells #[.slice a2 is.length c2, .slice a3 ds.length c3] 23)
 have g21 := put_same L b21 (.cells #[.slice a2 is.length c2, .slice a3 ds.length c3] 23)
 generalize hL2 : L.put b21 (.cells #[.slice a2 is.length c2, .slice a3 ds.length c3] 23) = L2 at hl2 g21
 refine W.loop (fun m E B L' => ∃ (i : Nat), m = 2 - i ∧ i ≤ 2 ∧ L2 = L' ∧ (1 ≤ i → (is.all fun i => inB i 0 ((s.loaves.length : Int) - 1)) = true) ∧ (2 ≤ i → (ds.all fun d => inB d 0 ((s.wants.length : Int) - 1)) = true) ∧
   E = [(3, .p 0 0), (6, .p 1 0), (21, .v (.slice (some ⟨b21, 0, none⟩) 2 2)), (22, .v (.int .i64 2)), (23, .v (.int .i64 i))] ∧ B = [some ⟨cellsS (.v (swA s p)), 26⟩, some ⟨cellsS (.v swZ), 83⟩])
  ⟨0, rfl, by omega, rfl, fun h => by omega, fun h => by omega, rfl, rfl⟩ (by exact ⟨rfl, rfl, rfl, rfl, rfl, trivial⟩) (by exact ⟨rfl, rfl, trivial⟩) ?_
 rintro _ _ _ _ ⟨i, rfl, hi, rfl, hd1, hd2, rfl, rfl⟩ again
 refine W.go 99 rfl ?_
 refine W.split rfl rfl rfl (fun e2 => W.go 99 rfl ?_) (fun e2 => W.go 99 rfl ?_)
 ·have hi2 : i < 2 := by simp at e2; omega
  refine W.vf rfl rfl rfl rfl (Vf.idx1 rfl rfl rfl rfl rfl rfl rfl (hi2)) ?_
  obtain ⟨ad, cap, xs, bd, hxs, hbd, hbd0, hcell, hall, hdn⟩ : ∃ (ad : Option Addr) (cap : Nat) (xs : List Int) (bd : Nat), IntsAt L2 ad xs ∧ [Value.int .i64 s.loaves.length, .int .i64 s.wants.length][i]? = some (.int .i64 bd) ∧ bd ≤ 1000 ∧ L2.cell? ⟨b21, i, none⟩ = some (.slice ad xs.length cap) ∧ xs.length ≤ 1000000 ∧
    ((xs.all fun x => inB x 0 ((bd : Int) - 1)) = true → (1 ≤ i + 1 → (is.all fun i => inB i 0 ((s.loaves.length : Int) - 1)) = true) ∧ (2 ≤ i + 1 → (ds.all fun d => inB d 0 ((s.wants.length : Int) - 1)) = true)) ∧ ((xs.all fun x => inB x 0 ((bd : Int) - 1)) = false → openW s is ds = 3) := by
   obtain rfl | rfl : i = 0 ∨ i = 1 := by omega
   ·refine ⟨a2, c2, is, s.loaves.length, h2.le hl2, rfl, by omega, cell_of g21 rfl, hn2, fun hx => ⟨fun _ => hx, fun h => by omega⟩, fun hx => ?_⟩
    rw [hop, hx]; rfl
   ·refine ⟨a3, c3, ds, s.wants.length, h3.le hl2, rfl, by omega, cell_of g21 rfl, hn3, fun hx => ⟨fun _ => hd1 (Nat.le_refl _), fun _ => hx⟩, fun hx => ?_⟩
    rw [hop, hx, Bool.and_false]; rfl
  obtain ⟨hdn, hbad⟩ := hdn
  have hcell' : L2.cell? (Addr.add ⟨b21, 0, none⟩ i) = some (.slice ad xs.length cap) := by rw [add_of, Nat.zero_add]; exact hcell
  refine W.vf rfl rfl rfl rfl (Vf.load rfl rfl rfl (hcell')) ?_
  refine W.go 99 rfl ?_
  refine W.loop (fun m E B L' => ∃ (j : Nat), m = xs.length - j ∧ j ≤ xs.length ∧ L2 = L' ∧ ((xs.take j).all fun x => inB x 0 ((bd : Int) - 1)) = true ∧
    E = [(3, .p 0 0), (6, .p 1 0), (9, .v (.int .i64 i)), (21, .v (.slice (some ⟨b21, 0, none⟩) 2 2)), (22, .v (.int .i64 2)), (23, .v (.int .i64 i)), (28, .v (.slice ad xs.length cap)), (29, .v (.int .i64 xs.length)), (30, .v (.int .i64 j))] ∧ B = [some ⟨cellsS (.v (swA s p)), 26⟩, some ⟨cellsS (.v swZ), 83⟩])
   ⟨0, rfl, by omega, rfl, rfl, rfl, rfl⟩ (by exact ⟨rfl, rfl, rfl, rfl, rfl, rfl, rfl, rfl, rfl, trivial⟩) (by exact ⟨rfl, rfl, trivial⟩) ?_
  rintro _ _ _ _ ⟨j, rfl, hj, rfl, hdj, rfl, rfl⟩ again2
  refine W.go 99 rfl ?_
  refine W.split rfl rfl rfl (fun e3 => W.go 99 rfl ?_) (fun e3 => W.go 99 rfl ?_)
  ·have hjl : j < xs.length := by simpa using e3
   obtain ⟨xa, rfl⟩ := hxs.addr hjl
   have htk : xs.take (j + 1) = xs.take j ++ [xs[j]] := List.take_succ_eq_append_getElem hjl
   refine W.vf rfl rfl rfl rfl (Vf.idx1 rfl rfl rfl rfl rfl rfl rfl (hjl)) ?_
   refine W.go 99 rfl ?_
   refine W.vf rfl rfl rfl rfl (Vf.load rfl rfl rfl (hxs.int (List.getElem?_eq_getElem hjl))) ?_
   refine W.go 99 rfl ?_
   refine W.vf rfl rfl rfl rfl (Vf.index rfl rfl rfl Tryz.underlying134 size3 agg3 hi2 hbd) ?_
   refine W.go 99 rfl ?_
   rw [wrap64_in _ (by omega) (by omega)]
   refine W.eff rfl rfl rfl (Ef.call rfl (within_sp _ _ _ _)) ?_
   rintro _ _ _ ⟨_, rfl, rfl, rfl, rfl⟩
   refine W.go 99 rfl ?_
   refine W.split rfl rfl rfl (fun e4 => W.go 99 rfl ?_) (fun e4 => W.go 99 rfl ?_)
   ·have hf : inB xs[j] 0 ((bd : Int) - 1) = false := by simpa using e4
    have h3 := hbad (by rw [List.all_eq_false]; exact ⟨xs[j], List.getElem_mem hjl, by rw [hf]; simp⟩)
    refine W.ret r rfl rfl ?_
    exact ⟨hl2, .inl ⟨by rw [h3]; decide, by rw [h3]; rfl⟩⟩
   ·have hf : inB xs[j] 0 ((bd : Int) - 1) = true := by simpa using e4
    exact W.again (again2 _ _ _ _ (by omega) ⟨j + 1, rfl, by omega, rfl, by rw [htk, List.all_append, hdj]; simpa using hf, rfl, rfl⟩) ⟨rfl, rfl, rfl, rfl, rfl, rfl, rfl, rfl, congrArg some (inc64 (by omega)), trivial⟩ ⟨rfl, rfl, trivial⟩
  ·have hje : j = xs.length := by simp at e3; omega
   subst hje
   rw [List.take_length] at hdj
   obtain ⟨q1, q2⟩ := hdn hdj
   exact W.again (again _ _ _ _ (by omega) ⟨i + 1, rfl, by omega, rfl, q1, q2, rfl, rfl⟩) ⟨rfl, rfl, rfl, rfl, congrArg some (inc64 (by omega)), trivial⟩ ⟨rfl, rfl, trivial⟩
 ·have hie : i = 2 := by simp at e2; omega
  subst hie
  have h0 : openW s is ds = 0 := by rw [hop, hd1 (by omega), hd2 (by omega)]; rfl
  refine W.ret r rfl rfl ?_
  exact ⟨hl2, .inr ⟨h0, rfl⟩⟩
theorem or_lt : ∀ m : Nat, m < 32 → ∀ i : Nat, i < 5 → m ||| 2 ^ i < 32 := by decide +kernel
theorem maskW_lt {w : List Nat} : (∀ i ∈ w, i < 5) → maskW w < 32 := by
 generalize hn : w.length = n
 induction n generalizing w with
 | zero => intro _; rw [List.length_eq_zero_iff] at hn; subst hn; decide
 | succ n ih =>
  intro h
  have hne : w ≠ [] := fun e => by subst e; simp at hn
  obtain ⟨k, x, rfl⟩ : ∃ k x, w = k ++ [x] := ⟨w.dropLast, w.getLast hne, (List.dropLast_concat_getLast hne).symm⟩
  rw [maskW_snoc]
  exact or_lt _ (ih (by simp at hn; omega) fun i hi => h i (List.mem_append_left _ hi)) _ (h x (by simp))
theorem read_sp (s : Sw) (p : Wp) (ad : Option Addr) (c : Nat) (l : List Int) (L : LH) (hw5 : s.wants.length ≤ 5) (hl : IntsAt L ad l) (hn : l.length ≤ 1000000) :
  Sp X 87 [swA s p, .slice ad l.length c] L (fun v L' => L = L' ∧ ((readW s l ≠ 0 ∧ v = .tuple #[.int .u8 0, .int .i64 (readW s l)]) ∨ (readW s l = 0 ∧ v = .tuple #[.int .u8 (maskW (natsW l)), .int .i64 0]))) := by
 refine Sp.enter (n := 40) Tryz.func87 rfl rfl rfl rfl fun C hX _ hL0 r => ?_
 refine W.go 99 rfl ?_
 refine W.loop (fun m E B L' => ∃ (i : Nat), m = l.length - i ∧ i ≤ l.length ∧ readGo ((s.wants.length : Int) - 1) (prevO l i) (l.drop i) = readW s l ∧ (∀ k ∈ natsW (l.take i), k < 5) ∧ L = L' ∧
   E = [(1, .v (.slice ad l.length c)), (2, .p 0 0), (6, .v (.int .u8 (maskW (natsW (l.take i))))), (9, .v (.slice ad l.length c)), (10, .v (.int .i64 l.length)), (11, .v (.int .i64 i))] ∧ B = [some ⟨cellsS (.v (swA s p)), 83⟩])
  ⟨0, rfl, by omega, rfl, by simp [natsW], rfl, rfl, rfl⟩ (by exact ⟨rfl, rfl, rfl, rfl, rfl, rfl, trivial⟩) (by exact ⟨rfl, trivial⟩) ?_
 rintro _ _ _ _ ⟨i, rfl, h1, hg, hb5, rfl, rfl, rfl⟩ again
 refine W.go 99 rfl ?_
 refine W.split rfl rfl rfl (fun e1 => W.go 99 rfl ?_) (fun e1 => W.go 99 rfl ?_)
 ·have hi : i < l.length := by simpa using e1
  obtain ⟨lad, rfl⟩ := hl.addr hi
  have htk : l.take (i + 1) = l.take i ++ [l[i]] := List.take_succ_eq_append_getElem hi
  rw [List.drop_eq_getElem_cons hi, readGo] at hg
  refine W.vf rfl rfl rfl rfl (Vf.idx1 rfl rfl rfl rfl rfl rfl rfl (hi)) ?_
  refine W.go 99 rfl ?_
  refine W.vf rfl rfl rfl rfl (Vf.load rfl rfl rfl (hl.int (List.getElem?_eq_getElem hi))) ?_
  refine W.go 99 rfl ?_
  rw [wrap64_in ((s.wants.length : Int) - 1) (by omega) (by omega)]
  refine W.eff rfl rfl rfl (Ef.call rfl (within_sp _ _ _ _)) ?_
  rintro _ _ _ ⟨_, rfl, rfl, rfl, rfl⟩
  refine W.go 99 rfl ?_
  refine W.split rfl rfl rfl (fun e2 => W.go 99 rfl ?_) (fun e2 => W.go 99 rfl ?_)
  ·rw [if_pos (by simpa using e2)] at hg
   refine W.ret r rfl rfl ?_
   exact ⟨rfl, .inl ⟨by rw [← hg]; decide, by rw [← hg]; rfl⟩⟩
  rw [if_neg (by simpa using e2)] at hg
  have hin : 0 ≤ l[i] ∧ l[i] < 5 := by simp [inB] at e2; omega
  have hln : l[i] = ((l[i].toNat : Nat) : Int) := by omega
  have hm := maskW_lt hb5
  have hnx : natsW (l.take (i + 1)) = natsW (l.take i) ++ [l[i].toNat] := by unfold natsW; rw [htk, List.map_append]; rfl
  have hb5' : ∀ k ∈ natsW (l.take (i + 1)), k < 5 := fun k hk => by
   rw [hnx] at hk
   rcases List.mem_append.1 hk with hk | hk
   ·exact hb5 k hk
   ·rw [List.mem_singleton.1 hk]; omega
  have hwith := with_sp (X := C.X) (maskW (natsW (l.take i))) l[i].toNat hm (by omega) L
  rw [← hln, ← maskW_snoc, ← hnx] at hwith
  refine W.split rfl rfl rfl (fun e3 => ?_) (fun e3 => ?_)
  ·have hi0 : 0 < i := by simpa using e3
   have hp : prevO l i = some l[i - 1] := by unfold prevO; rw [if_neg (by omega)]; exact List.getElem?_eq_getElem (by omega)
   rw [hp] at hg
   have hw : IntKind.i64.wrap ((i : Int) - 1) = ((i - 1 : Nat) : Int) := by rw [wrap64_in _ (by omega) (by omega)]; omega
   refine W.go 99 rfl ?_
   rw [hw]
   refine W.vf rfl rfl rfl rfl (Vf.idx1 rfl rfl rfl rfl rfl rfl rfl ((show i - 1 < l.length by omega))) ?_
   refine W.go 99 rfl ?_
   refine W.vf rfl rfl rfl rfl (Vf.load rfl rfl rfl (hl.int (List.getElem?_eq_getElem (show i - 1 < l.length by omega)))) ?_
   refine W.go 99 rfl ?_
   refine W.split rfl rfl rfl (fun e4 => W.go 99 rfl ?_) (fun e4 => W.go 99 rfl ?_)
   ·rw [if_pos (by simpa [downB] using e4)] at hg
    refine W.ret r rfl rfl ?_
    exact ⟨rfl, .inl ⟨by rw [← hg]; decide, by rw [← hg]; rfl⟩⟩
   ·rw [if_neg (by simpa [downB] using e4)] at hg
    refine W.eff rfl rfl rfl (Ef.call rfl (hwith)) ?_
    rintro _ _ _ ⟨_, rfl, rfl, rfl, rfl⟩
    refine W.go 99 rfl ?_
    exact W.again (again _ _ _ _ (by omega) ⟨i + 1, rfl, by omega, by rw [prevO_succ hi]; exact hg, hb5', rfl, rfl, rfl⟩) ⟨rfl, rfl, rfl, rfl, rfl, congrArg some (inc64 (by omega)), trivial⟩ ⟨rfl, trivial⟩
  ·have hi0 : i = 0 := by simp at e3; omega
   subst hi0
   refine W.go 99 rfl ?_
   refine W.eff rfl rfl rfl (Ef.call rfl (hwith)) ?_
   rintro _ _ _ ⟨_, rfl, rfl, rfl, rfl⟩
   refine W.go 99 rfl ?_
   exact W.again (again _ _ _ _ (by omega) ⟨1, rfl, by omega, by rw [prevO_succ hi]; exact hg, hb5', rfl, rfl, rfl⟩) ⟨rfl, rfl, rfl, rfl, rfl, congrArg some (inc64 (by omega)), trivial⟩ ⟨rfl, trivial⟩
 ·have hie : i = l.length := by simp at e1; omega
  subst hie
  rw [List.drop_length] at hg
  have h0 : readW s l = 0 := hg.symm
  refine W.ret r rfl rfl ?_
  rw [List.take_length]
  exact ⟨rfl, .inr ⟨h0, rfl⟩⟩
end Go.Mz


set_option maxRecDepth 100000
namespace Go.Mz
open Go.Conc Go.Proofs
variable {X : Logic Tryz.prog}
def ordV (s : Sw) (x : Want) : Value :=
 if x.sort = 0 then .iface 193 (.agg #[.int .i64 x.kind]) else if x.sort = 1 then .iface 195 (.agg #[.int .i64 x.kind, .int .i64 x.amount]) else .iface 191 (.agg #[.int .i64 x.kind, .int .i64 (restW s x)])
theorem rest_bd {s : Sw} (h : SOk s) (x : Want) : 0 ≤ restW s x ∧ restW s x ≤ 36 := by
 have h1 : 0 ≤ sumL ((loafAt s x.kind).take ((loafAt s x.kind).length - x.amount.toNat)) ∧ sumL ((loafAt s x.kind).take ((loafAt s x.kind).length - x.amount.toNat)) ≤ 36 := by
  have hl : loafAt s x.kind ∈ s.loaves ∨ loafAt s x.kind = [] := by
   unfold loafAt
   rw [List.getD_eq_getElem?_getD]
   cases e : s.loaves[x.kind.toNat]? with
   | none => exact .inr rfl
   | some l => exact .inl (List.mem_of_getElem? e)
  rcases hl with hl | hl
  ·have hlf := h.lf _ hl
   have := sumL_bk 9 ((loafAt s x.kind).take ((loafAt s x.kind).length - x.amount.toNat)) fun y hy => by have := hlf.r y (List.mem_of_mem_take hy); omega
   have h4 := hlf.l4
   rw [List.length_take] at this
   omega
  ·rw [hl]; simp [sumL]
 have := h.k0
 unfold restW
 omega
theorem loaf_bd {s : Sw} (h : SOk s) {l : List Int} (hl : l ∈ s.loaves) : 0 ≤ sumL l ∧ sumL l ≤ 36 := by
 have hlf := h.lf _ hl
 have := sumL_bk 9 l fun y hy => by have := hlf.r y hy; omega
 have h4 := hlf.l4
 omega
theorem order_sp (s : Sw) (p : Wp) (x : Want) (L : LH) (hs : SwAt L s p) (hok : SOk s) (hx : WtOk s.loaves x) : Sp X 141 [swA s p, .agg (encWt x).toArray] L (fun v L' => v = ordV s x ∧ L = L') := by
 refine Sp.enter (n := 46) Tryz.func141 rfl rfl rfl rfl fun C hX _ hL0 r => ?_
 refine W.go 99 rfl ?_
 refine W.split rfl rfl rfl (fun e1 => ?_) (fun e1 => ?_)
 ·refine W.go 99 rfl ?_
  have e1' : x.sort = 0 := by simpa using e1
  exact W.ret r rfl rfl ⟨by unfold ordV; rw [if_pos e1']; rfl, rfl⟩
 have e1' : ¬ x.sort = 0 := by simpa using e1
 refine W.go 99 rfl ?_
 refine W.split rfl rfl rfl (fun e2 => ?_) (fun e2 => ?_)
 ·refine W.go 99 rfl ?_
  have e2' : x.sort = 1 := by simpa using e2
  exact W.ret r rfl rfl ⟨by unfold ordV; rw [if_neg e1', if_pos e2']; rfl, rfl⟩
 have e2' : ¬ x.sort = 1 := by simpa using e2
 have h0 := hx.s0
 have h2 := hx.s2
 have hk0 := hx.k0
 have hk1 := hx.k1
 have ha0 := hx.a0
 have ha1 := hx.a1
 have hs2 : x.sort = 2 := by omega
 rw [wKd, if_neg e2'] at hk0
 rw [wLo, if_neg e1'] at ha0
 rw [wHi, if_neg e1', if_neg e2'] at ha1
 have hki : x.kind.toNat < s.loaves.length := by omega
 have hl : s.loaves[x.kind.toNat]? = some s.loaves[x.kind.toNat] := List.getElem?_eq_getElem hki
 obtain ⟨la, hla⟩ := hs.lo.addr hki
 have hlo := hs.lo
 rw [hla] at hlo
 obtain ⟨a, c, hc, hsl, hcp⟩ := hlo.row hl
 have hgd := loafAt0 hl
 have hat : loafAt s x.kind = s.loaves[x.kind.toNat] := hgd
 rw [hgd] at ha1
 have hlf := hok.lf _ (List.mem_of_getElem? hl)
 have hl4 := hlf.l4
 obtain ⟨qa, qb, qc, qd, qe, qf⟩ := p
 obtain rfl : qa = some la := hla
 have hr : restW s x = max 0 (sumL ((s.loaves[x.kind.toNat]).take ((s.loaves[x.kind.toNat]).length - x.amount.toNat)) - s.kerf) := by unfold restW; rw [hat]
 have hrb := rest_bd hok x
 have hk03 := hok.k0
 have hk3 := hok.k3
 have hsb := sumL_bk 9 ((s.loaves[x.kind.toNat]).take ((s.loaves[x.kind.toNat]).length - x.amount.toNat)) fun y hy => by have := hlf.r y (List.mem_of_mem_take hy); omega
 rw [List.length_take] at hsb
 refine W.go 99 rfl ?_
 refine W.vf rfl rfl rfl rfl (Vf.idx1 rfl rfl rfl rfl rfl rfl (show x.kind = ((x.kind.toNat : Nat) : Int) by omega) hki) ?_
 refine W.go 99 rfl ?_
 refine W.vf rfl rfl rfl rfl (Vf.load rfl rfl rfl (hc)) ?_
 refine W.go 99 rfl ?_
 refine W.drawn (by kernel_rfl) _ (Le.refl _) ?_
 refine DD.run' [0, 1, 2, 3, 4, 5, 6, 7, 10, 11, 12] rfl ?_
 obtain ⟨j, hj⟩ : ∃ j, (s.loaves[x.kind.toNat]).length - x.amount.toNat = j := ⟨_, rfl⟩
 have hw : IntKind.i64.wrap (((s.loaves[x.kind.toNat]).length : Int) - x.amount) = (j : Int) := by rw [wrap64_in _ (by omega) (by omega)]; omega
 rw [hj] at hr hsb
 have hlj : ((s.loaves[x.kind.toNat]).take j).length = j := by rw [List.length_take]; omega
 have hsum := sum_sp (X := C.X) a c ((s.loaves[x.kind.toNat]).take j) L (hsl.take j) (by omega) fun y hy => by have := hlf.r y (List.mem_of_mem_take hy); omega
 rw [hlj] at hsum
 rw [hw]
 refine DD.vf 8 rfl rfl rfl rfl rfl (Vf.sliceT rfl rfl Tryz.underlying23 size3 (show j ≤ c by omega)) ?_
 refine DD.act 9 rfl rfl rfl rfl rfl (Ef.call rfl (hsum)) (by rintro _ _ _ ⟨_, rfl, rfl, rfl, rfl⟩; exact ⟨Le.refl _, rfl, .inl rfl⟩) ?_
 rintro _ _ _ ⟨_, rfl, rfl, rfl, rfl⟩
 refine DD.run' [13] rfl ?_
 rw [wrap64_in _ (by omega) (by omega)]
 refine DD.run' [14, 15, 16, 17] rfl ?_
 refine .fin rfl ?_
 refine W.go 99 rfl ?_
 refine W.ret r rfl rfl ?_
 refine ⟨?_, rfl⟩
 have hmx : (if sumL ((s.loaves[x.kind.toNat]).take j) - s.kerf > 0 then sumL ((s.loaves[x.kind.toNat]).take j) - s.kerf else 0) = restW s x := by
  rw [hr]; split <;> omega
 unfold ordV
 rw [if_neg e1', if_neg e2', ← hmx]
 rfl
def encPl (P : Pl) : List Value := (P.t ++ P.s ++ P.d ++ [P.a]).map (Value.int .i64)
def B3 (n : Int) (l : List Int) : Prop := ∃ a b c, l = [a, b, c] ∧ (0 ≤ a ∧ a ≤ n) ∧ (0 ≤ b ∧ b ≤ n) ∧ (0 ≤ c ∧ c ≤ n)
structure PB (n : Int) (P : Pl) : Prop where
 t : B3 n P.t
 s : B3 n P.s
 d : B3 n P.d
 a : 0 ≤ P.a ∧ P.a ≤ n
theorem B3.mono {n m : Int} {l : List Int} (h : B3 n l) (hm : n ≤ m) : B3 m l := let ⟨a, b, c, e, h1, h2, h3⟩ := h; ⟨a, b, c, e, by omega, by omega, by omega⟩
theorem PB.mono {n m : Int} {P : Pl} (h : PB n P) (hm : n ≤ m) : PB m P := ⟨h.t.mono hm, h.s.mono hm, h.d.mono hm, by have := h.a; omega⟩
theorem B3.add {n m : Int} {l : List Int} (h : B3 n l) (k : Nat) {x : Int} (h0 : 0 ≤ x) (h1 : x ≤ m) : B3 (n + m) (addAt l k x) := by
 obtain ⟨a, b, c, rfl, ha, hb, hc⟩ := h
 match k with
 | 0 => exact ⟨a + x, b, c, rfl, by omega, by omega, by omega⟩
 | 1 => exact ⟨a, b + x, c, rfl, by omega, by omega, by omega⟩
 | 2 => exact ⟨a, b, c + x, rfl, by omega, by omega, by omega⟩
 | k + 3 => exact ⟨a, b, c, by cases k <;> rfl, by omega, by omega, by omega⟩
theorem PB.serve {s : Sw} (hok : SOk s) {n : Int} {P : Pl} {x : Want} (hx : WtOk s.loaves x) (h : PB n P) : PB (n + 60) (serveW s P x) := by
 have hr := rest_bd hok x
 have h0 := hx.s0
 have h2 := hx.s2
 have ha0 := hx.a0
 have ha1 := hx.a1
 have hn : n ≤ n + 60 := by omega
 unfold serveW
 split
 ·exact ⟨h.t.add _ (by omega) (by omega), h.s.mono hn, h.d.mono hn, by have := h.a; show 0 ≤ P.a ∧ P.a ≤ n + 60; omega⟩
 ·rename_i e0
  split
  ·rename_i e1
   rw [wLo, if_neg e0] at ha0
   rw [wHi, if_neg e0, if_pos e1] at ha1
   split
   ·exact ⟨h.t.mono hn, h.s.mono hn, h.d.mono hn, by have := h.a; show 0 ≤ P.a + x.amount ∧ P.a + x.amount ≤ n + 60; omega⟩
   ·exact ⟨h.t.mono hn, h.s.mono hn, h.d.add _ (by omega) (by omega), by have := h.a; show 0 ≤ P.a ∧ P.a ≤ n + 60; omega⟩
  ·exact ⟨h.t.add _ (by omega) (by omega), h.s.add _ (by omega) (by omega), h.d.mono hn, by have := h.a; show 0 ≤ P.a ∧ P.a ≤ n + 60; omega⟩
def ServQ (b : Nat) (L : LH) (P : Pl) (v : Value) (L' : LH) : Prop := v = .tuple #[] ∧ (∀ b', b' ≠ b → L' b' = L b') ∧ L' b = some (.cells (encPl P).toArray 126 (0, 0), true)
theorem B3.len {n : Int} {l : List Int} (h : B3 n l) : l.length = 3 := by obtain ⟨a, b, c, rfl, _⟩ := h; rfl
theorem B3.get {n : Int} {l : List Int} (h : B3 n l) (k : Nat) : 0 ≤ l.getD k 0 ∧ l.getD k 0 ≤ n := by
 obtain ⟨a, b, c, rfl, ha, hb, hc⟩ := h
 match k with
 | 0 => exact ha
 | 1 => exact hb
 | 2 => exact hc
 | k + 3 => simp; omega
theorem encPl_len {n : Int} {P : Pl} (h : PB n P) : (encPl P).length = 10 := by
 unfold encPl
 simp [h.t.len, h.s.len, h.d.len]
theorem encPl_t {n : Int} {P : Pl} (h : PB n P) {k : Nat} (hk : k < 3) : (encPl P)[k]? = some (.int .i64 (P.t.getD k 0)) := by
 obtain ⟨t0, t1, t2, e, _⟩ := h.t
 unfold encPl
 rw [e]
 match k, hk with
 | 0, _ => rfl
 | 1, _ => rfl
 | 2, _ => rfl
theorem encPl_s {n : Int} {P : Pl} (h : PB n P) {k : Nat} (hk : k < 3) : (encPl P)[3 + k]? = some (.int .i64 (P.s.getD k 0)) := by
 obtain ⟨t0, t1, t2, e, _⟩ := h.t
 obtain ⟨s0, s1, s2, e2, _⟩ := h.s
 unfold encPl
 rw [e, e2]
 match k, hk with
 | 0, _ => rfl
 | 1, _ => rfl
 | 2, _ => rfl
theorem encPl_d {n : Int} {P : Pl} (h : PB n P) {k : Nat} (hk : k < 3) : (encPl P)[6 + k]? = some (.int .i64 (P.d.getD k 0)) := by
 obtain ⟨t0, t1, t2, e, _⟩ := h.t
 obtain ⟨s0, s1, s2, e2, _⟩ := h.s
 obtain ⟨d0, d1, d2, e3, _⟩ := h.d
 unfold encPl
 rw [e, e2, e3]
 match k, hk with
 | 0, _ => rfl
 | 1, _ => rfl
 | 2, _ => rfl
theorem encPl_a {n : Int} {P : Pl} (h : PB n P) : (encPl P)[9]? = some (.int .i64 P.a) := by
 obtain ⟨t0, t1, t2, e, _⟩ := h.t
 obtain ⟨s0, s1, s2, e2, _⟩ := h.s
 obtain ⟨d0, d1, d2, e3, _⟩ := h.d
 unfold encPl
 rw [e, e2, e3]
 rfl
theorem putPl_t {n : Int} {P : Pl} (h : PB n P) {k : Nat} (hk : k < 3) {o : Nat} (ho : o = k) (x : Int) : putRow (encPl P).toArray o [.int .i64 (P.t.getD k 0 + x)] = (encPl { P with t := addAt P.t k x }).toArray := by
 rw [ho]
 obtain ⟨t0, t1, t2, e, _⟩ := h.t
 obtain ⟨s0, s1, s2, e2, _⟩ := h.s
 obtain ⟨d0, d1, d2, e3, _⟩ := h.d
 unfold encPl
 simp only [e, e2, e3]
 match k, hk with
 | 0, _ => rfl
 | 1, _ => rfl
 | 2, _ => rfl
theorem putPl_s {n : Int} {P : Pl} (h : PB n P) {k : Nat} (hk : k < 3) {o : Nat} (ho : o = 3 + k) (x : Int) : putRow (encPl P).toArray o [.int .i64 (P.s.getD k 0 + x)] = (encPl { P with s := addAt P.s k x }).toArray := by
 rw [ho]
 obtain ⟨t0, t1, t2, e, _⟩ := h.t
 obtain ⟨s0, s1, s2, e2, _⟩ := h.s
 obtain ⟨d0, d1, d2, e3, _⟩ := h.d
 unfold encPl
 simp only [e, e2, e3]
 match k, hk with
 | 0, _ => rfl
 | 1, _ => rfl
 | 2, _ => rfl
theorem putPl_d {n : Int} {P : Pl} (h : PB n P) {k : Nat} (hk : k < 3) {o : Nat} (ho : o = 6 + k) (x : Int) : putRow (encPl P).toArray o [.int .i64 (P.d.getD k 0 + x)] = (encPl { P with d := addAt P.d k x }).toArray := by
 rw [ho]
 obtain ⟨t0, t1, t2, e, _⟩ := h.t
 obtain ⟨s0, s1, s2, e2, _⟩ := h.s
 obtain ⟨d0, d1, d2, e3, _⟩ := h.d
 unfold encPl
 simp only [e, e2, e3]
 match k, hk with
 | 0, _ => rfl
 | 1, _ => rfl
 | 2, _ => rfl
theorem putPl_a {n : Int} {P : Pl} (h : PB n P) (x : Int) : putRow (encPl P).toArray 9 [.int .i64 (P.a + x)] = (encPl { P with a := P.a + x }).toArray := by
 obtain ⟨t0, t1, t2, e, _⟩ := h.t
 obtain ⟨s0, s1, s2, e2, _⟩ := h.s
 obtain ⟨d0, d1, d2, e3, _⟩ := h.d
 unfold encPl
 simp only [e, e2, e3]
 rfl
theorem servQ_of {b : Nat} {L : LH} {P' : Pl} {c : Array Value} (h : c = (encPl P').toArray) : ServQ b L P' (.tuple #[]) (L.put b (.cells c 126)) :=
 ⟨rfl, fun b' hb' => put_ne _ _ hb', by subst h; exact put_same _ _ _⟩
theorem serve1_sp (b : Nat) (k : Nat) (P : Pl) (L : LH) (h3 : k < 3) (hP : PB 4000 P) (hb : L b = some (.cells (encPl P).toArray 126 (0, 0), true)) : Sp X 196 [.agg #[.int .i64 k], pt b] L (ServQ b L { P with t := addAt P.t k 1 }) := by
 have hlen := encPl_len hP
 have hg := hP.t.get k
 have hcell : L.cell? ((Addr.add ⟨b, 0, none⟩ 0).add (k * 1)) = some (.int .i64 (P.t.getD k 0)) := by rw [add_of, add_of]; exact cell_of hb (by rw [List.getElem?_toArray, Nat.mul_one]; rw [show 0 + 0 + k = k by omega]; exact encPl_t hP h3)
 refine Sp.enter (n := 15) Tryz.func196 rfl rfl rfl rfl fun C hX _ hL0 r => ?_
 refine W.go 99 rfl ?_
 refine W.drawn (by kernel_rfl) noL (noL_le _) ?_
 refine DD.run' [0, 1, 2, 3, 4, 8, 9] rfl ?_
 refine DD.vf 5 rfl rfl rfl rfl rfl (Vf.idxF rfl rfl rfl rfl rfl rfl (h3)) ?_
 refine DD.act 6 rfl rfl rfl rfl rfl (Ef.val rfl (Vf.load rfl rfl rfl (hcell))) (by rintro _ _ _ ⟨rfl, rfl, rfl⟩; exact ⟨noL_le _, rfl, .inl rfl⟩) ?_
 rintro _ _ _ ⟨rfl, rfl, rfl⟩
 refine DD.run' [7] rfl ?_
 rw [wrap64_in _ (by omega) (by omega)]
 refine DD.vf 10 rfl rfl rfl rfl rfl (Vf.idxF rfl rfl rfl rfl rfl rfl (h3)) ?_
 rw [add_of, add_of]
 refine DD.act 11 rfl rfl rfl rfl rfl (Ef.stoF rfl ⟨_, rfl, rfl⟩ rfl hb rfl (by rw [List.size_toArray, hlen]; show 0 + 0 + k * 1 + 1 ≤ 10; omega) (singles rfl)) (by rintro _ _ _ ⟨rfl, rfl, rfl⟩; exact ⟨noL_le _, rfl, .inl rfl⟩) ?_
 rintro _ _ _ ⟨rfl, rfl, rfl⟩
 refine .fin rfl ?_
 refine W.go 99 rfl ?_
 exact W.ret0 r rfl rfl (servQ_of (putPl_t hP h3 (show 0 + 0 + k * 1 = k by omega) 1))
theorem serve2a_sp (b : Nat) (k a : Int) (P : Pl) (L : LH) (hk : k < 0) (ha : 0 ≤ a ∧ a ≤ 100) (hP : PB 4000 P) (hb : L b = some (.cells (encPl P).toArray 126 (0, 0), true)) : Sp X 197 [.agg #[.int .i64 k, .int .i64 a], pt b] L (ServQ b L { P with a := P.a + a }) := by
 have hlen := encPl_len hP
 have hg := hP.a
 have hcell : L.cell? (Addr.add ⟨b, 0, none⟩ 9) = some (.int .i64 P.a) := by rw [add_of]; exact cell_of hb (by rw [List.getElem?_toArray]; exact encPl_a hP)
 refine Sp.enter (n := 29) Tryz.func197 rfl rfl rfl rfl fun C hX _ hL0 r => ?_
 refine W.go 99 rfl ?_
 refine W.split rfl rfl rfl (fun e1 => W.go 99 rfl ?_) (fun e1 => W.go 99 rfl ?_)
 ·refine W.drawn (by kernel_rfl) noL (noL_le _) ?_
  refine DD.run' [0, 1, 2, 4, 5] rfl ?_
  refine DD.act 3 rfl rfl rfl rfl rfl (Ef.val rfl (Vf.load rfl rfl rfl (hcell))) (by rintro _ _ _ ⟨rfl, rfl, rfl⟩; exact ⟨noL_le _, rfl, .inl rfl⟩) ?_
  rintro _ _ _ ⟨rfl, rfl, rfl⟩
  refine DD.run' [6] rfl ?_
  rw [wrap64_in _ (by omega) (by omega)]
  refine DD.run' [7, 8] rfl ?_
  refine DD.act 9 rfl rfl rfl rfl rfl (Ef.stoF rfl ⟨_, rfl, rfl⟩ rfl hb rfl (by rw [List.size_toArray, hlen]; show 0 + 9 + 1 ≤ 10; decide) (singles rfl)) (by rintro _ _ _ ⟨rfl, rfl, rfl⟩; exact ⟨noL_le _, rfl, .inl rfl⟩) ?_
  rintro _ _ _ ⟨rfl, rfl, rfl⟩
  refine .fin rfl ?_
  refine W.go 99 rfl ?_
  exact W.ret r rfl rfl (servQ_of (putPl_a hP a))
 ·simp at e1; omega
theorem serve2b_sp (b : Nat) (k : Nat) (a : Int) (P : Pl) (L : LH) (h3 : k < 3) (ha : 0 ≤ a ∧ a ≤ 100) (hP : PB 4000 P) (hb : L b = some (.cells (encPl P).toArray 126 (0, 0), true)) : Sp X 197 [.agg #[.int .i64 k, .int .i64 a], pt b] L (ServQ b L { P with d := addAt P.d k a }) := by
 have hlen := encPl_len hP
 have hg := hP.d.get k
 have hcell : L.cell? ((Addr.add ⟨b, 0, none⟩ 6).add (k * 1)) = some (.int .i64 (P.d.getD k 0)) := by rw [add_of, add_of]; exact cell_of hb (by rw [List.getElem?_toArray, Nat.mul_one]; rw [show 0 + 6 + k = 6 + k by omega]; exact encPl_d hP h3)
 refine Sp.enter (n := 29) Tryz.func197 rfl rfl rfl rfl fun C hX _ hL0 r => ?_
 refine W.go 99 rfl ?_
 refine W.split rfl rfl rfl (fun e1 => W.go 99 rfl ?_) (fun e1 => W.go 99 rfl ?_)
 ·simp at e1; omega
 ·refine W.drawn (by kernel_rfl) noL (noL_le _) ?_
  refine DD.run' [0, 1, 2, 3, 4, 7, 8, 10, 11] rfl ?_
  refine DD.vf 5 rfl rfl rfl rfl rfl (Vf.idxF rfl rfl rfl rfl rfl rfl (h3)) ?_
  refine DD.act 6 rfl rfl rfl rfl rfl (Ef.val rfl (Vf.load rfl rfl rfl (hcell))) (by rintro _ _ _ ⟨rfl, rfl, rfl⟩; exact ⟨noL_le _, rfl, .inl rfl⟩) ?_
  rintro _ _ _ ⟨rfl, rfl, rfl⟩
  refine DD.run' [9] rfl ?_
  rw [wrap64_in _ (by omega) (by omega)]
  refine DD.vf 12 rfl rfl rfl rfl rfl (Vf.idxF rfl rfl rfl rfl rfl rfl (h3)) ?_
  rw [add_of, add_of]
  refine DD.act 13 rfl rfl rfl rfl rfl (Ef.stoF rfl ⟨_, rfl, rfl⟩ rfl hb rfl (by rw [List.size_toArray, hlen]; show 0 + 6 + k * 1 + 1 ≤ 10; omega) (singles rfl)) (by rintro _ _ _ ⟨rfl, rfl, rfl⟩; exact ⟨noL_le _, rfl, .inl rfl⟩) ?_
  rintro _ _ _ ⟨rfl, rfl, rfl⟩
  refine .fin rfl ?_
  refine W.go 99 rfl ?_
  exact W.ret0 r rfl rfl (servQ_of (putPl_d hP h3 (show 0 + 6 + k * 1 = 6 + k by omega) a))
theorem serve3_sp (b : Nat) (k : Nat) (a : Int) (P : Pl) (L : LH) (h3 : k < 3) (ha : 0 ≤ a ∧ a ≤ 100) (hP : PB 4000 P) (hb : L b = some (.cells (encPl P).toArray 126 (0, 0), true)) : Sp X 195 [.agg #[.int .i64 k, .int .i64 a], pt b] L (ServQ b L { P with t := addAt P.t k 1, s := addAt P.s k a }) := by
 have hlen := encPl_len hP
 have hg := hP.t.get k
 have hg2 := hP.s.get k
 have hcell : L.cell? ((Addr.add ⟨b, 0, none⟩ 0).add (k * 1)) = some (.int .i64 (P.t.getD k 0)) := by rw [add_of, add_of]; exact cell_of hb (by rw [List.getElem?_toArray, Nat.mul_one]; rw [show 0 + 0 + k = k by omega]; exact encPl_t hP h3)
 refine Sp.enter (n := 28) Tryz.func195 rfl rfl rfl rfl fun C hX _ hL0 r => ?_
 refine W.go 99 rfl ?_
 refine W.drawn (by kernel_rfl) noL (noL_le _) ?_
 refine DD.run' [0, 1, 2, 3, 4, 8, 9] rfl ?_
 refine DD.vf 5 rfl rfl rfl rfl rfl (Vf.idxF rfl rfl rfl rfl rfl rfl (h3)) ?_
 refine DD.act 6 rfl rfl rfl rfl rfl (Ef.val rfl (Vf.load rfl rfl rfl (hcell))) (by rintro _ _ _ ⟨rfl, rfl, rfl⟩; exact ⟨noL_le _, rfl, .inl rfl⟩) ?_
 rintro _ _ _ ⟨rfl, rfl, rfl⟩
 refine DD.run' [7] rfl ?_
 rw [wrap64_in _ (by omega) (by omega)]
 refine DD.vf 10 rfl rfl rfl rfl rfl (Vf.idxF rfl rfl rfl rfl rfl rfl (h3)) ?_
 rw [add_of, add_of]
 refine DD.act 11 rfl rfl rfl rfl rfl (Ef.stoF rfl ⟨_, rfl, rfl⟩ rfl hb rfl (by rw [List.size_toArray, hlen]; show 0 + 0 + k * 1 + 1 ≤ 10; omega) (singles rfl)) (by rintro _ _ _ ⟨rfl, rfl, rfl⟩; exact ⟨noL_le _, rfl, .inl rfl⟩) ?_
 rintro _ _ _ ⟨rfl, rfl, rfl⟩
 refine .fin rfl ?_
 rename_i L0
 have hp1 := putPl_t hP h3 (show 0 + 0 + k * 1 = k by omega) 1
 have hP1 : PB (4000 + 1) { P with t := addAt P.t k 1 } := ⟨B3.add (m := 1) hP.t _ (by omega) (by omega), hP.s.mono (by omega), hP.d.mono (by omega), by have := hP.a; show 0 ≤ P.a ∧ P.a ≤ 4000 + 1; omega⟩
 have hlen1 := encPl_len hP1
 have hb1 : L0.put b (.cells (putRow (encPl P).toArray (0 + 0 + k * 1) [.int .i64 (P.t.getD k 0 + 1)]) 126) b = some (.cells (encPl { P with t := addAt P.t k 1 }).toArray 126 (0, 0), true) := by rw [hp1]; exact put_same _ _ _
 have hk1 : ∀ b', b' ≠ b → L0.put b (.cells (putRow (encPl P).toArray (0 + 0 + k * 1) [.int .i64 (P.t.getD k 0 + 1)]) 126) b' = L0 b' := fun b' h => put_ne _ _ h
 change W C _ _ _ _ _ (L0.put b (.cells (putRow (encPl P).toArray (0 + 0 + k * 1) [.int .i64 (P.t.getD k 0 + 1)]) 126))
 generalize L0.put b (.cells (putRow (encPl P).toArray (0 + 0 + k * 1) [.int .i64 (P.t.getD k 0 + 1)]) 126) = L1 at hb1 hk1 ⊢
 have hcell1 : L1.cell? ((Addr.add ⟨b, 0, none⟩ 3).add (k * 1)) = some (.int .i64 (P.s.getD k 0)) := by rw [add_of, add_of]; exact cell_of hb1 (by rw [List.getElem?_toArray, Nat.mul_one]; rw [show 0 + 3 + k = 3 + k by omega]; exact encPl_s hP1 h3)
 refine W.drawn (by kernel_rfl) noL (noL_le _) ?_
 refine DD.run' [0, 1, 2, 3, 4, 7, 8, 10, 11] rfl ?_
 refine DD.vf 5 rfl rfl rfl rfl rfl (Vf.idxF rfl rfl rfl rfl rfl rfl (h3)) ?_
 refine DD.act 6 rfl rfl rfl rfl rfl (Ef.val rfl (Vf.load rfl rfl rfl (hcell1))) (by rintro _ _ _ ⟨rfl, rfl, rfl⟩; exact ⟨noL_le _, rfl, .inl rfl⟩) ?_
 rintro _ _ _ ⟨rfl, rfl, rfl⟩
 refine DD.run' [9] rfl ?_
 rw [wrap64_in (P.s.getD k 0 + a) (by omega) (by omega)]
 refine DD.vf 12 rfl rfl rfl rfl rfl (Vf.idxF rfl rfl rfl rfl rfl rfl (h3)) ?_
 rw [add_of, add_of]
 refine DD.act 13 rfl rfl rfl rfl rfl (Ef.stoF rfl ⟨_, rfl, rfl⟩ rfl hb1 rfl (by rw [List.size_toArray, hlen1]; show 0 + 3 + k * 1 + 1 ≤ 10; omega) (singles rfl)) (by rintro _ _ _ ⟨rfl, rfl, rfl⟩; exact ⟨noL_le _, rfl, .inl rfl⟩) ?_
 rintro _ _ _ ⟨rfl, rfl, rfl⟩
 refine .fin rfl ?_
 refine W.go 99 rfl ?_
 have hp2 := putPl_s hP1 h3 (show 0 + 3 + k * 1 = 3 + k by omega) a
 exact W.ret0 r rfl rfl ⟨rfl, fun b' hb' => (put_ne _ _ hb').trans (hk1 b' hb'), (servQ_of hp2).2.2⟩
theorem serve_ef {s : Sw} (hok : SOk s) {C : Cx Tryz.prog} {E : Look} {B : List (Option Bx)} {L : LH} {dst : Option Tmp} {ty : TypeId} {pos : String} {af : Array Edge} {gd : Option (Nat × Bool)} {y z : Operand} {ts : Array TypeId} {x : Want} (hx : WtOk s.loaves x) {b : Nat} {P : Pl} (hP : PB 4000 P) (hb : L b = some (.cells (encPl P).toArray 126 (0, 0), true)) (hy : evS E y = some (.v (ordV s x))) (hz : evS E z = some (.v (pt b))) :
  Ef C ⟨dst, .call { callee := .invoke y "muscovado/saw.serve", args := #[z], argTypes := ts }, ty, pos, af, gd⟩ E B L (CallQ B (ServQ b L (serveW s P x))) := by
 have h0 := hx.s0
 have h2 := hx.s2
 have hk0 := hx.k0
 have hk1 := hx.k1
 have h3 := hok.l3
 have hr := rest_bd hok x
 have ha0 := hx.a0
 have ha1 := hx.a1
 have hz' : denA E [z] = some [pt b] := by
  unfold denA evSL evSL
  rw [hz]
  rfl
 have hs : x.sort = 0 ∨ x.sort = 1 ∨ x.sort = 2 := by omega
 unfold ordV at hy
 unfold serveW
 rcases hs with e | e | e
 ·rw [if_pos e] at hy ⊢
  rw [wKd, if_neg (by omega)] at hk0
  have hkk : x.kind = ((x.kind.toNat : Nat) : Int) := by omega
  rw [hkk] at hy
  exact Ef.inv hy rfl hz' (fun Q H R => by kernel_rfl) (.inl (serve1_sp b x.kind.toNat P L (by omega) hP hb))
 ·rw [if_neg (by omega), if_pos e] at hy ⊢
  rw [wKd, if_pos e] at hk0
  rw [wLo, if_neg (by omega)] at ha0
  rw [wHi, if_neg (by omega), if_pos e] at ha1
  by_cases hk : x.kind < 0
  ·rw [if_pos hk]
   exact Ef.inv hy rfl hz' (fun Q H R => by kernel_rfl) (.inl (serve2a_sp b x.kind x.amount P L hk (by omega) hP hb))
  ·rw [if_neg hk]
   have hkk : x.kind = ((x.kind.toNat : Nat) : Int) := by omega
   rw [hkk] at hy
   exact Ef.inv hy rfl hz' (fun Q H R => by kernel_rfl) (.inl (serve2b_sp b x.kind.toNat x.amount P L (by omega) (by omega) hP hb))
 ·rw [if_neg (by omega), if_neg (by omega)] at hy ⊢
  rw [wKd, if_neg (by omega)] at hk0
  have hkk : x.kind = ((x.kind.toNat : Nat) : Int) := by omega
  rw [hkk] at hy
  exact Ef.inv hy rfl hz' (fun Q H R => by kernel_rfl) (.inl (serve3_sp b x.kind.toNat (restW s x) P L (by omega) (by omega) hP hb))
end Go.Mz


set_option maxRecDepth 100000
namespace Go.Mz
open Go.Conc Go.Proofs
variable {X : Logic Tryz.prog}
theorem wtOk_of {s : Sw} (hok : SOk s) {i : Nat} {x : Want} (hx : s.wants[i]? = some x) : WtOk s.loaves x := hok.wt x (List.mem_of_getElem? hx)
theorem cutsW_snoc {s : Sw} {w : List Nat} {i : Nat} {x : Want} (hx : s.wants[i]? = some x) : cutsW s (w ++ [i]) = cutsW s w + if x.sort = 2 then 1 else 0 := by
 unfold cutsW
 rw [wantsOf_snoc hx, List.countP_append]
 by_cases e : x.sort = 2 <;> simp [e]
theorem cuts_bd (s : Sw) (w : List Nat) : 0 ≤ cutsW s w ∧ cutsW s w ≤ w.length := by
 unfold cutsW
 have h1 : (wantsOf s w).countP (fun x => x.sort == 2) ≤ (wantsOf s w).length := List.countP_le_length
 have h2 : (wantsOf s w).length ≤ w.length := List.length_filterMap_le _ _
 omega
theorem cuts_sp (s : Sw) (p : Wp) (m : Nat) (L : LH) (hs : SwAt L s p) (hok : SOk s) (hm : m < 32) (hw : WnOk s (bits5 m)) : Sp X 139 [swA s p, .int .u8 m] L (fun v L' => v = .int .i64 (cutsW s (bits5 m)) ∧ Le L L') := by
 refine Sp.enter (n := 37) Tryz.func139 rfl rfl rfl rfl fun C hX _ hL0 r => ?_
 refine W.go 99 rfl ?_
 refine W.eff rfl rfl rfl (Ef.call rfl (list_sp m hm L)) ?_
 rintro _ _ _ ⟨_, rfl, rfl, ad, cap, rfl, hle, hls, hcp⟩
 refine W.go 99 rfl ?_
 rename_i L1
 have hs := hs.le hle
 have hl5 := bits5_len m
 generalize bits5 m = w at *
 rw [natI_len]
 refine W.loop (fun n E B L' => ∃ (j : Nat), n = w.length - j ∧ j ≤ w.length ∧ L1 = L' ∧
   E = [(2, .p 0 0), (5, .v (.int .i64 (cutsW s (w.take j)))), (9, .v (.slice ad w.length cap)), (10, .v (.int .i64 w.length)), (11, .v (.int .i64 j))] ∧ B = [some ⟨cellsS (.v (swA s p)), 83⟩])
  ⟨0, rfl, by omega, rfl, rfl, rfl⟩ (by exact ⟨rfl, rfl, rfl, rfl, rfl, trivial⟩) (by exact ⟨rfl, trivial⟩) ?_
 rintro _ _ _ _ ⟨j, rfl, hj, rfl, rfl, rfl⟩ again
 refine W.go 99 rfl ?_
 refine W.split rfl rfl rfl (fun e1 => W.go 99 rfl ?_) (fun e1 => W.go 99 rfl ?_)
 ·have hjl : j < w.length := by simpa using e1
  have hwj : w[j]? = some w[j] := List.getElem?_eq_getElem hjl
  have hi := hw _ (List.mem_of_getElem? hwj)
  have htk : w.take (j + 1) = w.take j ++ [w[j]] := List.take_succ_eq_append_getElem hjl
  generalize w[j] = i at *
  have hx : s.wants[i]? = some s.wants[i] := List.getElem?_eq_getElem hi
  have hxo := wtOk_of hok hx
  have hsn := cutsW_snoc (w := w.take j) hx
  rw [← htk] at hsn
  have hcb := cuts_bd s (w.take j)
  rw [List.length_take] at hcb
  obtain ⟨lad, rfl⟩ := hls.addr (show j < (natI w).length by rw [natI_len]; exact hjl)
  obtain ⟨wa, hwa⟩ := hs.wt.addr hi
  have hs0 := hs
  obtain ⟨qa, qb, qc, qd, qe, qf⟩ := p
  obtain rfl : qc = some wa := hwa
  have hwt := hs.wt
  refine W.vf rfl rfl rfl rfl (Vf.idx1 rfl rfl rfl rfl rfl rfl rfl (hjl)) ?_
  refine W.go 99 rfl ?_
  refine W.vf rfl rfl rfl rfl (Vf.load rfl rfl rfl (hls.int (x := (i : Int)) (by rw [natI_get, hwj]; rfl))) ?_
  refine W.go 99 rfl ?_
  refine W.drawn (by kernel_rfl) _ (Le.refl _) ?_
  refine DD.run' [0, 1, 2, 3, 4] rfl ?_
  refine DD.vf 5 rfl rfl rfl rfl rfl (Vf.idx rfl rfl rfl rfl rfl rfl (hi)) ?_
  refine DD.vf 6 rfl rfl rfl rfl rfl (Vf.loadN rfl rfl rfl (hwt.whole hx rfl)) ?_
  refine DD.act 7 rfl rfl rfl rfl rfl (Ef.call rfl (order_sp s _ s.wants[i] L1 hs0 hok hxo)) (by rintro _ _ _ ⟨_, rfl, rfl, rfl, rfl⟩; exact ⟨Le.refl _, rfl, .inl rfl⟩) ?_
  rintro _ _ _ ⟨_, rfl, rfl, rfl, rfl⟩
  refine .fin rfl ?_
  have h0 := hxo.s0
  have h2 := hxo.s2
  have hso : s.wants[i].sort = 0 ∨ s.wants[i].sort = 1 ∨ s.wants[i].sort = 2 := by omega
  rcases hso with e | e | e
  ·rw [show ordV s s.wants[i] = .iface 193 (.agg #[.int .i64 s.wants[i].kind]) by unfold ordV; rw [if_pos e]]
   rw [if_neg (by omega), Int.add_zero] at hsn
   refine W.go 99 rfl ?_
   refine W.split rfl rfl rfl (fun c => absurd c (by decide)) (fun c => ?_)
   refine W.go 99 rfl ?_
   refine W.split rfl rfl rfl (fun c => ?_) (fun c => absurd c (by decide))
   refine W.go 99 rfl ?_
   exact W.again (again _ _ _ _ (by omega) ⟨j + 1, rfl, by omega, rfl, rfl, rfl⟩) ⟨rfl, by rw [hsn]; rfl, rfl, rfl, congrArg some (inc64 (by omega)), trivial⟩ ⟨rfl, trivial⟩
  ·rw [show ordV s s.wants[i] = .iface 195 (.agg #[.int .i64 s.wants[i].kind, .int .i64 s.wants[i].amount]) by unfold ordV; rw [if_neg (by omega), if_pos e]]
   rw [if_neg (by omega), Int.add_zero] at hsn
   refine W.go 99 rfl ?_
   refine W.split rfl rfl rfl (fun c => absurd c (by decide)) (fun c => ?_)
   refine W.go 99 rfl ?_
   refine W.split rfl rfl rfl (fun c => absurd c (by decide)) (fun c => ?_)
   refine W.go 99 rfl ?_
   refine W.split rfl rfl rfl (fun c => ?_) (fun c => absurd c (by decide))
   refine W.go 99 rfl ?_
   exact W.again (again _ _ _ _ (by omega) ⟨j + 1, rfl, by omega, rfl, rfl, rfl⟩) ⟨rfl, by rw [hsn]; rfl, rfl, rfl, congrArg some (inc64 (by omega)), trivial⟩ ⟨rfl, trivial⟩
  ·rw [show ordV s s.wants[i] = .iface 191 (.agg #[.int .i64 s.wants[i].kind, .int .i64 (restW s s.wants[i])]) by unfold ordV; rw [if_neg (by omega), if_neg (by omega)]]
   rw [if_pos e] at hsn
   refine W.go 99 rfl ?_
   refine W.split rfl rfl rfl (fun c => ?_) (fun c => absurd c (by decide))
   refine W.go 99 rfl ?_
   exact W.again (again _ _ _ _ (by omega) ⟨j + 1, rfl, by omega, rfl, rfl, rfl⟩) ⟨rfl, by rw [hsn]; exact congrArg some (w64 rfl (by omega) (by omega)), rfl, rfl, congrArg some (inc64 (by omega)), trivial⟩ ⟨rfl, trivial⟩
 ·have hje : j = w.length := by simp at e1; omega
  subst hje
  refine W.ret r rfl rfl ?_
  rw [List.take_length]
  exact ⟨rfl, hle⟩
theorem PB0 : PB 0 plz := ⟨⟨0, 0, 0, rfl, by omega, by omega, by omega⟩, ⟨0, 0, 0, rfl, by omega, by omega, by omega⟩, ⟨0, 0, 0, rfl, by omega, by omega, by omega⟩, by show (0 : Int) ≤ 0 ∧ (0 : Int) ≤ 0; omega⟩
theorem servesW_snoc {s : Sw} {w : List Nat} {i : Nat} {x : Want} (hx : s.wants[i]? = some x) : servesW s (w ++ [i]) = serveW s (servesW s w) x := by
 unfold servesW
 rw [wantsOf_snoc hx, List.foldl_append]; rfl
theorem PB.crush {s : Sw} (hok : SOk s) {n : Int} {P : Pl} {l : List Int} {k : Nat} (hl : 0 ≤ l.getD k 0 ∧ l.getD k 0 ≤ 8) (h : PB n P) : PB (n + 288) (crushK s l P k) := by
 have hs : 0 ≤ sumL (s.loaves.getD k []) ∧ sumL (s.loaves.getD k []) ≤ 36 := by
  rw [List.getD_eq_getElem?_getD]
  cases e : s.loaves[k]? with
  | none => exact ⟨by decide, by decide⟩
  | some y => exact loaf_bd hok (List.mem_of_getElem? e)
 have h1 : 0 ≤ l.getD k 0 * sumL (s.loaves.getD k []) := Int.mul_nonneg hl.1 hs.1
 have h2 : l.getD k 0 * sumL (s.loaves.getD k []) ≤ 8 * 36 := Int.mul_le_mul hl.2 hs.2 hs.1 (by decide)
 unfold crushK
 exact ⟨h.t.add _ hl.1 (by omega), h.s.add _ h1 (by omega), h.d.mono (by omega), by have := h.a; show 0 ≤ P.a ∧ P.a ≤ n + 288; omega⟩
theorem l3_get {a b c : Int} {k : Nat} (hk : k < 3) : nth [SV.v (.int .i64 a), SV.v (.int .i64 b), SV.v (.int .i64 c)] k = some (.v (.int .i64 ([a, b, c].getD k 0))) := by
 match k, hk with
 | 0, _ => rfl
 | 1, _ => rfl
 | 2, _ => rfl
theorem but_none (L : LH) (b : Nat) : L.but b b = none := by unfold LH.but; rw [if_pos rfl]
def planTo (s : Sw) (w : List Nat) (l : List Int) (k : Nat) : Pl := (List.range k).foldl (crushK s l) (servesW s w)
theorem planTo_succ (s : Sw) (w : List Nat) (l : List Int) (k : Nat) : planTo s w l (k + 1) = crushK s l (planTo s w l k) k := by
 unfold planTo
 rw [List.range_succ, List.foldl_append]; rfl
theorem serves_PB {s : Sw} (hok : SOk s) {w : List Nat} (hw : WnOk s w) : ∀ j, j ≤ w.length → PB (60 * j) (servesW s (w.take j)) := by
 intro j
 induction j with
 | zero => intro _; exact PB0
 | succ j ih =>
  intro hj
  have hwj : w[j]? = some w[j] := List.getElem?_eq_getElem hj
  have hi := hw _ (List.mem_of_getElem? hwj)
  have hx : s.wants[w[j]]? = some s.wants[w[j]] := List.getElem?_eq_getElem hi
  rw [List.take_succ_eq_append_getElem hj, servesW_snoc hx]
  have := (ih (by omega)).serve hok (wtOk_of hok hx)
  rwa [show 60 * (j : Int) + 60 = 60 * ((j + 1 : Nat) : Int) by omega] at this
theorem planTo_PB {s : Sw} (hok : SOk s) {w : List Nat} (hw : WnOk s w) (h5 : w.length ≤ 5) {l : List Int} (hl : ∀ k, 0 ≤ l.getD k 0 ∧ l.getD k 0 ≤ 8) : ∀ k : Nat, PB (300 + 288 * k) (planTo s w l k) := by
 intro k
 induction k with
 | zero =>
  have := serves_PB hok hw w.length (Nat.le_refl _)
  rw [List.take_length] at this
  exact this.mono (by omega)
 | succ k ih =>
  rw [planTo_succ]
  have := ih.crush hok (hl k)
  rwa [show 300 + 288 * (k : Int) + 288 = 300 + 288 * ((k + 1 : Nat) : Int) by omega] at this
theorem plan_sp (s : Sw) (p : Wp) (m : Nat) (l0 l1 l2 : Int) (L : LH) (hs : SwAt L s p) (hok : SOk s) (hm : m < 32) (hw : WnOk s (bits5 m)) (h0 : 0 ≤ l0 ∧ l0 ≤ 8) (h1 : 0 ≤ l1 ∧ l1 ≤ 8) (h2 : 0 ≤ l2 ∧ l2 ≤ 8) :
  Sp X 122 [swA s p, .int .u8 m, v3 l0 l1 l2] L (fun v L' => v = .agg (encPl (planW s (bits5 m) [l0, l1, l2])).toArray ∧ Le L L') := by
 have hl3 := hok.l3
 have hlg : ∀ k, 0 ≤ [l0, l1, l2].getD k 0 ∧ [l0, l1, l2].getD k 0 ≤ 8 := fun k => by
  match k with
  | 0 => exact h0
  | 1 => exact h1
  | 2 => exact h2
  | k + 3 => simp
 refine Sp.enter (n := 63) Tryz.func122 rfl rfl rfl rfl fun C hX _ hL0 r => ?_
 refine W.go 99 rfl ?_
 refine W.pub 7 (.inl ⟨_, rfl⟩) rfl rfl ?_
 intro b7 hb7 _
 have hle7 := Le.put hb7 (.cells (encPl plz).toArray 126)
 have g7 := put_same L b7 (.cells (encPl plz).toArray 126)
 change W _ _ _ _ _ _ (L.put b7 (.cells (encPl plz).toArray 126))
 generalize L.put b7 (.cells (encPl plz).toArray 126) = L0 at hle7 g7 ⊢
 refine W.go 99 rfl ?_
 refine W.eff rfl rfl rfl (Ef.call rfl ((list_sp m hm (L0.but b7)).frame (but_le L0 b7))) ?_
 rintro _ _ _ ⟨_, rfl, rfl, F, ⟨ad, cap, rfl, hle, hls, hcp⟩, hpo⟩
 refine W.go 99 rfl ?_
 rename_i L1
 have hF7 : F b7 = none := by
  cases e : F b7 with
  | none => rfl
  | some y =>
   rcases hpo.fresh b7 (by rw [e]; simp) with h | h
   ·exact absurd (but_none L0 b7) h
   ·rw [g7] at h; cases h
 have g1 : L1 b7 = some (.cells (encPl plz).toArray 126 (0, 0), true) := hpo.keep _ _ (but_none L0 b7) g7
 have hFL := hpo.le
 have hLF : Le L F := (le_but hb7 hle7).trans hle
 have hs := hs.le hLF
 have hl5 := bits5_len m
 have hPB : ∀ j, j ≤ (bits5 m).length → PB 300 (servesW s ((bits5 m).take j)) := fun j hj => (serves_PB hok hw j hj).mono (by omega)
 have hPC : ∀ k, k ≤ 3 → PB 4000 (planTo s (bits5 m) [l0, l1, l2] k) := fun k hk => (planTo_PB hok hw hl5 hlg k).mono (by omega)
 obtain ⟨w, hwe⟩ : ∃ w, bits5 m = w := ⟨_, rfl⟩
 rw [hwe] at hls hw hl5 hPB hPC r ⊢
 rw [natI_len]
 refine W.loop (fun n E B L' => ∃ (j : Nat), n = w.length - j ∧ j ≤ w.length ∧ Le F L' ∧ L' b7 = some (.cells (encPl (servesW s (w.take j))).toArray 126 (0, 0), true) ∧
   E = [(3, .p 0 0), (5, .p 1 0), (6, .p 2 0), (7, .v (pt b7)), (13, .v (.slice ad w.length cap)), (14, .v (.int .i64 w.length)), (15, .v (.int .i64 j))] ∧ B = [some ⟨cellsS (.v (swA s p)), 83⟩, some ⟨cellsS (.v (v3 l0 l1 l2)), 99⟩, some ⟨(encPl plz).map .v, 126⟩])
  ⟨0, rfl, by omega, hFL, g1, rfl, rfl⟩ (by exact ⟨rfl, rfl, rfl, rfl, rfl, rfl, rfl, trivial⟩) (by exact ⟨rfl, rfl, rfl, trivial⟩) ?_
 rintro _ _ _ L2 ⟨j, rfl, hj, hFL2, gb, rfl, rfl⟩ again
 refine W.go 99 rfl ?_
 refine W.split rfl rfl rfl (fun e1 => W.go 99 rfl ?_) (fun e1 => W.go 99 rfl ?_)
 ·have hjl : j < w.length := by simpa using e1
  have hwj : w[j]? = some w[j] := List.getElem?_eq_getElem hjl
  have hi := hw _ (List.mem_of_getElem? hwj)
  have htk : w.take (j + 1) = w.take j ++ [w[j]] := List.take_succ_eq_append_getElem hjl
  generalize w[j] = i at *
  have hx : s.wants[i]? = some s.wants[i] := List.getElem?_eq_getElem hi
  have hxo := wtOk_of hok hx
  have hsn := servesW_snoc (w := w.take j) hx
  rw [← htk] at hsn
  have hpj := hPB j hj
  obtain ⟨lad, rfl⟩ := hls.addr (show j < (natI w).length by rw [natI_len]; exact hjl)
  obtain ⟨wa, hwa⟩ := hs.wt.addr hi
  have hs0 := hs.le hFL2
  obtain ⟨qa, qb, qc, qd, qe, qf⟩ := p
  obtain rfl : qc = some wa := hwa
  have hwt := hs.wt
  have hli := (hls.le hFL2).int (i := j) (x := (i : Int)) (by rw [natI_get, hwj]; rfl)
  refine W.vf rfl rfl rfl rfl (Vf.idx1 rfl rfl rfl rfl rfl rfl rfl (hjl)) ?_
  refine W.go 99 rfl ?_
  refine W.vf rfl rfl rfl rfl (Vf.load rfl rfl rfl (hli)) ?_
  refine W.go 99 rfl ?_
  refine W.drawn (by kernel_rfl) F hFL2 ?_
  refine DD.run' [0, 1, 2, 3, 4] rfl ?_
  refine DD.vf 5 rfl rfl rfl rfl rfl (Vf.idx rfl rfl rfl rfl rfl rfl (hi)) ?_
  refine DD.vf 6 rfl rfl rfl rfl rfl (Vf.loadN rfl rfl rfl (hwt.whole hx rfl)) ?_
  refine DD.act 7 rfl rfl rfl rfl rfl (Ef.call rfl (order_sp s _ s.wants[i] L2 hs0 hok hxo)) ((by rintro _ _ _ ⟨_, rfl, rfl, rfl, rfl⟩; exact ⟨hFL2, rfl, .inl rfl⟩)) ?_
  rintro _ _ _ ⟨_, rfl, rfl, rfl, rfl⟩
  refine DD.act 8 rfl rfl rfl rfl rfl (serve_ef hok hxo (hpj.mono (by omega)) gb rfl rfl) ((by rintro _ _ _ ⟨_, rfl, rfl, rfl, hk8, hb8⟩; exact ⟨fun b x hx => by rw [hk8 b (fun e => by subst e; rw [hF7] at hx; cases hx)]; exact hFL2 b x hx, rfl, .inl rfl⟩)) ?_
  rintro _ _ _ ⟨_, rfl, rfl, rfl, hk8, hb8⟩
  refine .fin rfl ?_
  refine W.go 99 rfl ?_
  rw [← hsn] at hb8
  exact W.again (again _ _ _ _ (by omega) ⟨j + 1, rfl, by omega, fun b x hx => by rw [hk8 b (fun e => by subst e; rw [hF7] at hx; cases hx)]; exact hFL2 b x hx, hb8, rfl, rfl⟩) ⟨rfl, rfl, rfl, rfl, rfl, rfl, congrArg some (inc64 (by omega)), trivial⟩ ⟨rfl, rfl, rfl, trivial⟩
 ·have hje : j = w.length := by simp at e1; omega
  subst hje
  rw [List.take_length] at gb
  have gb0 : L2 b7 = some (.cells (encPl (planTo s w [l0, l1, l2] 0)).toArray 126 (0, 0), true) := gb
  refine W.loop (fun n E B L' => ∃ (k : Nat), n = s.loaves.length - k ∧ k ≤ s.loaves.length ∧ Le F L' ∧ L' b7 = some (.cells (encPl (planTo s w [l0, l1, l2] k)).toArray 126 (0, 0), true) ∧
    E = [(5, .p 1 0), (6, .p 2 0), (7, .v (pt b7)), (31, .v (.slice p.la s.loaves.length p.lc)), (32, .v (.int .i64 s.loaves.length)), (33, .v (.int .i64 k))] ∧ B = [some ⟨cellsS (.v (swA s p)), 83⟩, some ⟨cellsS (.v (v3 l0 l1 l2)), 99⟩, some ⟨(encPl plz).map .v, 126⟩])
   ⟨0, rfl, by omega, hFL2, gb0, rfl, rfl⟩ (by exact ⟨rfl, rfl, rfl, rfl, rfl, rfl, trivial⟩) (by exact ⟨rfl, rfl, rfl, trivial⟩) ?_
  rintro _ _ _ L3 ⟨k, rfl, hk, hFL3, gc, rfl, rfl⟩ again2
  refine W.go 99 rfl ?_
  refine W.split rfl rfl rfl (fun e2 => W.go 99 rfl ?_) (fun e2 => W.go 99 rfl ?_)
  ·have hkl : k < s.loaves.length := by simpa using e2
   have hk3 : k < 3 := by omega
   have hl : s.loaves[k]? = some s.loaves[k] := List.getElem?_eq_getElem hkl
   obtain ⟨la, hla⟩ := hs.lo.addr hkl
   have hlo := hs.lo
   rw [hla] at hlo
   obtain ⟨a, c, hc, hsl, hcp⟩ := hlo.row hl
   have hlf := hok.lf _ (List.mem_of_getElem? hl)
   have hl4 := hlf.l4
   have hgd := loafAt0 hl
   have hpk := hPC k (by omega)
   have hsb := loaf_bd hok (List.mem_of_getElem? hl)
   have hkg := hlg k
   have hmul1 : 0 ≤ [l0, l1, l2].getD k 0 * sumL s.loaves[k] := Int.mul_nonneg hkg.1 hsb.1
   have hmul2 : [l0, l1, l2].getD k 0 * sumL s.loaves[k] ≤ 8 * 36 := Int.mul_le_mul hkg.2 hsb.2 hsb.1 (by decide)
   obtain ⟨qa, qb, qc, qd, qe, qf⟩ := p
   obtain rfl : qa = some la := hla
   have hsum := sum_sp (X := C.X) a c s.loaves[k] F hsl (by omega) fun y hy => by have := hlf.r y hy; omega
   generalize s.loaves[k] = lf at *
   have hnx := planTo_succ s w [l0, l1, l2] k
   have hg1 := hpk.t.get k
   have hg2 := hpk.s.get k
   generalize planTo s w [l0, l1, l2] k = P at *
   have hlen := encPl_len hpk
   have hcell : L3.cell? ((Addr.add ⟨b7, 0, none⟩ 0).add (k * 1)) = some (.int .i64 (P.t.getD k 0)) := by rw [add_of, add_of]; exact cell_of gc (by rw [List.getElem?_toArray, Nat.mul_one]; rw [show 0 + 0 + k = k by omega]; exact encPl_t hpk hk3)
   obtain ⟨xk, hxk⟩ : ∃ xk, [l0, l1, l2].getD k 0 = xk := ⟨_, rfl⟩
   have hox : nth [SV.v (.int .i64 l0), SV.v (.int .i64 l1), SV.v (.int .i64 l2)] (0 + k * 1) = some (.v (.int .i64 xk)) := by rw [Nat.mul_one, Nat.zero_add, ← hxk]; exact l3_get hk3
   rw [hxk] at hkg hmul1 hmul2
   refine W.vf rfl rfl rfl rfl (Vf.idx1 rfl rfl rfl rfl rfl rfl rfl (hkl)) ?_
   refine W.go 99 rfl ?_
   refine W.vf rfl rfl rfl rfl (Vf.load rfl rfl rfl (hFL3.cell hc)) ?_
   refine W.go 99 rfl ?_
   refine W.drawn (by kernel_rfl) noL (noL_le _) ?_
   refine DD.run' [0, 1, 4, 8] rfl ?_
   refine DD.vf 2 rfl rfl rfl rfl rfl (Vf.idxF rfl rfl rfl rfl rfl rfl (hk3)) ?_
   refine DD.vf 5 rfl rfl rfl rfl rfl (Vf.idxA rfl rfl rfl rfl rfl rfl (hk3)) ?_
   refine DD.vf 6 rfl rfl rfl rfl rfl (Vf.loadA rfl rfl rfl rfl (hox)) ?_
   refine DD.act 3 rfl rfl rfl rfl rfl (Ef.val rfl (Vf.load rfl rfl rfl (hcell))) (by rintro _ _ _ ⟨rfl, rfl, rfl⟩; exact ⟨noL_le _, rfl, .inl rfl⟩) ?_
   rintro _ _ _ ⟨rfl, rfl, rfl⟩
   refine DD.run' [7] rfl ?_
   rw [wrap64_in _ (by omega) (by omega)]
   refine DD.vf 9 rfl rfl rfl rfl rfl (Vf.idxF rfl rfl rfl rfl rfl rfl (hk3)) ?_
   rw [add_of, add_of]
   refine DD.act 10 rfl rfl rfl rfl rfl (Ef.stoF rfl ⟨_, rfl, rfl⟩ rfl gc rfl (by rw [List.size_toArray, hlen]; show 0 + 0 + k * 1 + 1 ≤ 10; omega) (singles rfl)) (by rintro _ _ _ ⟨rfl, rfl, rfl⟩; exact ⟨noL_le _, rfl, .inl rfl⟩) ?_
   rintro _ _ _ ⟨rfl, rfl, rfl⟩
   refine .fin rfl ?_
   rename_i L0'
   have hp1 := putPl_t hpk hk3 (show 0 + 0 + k * 1 = k by omega) xk
   have hP1 : PB (4000 + 8) { P with t := addAt P.t k xk } := ⟨B3.add (m := 8) hpk.t _ hkg.1 hkg.2, hpk.s.mono (by omega), hpk.d.mono (by omega), by have := hpk.a; show 0 ≤ P.a ∧ P.a ≤ 4000 + 8; omega⟩
   have hlen1 := encPl_len hP1
   have hb1 : L0'.put b7 (.cells (putRow (encPl P).toArray (0 + 0 + k * 1) [.int .i64 (P.t.getD k 0 + xk)]) 126) b7 = some (.cells (encPl { P with t := addAt P.t k xk }).toArray 126 (0, 0), true) := by rw [hp1]; exact put_same _ _ _
   have hF4 : Le F (L0'.put b7 (.cells (putRow (encPl P).toArray (0 + 0 + k * 1) [.int .i64 (P.t.getD k 0 + xk)]) 126)) := fun b x hx => by
    rw [put_ne _ _ (fun e => by subst e; rw [hF7] at hx; cases hx)]; exact hFL3 b x hx
   change W C _ _ _ _ _ (L0'.put b7 (.cells (putRow (encPl P).toArray (0 + 0 + k * 1) [.int .i64 (P.t.getD k 0 + xk)]) 126))
   generalize L0'.put b7 (.cells (putRow (encPl P).toArray (0 + 0 + k * 1) [.int .i64 (P.t.getD k 0 + xk)]) 126) = L4 at hb1 hF4 ⊢
   have hcell1 : L4.cell? ((Addr.add ⟨b7, 0, none⟩ 3).add (k * 1)) = some (.int .i64 (P.s.getD k 0)) := by rw [add_of, add_of]; exact cell_of hb1 (by rw [List.getElem?_toArray, Nat.mul_one]; rw [show 0 + 3 + k = 3 + k by omega]; exact encPl_s hP1 hk3)
   have hp2 := putPl_s hP1 hk3 (show 0 + 3 + k * 1 = 3 + k by omega) (xk * sumL lf)
   have hsum := sum_sp (X := C.X) a c lf L4 (hsl.le hF4) (by omega) fun y hy => by have := hlf.r y hy; omega
   refine W.drawn (by kernel_rfl) noL (noL_le _) ?_
   refine DD.run' [0, 1, 4, 7, 11] rfl ?_
   refine DD.vf 2 rfl rfl rfl rfl rfl (Vf.idxF rfl rfl rfl rfl rfl rfl (hk3)) ?_
   refine DD.vf 5 rfl rfl rfl rfl rfl (Vf.idxA rfl rfl rfl rfl rfl rfl (hk3)) ?_
   refine DD.vf 6 rfl rfl rfl rfl rfl (Vf.loadA rfl rfl rfl rfl (hox)) ?_
   refine DD.act2 3 8 rfl rfl rfl rfl rfl rfl rfl rfl (Ef.val rfl (Vf.load rfl rfl rfl (by exact hcell1))) (Ef.call rfl hsum) (by rintro _ _ _ ⟨rfl, rfl, rfl⟩; exact ⟨noL_le _, rfl, .inl rfl⟩) (by rintro _ _ _ ⟨_, rfl, rfl, rfl, rfl⟩; exact ⟨noL_le _, rfl, .inl rfl⟩) ?_ ?_
   ·rintro _ _ _ ⟨rfl, rfl, hq⟩
    obtain rfl := hq.symm
    refine DD.act 8 rfl rfl rfl rfl rfl (Ef.call rfl (hsum)) ((by rintro _ _ _ ⟨_, rfl, rfl, rfl, rfl⟩; exact ⟨noL_le _, rfl, .inl rfl⟩)) ?_
    rintro _ _ _ ⟨_, rfl, rfl, rfl, rfl⟩
    refine DD.run' [9] rfl ?_
    rw [wrap64_in (xk * sumL lf) (by omega) (by omega)]
    refine DD.run' [10] rfl ?_
    rw [wrap64_in (P.s.getD k 0 + xk * sumL lf) (by omega) (by omega)]
    refine DD.vf 12 rfl rfl rfl rfl rfl (Vf.idxF rfl rfl rfl rfl rfl rfl (hk3)) ?_
    rw [add_of, add_of]
    refine DD.act 13 rfl rfl rfl rfl rfl (Ef.stoF rfl ⟨_, rfl, rfl⟩ rfl hb1 rfl (by rw [List.size_toArray, hlen1]; show 0 + 3 + k * 1 + 1 ≤ 10; omega) (singles rfl)) (by rintro _ _ _ ⟨rfl, rfl, rfl⟩; exact ⟨noL_le _, rfl, .inl rfl⟩) ?_
    rintro _ _ _ ⟨rfl, rfl, rfl⟩
    refine .fin rfl ?_
    refine W.go 99 rfl ?_
    refine W.again (again2 _ _ _ _ (by omega) ⟨k + 1, rfl, by omega, fun b x hx => ?_, ?_, rfl, rfl⟩) ⟨rfl, rfl, rfl, rfl, rfl, congrArg some (inc64 (by omega)), trivial⟩ ⟨rfl, rfl, rfl, trivial⟩
    ·rw [put_ne _ _ (fun e => by subst e; rw [hF7] at hx; cases hx)]; exact hF4 b x hx
    ·rw [hnx]
     unfold crushK
     rw [hgd, hxk]
     exact (servQ_of hp2).2.2
   ·rintro _ _ _ ⟨_, rfl, rfl, rfl, rfl⟩
    refine DD.run' [9] rfl ?_
    rw [wrap64_in (xk * sumL lf) (by omega) (by omega)]
    refine DD.act 3 rfl rfl rfl rfl rfl (Ef.val rfl (Vf.load rfl rfl rfl (hcell1))) (by rintro _ _ _ ⟨rfl, rfl, rfl⟩; exact ⟨noL_le _, rfl, .inl rfl⟩) ?_
    rintro _ _ _ ⟨rfl, rfl, rfl⟩
    refine DD.run' [10] rfl ?_
    rw [wrap64_in (P.s.getD k 0 + xk * sumL lf) (by omega) (by omega)]
    refine DD.vf 12 rfl rfl rfl rfl rfl (Vf.idxF rfl rfl rfl rfl rfl rfl (hk3)) ?_
    rw [add_of, add_of]
    refine DD.act 13 rfl rfl rfl rfl rfl (Ef.stoF rfl ⟨_, rfl, rfl⟩ rfl hb1 rfl (by rw [List.size_toArray, hlen1]; show 0 + 3 + k * 1 + 1 ≤ 10; omega) (singles rfl)) (by rintro _ _ _ ⟨rfl, rfl, rfl⟩; exact ⟨noL_le _, rfl, .inl rfl⟩) ?_
    rintro _ _ _ ⟨rfl, rfl, rfl⟩
    refine .fin rfl ?_
    refine W.go 99 rfl ?_
    refine W.again (again2 _ _ _ _ (by omega) ⟨k + 1, rfl, by omega, fun b x hx => ?_, ?_, rfl, rfl⟩) ⟨rfl, rfl, rfl, rfl, rfl, congrArg some (inc64 (by omega)), trivial⟩ ⟨rfl, rfl, rfl, trivial⟩
    ·rw [put_ne _ _ (fun e => by subst e; rw [hF7] at hx; cases hx)]; exact hF4 b x hx
    ·rw [hnx]
     unfold crushK
     rw [hgd, hxk]
     exact (servQ_of hp2).2.2
  ·have hke : k = s.loaves.length := by simp at e2; omega
   subst hke
   have hfin : planTo s w [l0, l1, l2] s.loaves.length = planW s w [l0, l1, l2] := rfl
   have hpk := hPC s.loaves.length (by omega)
   rw [hfin] at gc hpk
   obtain ⟨⟨t0, t1, t2, et, _⟩, ⟨s0, s1, s2, es, _⟩, ⟨d0, d1, d2, ed, _⟩, _⟩ := hpk
   generalize planW s w [l0, l1, l2] = P at *
   obtain ⟨q1, q2, q3, q4⟩ := P
   simp only at et es ed
   subst et es ed
   refine W.vf rfl rfl rfl rfl (Vf.loadN rfl rfl rfl (cellsAt_n (vs := [.int .i64 t0, .int .i64 t1, .int .i64 t2, .int .i64 s0, .int .i64 s1, .int .i64 s2, .int .i64 d0, .int .i64 d1, .int .i64 d2, .int .i64 q4]) gc rfl)) ?_
   refine W.go 99 rfl ?_
   refine W.ret r rfl rfl ?_
   exact ⟨rfl, hLF.trans hFL3⟩
end Go.Mz


set_option maxRecDepth 100000
namespace Go.Mz
open Go.Conc Go.Proofs
variable {X : Logic Tryz.prog}
def lackV (e : Int) : Value := if e = 0 then .nilIface else .iface 186 (.agg #[.int .i64 e])
theorem errno_sp (e : Int) (L : LH) (hg : GlOk L) : Sp X 134 [lackV e] L (fun v L' => v = .int .i64 e ∧ Le L L') := by
 unfold lackV
 split
 ·rename_i he
  subst he
  refine Sp.enter (n := 9) Tryz.func134 rfl rfl rfl rfl fun C hX _ hL0 r => ?_
  refine W.goP [4] 99 rfl ?_
  refine W.pub 3 (.inl ⟨_, rfl⟩) rfl rfl ?_
  intro b3 hb3 _
  refine W.go 99 rfl ?_
  refine W.eff rfl rfl rfl (Ef.call rfl (AsNil_sp _ _)) ?_
  rintro _ _ _ ⟨_, rfl, rfl, rfl, rfl⟩
  refine W.go 99 rfl ?_
  refine W.split rfl rfl rfl (fun c => absurd c (by decide)) (fun c => ?_)
  refine W.go 99 rfl ?_
  refine W.ret r rfl rfl ?_
  exact ⟨rfl, Le.put hb3 _⟩
 ·refine Sp.enter (n := 9) Tryz.func134 rfl rfl rfl rfl fun C hX _ hL0 r => ?_
  refine W.goP [4] 99 rfl ?_
  refine W.pub 3 (.inl ⟨_, rfl⟩) rfl rfl ?_
  intro b3 hb3 _
  refine W.go 99 rfl ?_
  refine W.eff rfl rfl rfl (Ef.call rfl (As_sp b3 (.int .i64 e) (.int .i64 0) rfl _ (hg.le (Le.put hb3 _)) (put_same _ _ _))) ?_
  rintro _ _ _ ⟨_, rfl, rfl, rfl, h1, h2⟩
  refine W.go 99 rfl ?_
  refine W.split rfl rfl rfl (fun c => ?_) (fun c => absurd c (by decide))
  refine W.go 99 rfl ?_
  refine W.vf rfl rfl rfl rfl (Vf.load rfl rfl rfl (cell_of h1 rfl)) ?_
  refine W.go 99 rfl ?_
  refine W.ret r rfl rfl ?_
  exact ⟨rfl, fun b x hx => h2 b x (fun e => by subst e; rw [hb3] at hx; cases hx) (Le.put hb3 _ _ _ hx)⟩
theorem any_take_succ (n : Nat) (f : Nat → Bool) : (List.range (n + 1)).any f = ((List.range n).any f || f n) := by
 rw [List.range_succ, List.any_append]; simp
theorem right_sp (s : Sw) (p : Wp) (P : Pl) (L : LH) (hs : SwAt L s p) (hok : SOk s) (hP : PB 4000 P) : Sp X 135 [swA s p, .agg (encPl P).toArray] L (fun v L' => v = lackV (rightW s P) ∧ Le L L') := by
 have hl3 := hok.l3
 have hst := hok.st
 have hP0 := hP
 obtain ⟨⟨t0, t1, t2, et, g0, g1, g2⟩, ⟨s0, s1, s2, es, f0, f1, f2⟩, ⟨d0, d1, d2, ed, e0, e1, e2⟩, hqa⟩ := hP
 obtain ⟨q1, q2, q3, q4⟩ := P
 simp only at et es ed hqa
 subst et es ed
 have hgt : ∀ k, k < 3 → nth [SV.v (.int .i64 t0), SV.v (.int .i64 t1), SV.v (.int .i64 t2), SV.v (.int .i64 s0), SV.v (.int .i64 s1), SV.v (.int .i64 s2), SV.v (.int .i64 d0), SV.v (.int .i64 d1), SV.v (.int .i64 d2), SV.v (.int .i64 q4)] (0 + 0 + k * 1) = some (.v (.int .i64 ([t0, t1, t2].getD k 0))) := fun k hk => by
  match k, hk with
  | 0, _ => rfl
  | 1, _ => rfl
  | 2, _ => rfl
 have hgs : ∀ k, k < 3 → nth [SV.v (.int .i64 t0), SV.v (.int .i64 t1), SV.v (.int .i64 t2), SV.v (.int .i64 s0), SV.v (.int .i64 s1), SV.v (.int .i64 s2), SV.v (.int .i64 d0), SV.v (.int .i64 d1), SV.v (.int .i64 d2), SV.v (.int .i64 q4)] (0 + 3 + k * 1) = some (.v (.int .i64 ([s0, s1, s2].getD k 0))) := fun k hk => by
  match k, hk with
  | 0, _ => rfl
  | 1, _ => rfl
  | 2, _ => rfl
 have hgd : ∀ k, k < 3 → nth [SV.v (.int .i64 t0), SV.v (.int .i64 t1), SV.v (.int .i64 t2), SV.v (.int .i64 s0), SV.v (.int .i64 s1), SV.v (.int .i64 s2), SV.v (.int .i64 d0), SV.v (.int .i64 d1), SV.v (.int .i64 d2), SV.v (.int .i64 q4)] (0 + 6 + k * 1) = some (.v (.int .i64 ([d0, d1, d2].getD k 0))) := fun k hk => by
  match k, hk with
  | 0, _ => rfl
  | 1, _ => rfl
  | 2, _ => rfl
 have hv : (Value.agg (encPl ⟨[t0, t1, t2], [s0, s1, s2], [d0, d1, d2], q4⟩).toArray) = plV (t0, t1, t2) (s0, s1, s2) (d0, d1, d2) q4 := rfl
 rw [hv]
 refine Sp.enter (n := 50) Tryz.func135 rfl rfl rfl rfl fun C hX _ hL0 r => ?_
 refine W.go 99 rfl ?_
 refine W.loop (fun m E B L' => ∃ i : Nat, m = s.stock.length - i ∧ i ≤ s.stock.length ∧ (List.range i).any (fun k => decide (s.stock.getD k 0 < [t0, t1, t2].getD k 0)) = false ∧ E = [(2, .p 0 0), (3, .p 1 0), (10, .v (.slice p.sa s.stock.length p.sc)), (11, .v (.int .i64 s.stock.length)), (12, .v (.int .i64 i))] ∧
   B = [some ⟨cellsS (.v (swA s p)), 83⟩, some ⟨cellsS (.v (plV (t0, t1, t2) (s0, s1, s2) (d0, d1, d2) q4)), 126⟩] ∧ L = L')
  ⟨0, rfl, by omega, by simp, rfl, rfl, rfl⟩ (by exact ⟨rfl, rfl, rfl, rfl, rfl, trivial⟩) (by exact ⟨rfl, rfl, trivial⟩) ?_
 rintro _ _ _ _ ⟨i, rfl, h1, hg, rfl, rfl, rfl⟩ again
 refine W.go 99 rfl ?_
 refine W.split rfl rfl rfl (fun z1 => W.go 99 rfl ?_) (fun z1 => W.go 99 rfl ?_)
 ·have hi : i < s.stock.length := by simpa using z1
  have hx : s.stock[i]? = some s.stock[i] := List.getElem?_eq_getElem hi
  have hgx : s.stock.getD i 0 = s.stock[i] := by rw [List.getD_eq_getElem?_getD, hx]; rfl
  obtain ⟨la, hla⟩ := hs.st.addr hi
  have hst' := hs.st
  rw [hla] at hst'
  obtain ⟨qa, qb, qc, qd, qe, qf⟩ := p
  obtain rfl : qb = some la := hla
  have hat := any_take_succ i fun k => decide (s.stock.getD k 0 < [t0, t1, t2].getD k 0)
  rw [hg, Bool.false_or, hgx] at hat
  refine W.vf rfl rfl rfl rfl (Vf.idx1 rfl rfl rfl rfl rfl rfl rfl (hi)) ?_
  refine W.go 99 rfl ?_
  refine W.vf rfl rfl rfl rfl (Vf.load rfl rfl rfl (hst'.int hx)) ?_
  refine W.go 99 rfl ?_
  refine W.vf rfl rfl rfl rfl (Vf.idxA rfl rfl rfl rfl rfl rfl (show i < 3 by omega)) ?_
  refine W.vf rfl rfl rfl rfl (Vf.loadA rfl rfl rfl rfl (by exact hgt i (by omega))) ?_
  refine W.go 99 rfl ?_
  refine W.split rfl rfl rfl (fun z2 => W.go 99 rfl ?_) (fun z2 => W.go 99 rfl ?_)
  ·have hr : rightW s ⟨[t0, t1, t2], [s0, s1, s2], [d0, d1, d2], q4⟩ = 12 := by
    unfold rightW
    rw [if_pos]
    rw [List.any_eq_true]
    exact ⟨i, List.mem_range.2 hi, by show decide (s.stock.getD i 0 < [t0, t1, t2].getD i 0) = true; rw [hgx]; simpa using z2⟩
   refine W.ret r rfl rfl ?_
   rw [hr]
   exact ⟨rfl, Le.refl _⟩
  ·have hf : decide (s.stock[i] < [t0, t1, t2].getD i 0) = false := by simpa using z2
   exact W.again (again _ _ _ _ (by omega) ⟨i + 1, rfl, by omega, by rw [hat]; exact hf, rfl, rfl, rfl⟩) ⟨rfl, rfl, rfl, rfl, congrArg some (inc64 (by omega)), trivial⟩ ⟨rfl, rfl, trivial⟩
 have hie : i = s.stock.length := by simp at z1; omega
 subst hie
 have hany1 := hg
 clear again hg
 refine W.loop (fun m E B L' => ∃ i : Nat, m = s.stock.length - i ∧ i ≤ s.stock.length ∧ (List.range i).any (fun k => decide ([s0, s1, s2].getD k 0 < [d0, d1, d2].getD k 0)) = false ∧ E = [(3, .p 1 0), (29, .v (.int .i64 s.stock.length)), (30, .v (.int .i64 i))] ∧
   B = [some ⟨cellsS (.v (swA s p)), 83⟩, some ⟨cellsS (.v (plV (t0, t1, t2) (s0, s1, s2) (d0, d1, d2) q4)), 126⟩] ∧ L = L')
  ⟨0, rfl, by omega, by simp, rfl, rfl, rfl⟩ (by exact ⟨rfl, rfl, rfl, trivial⟩) (by exact ⟨rfl, rfl, trivial⟩) ?_
 rintro _ _ _ _ ⟨i, rfl, h1, hg, rfl, rfl, rfl⟩ again
 have base : rightW s ⟨[t0, t1, t2], [s0, s1, s2], [d0, d1, d2], q4⟩ = if (List.range s.stock.length).any (fun k => decide ([s0, s1, s2].getD k 0 < [d0, d1, d2].getD k 0)) then 9 else if leftW ⟨[t0, t1, t2], [s0, s1, s2], [d0, d1, d2], q4⟩ < 0 then 9 else 0 := by
  unfold rightW
  rw [if_neg (by simp only [hany1]; decide)]
 refine W.go 99 rfl ?_
 refine W.split rfl rfl rfl (fun z3 => W.go 99 rfl ?_) (fun z3 => W.go 99 rfl ?_)
 ·have hi : i < s.stock.length := by simpa using z3
  have hi3 : i < 3 := by omega
  have hat := any_take_succ i fun k => decide ([s0, s1, s2].getD k 0 < [d0, d1, d2].getD k 0)
  rw [hg, Bool.false_or] at hat
  refine W.drawn (by kernel_rfl) _ (Le.refl _) ?_
  refine DD.run' [0, 1, 4, 5] rfl ?_
  refine DD.vf 2 rfl rfl rfl rfl rfl (Vf.idxA rfl rfl rfl rfl rfl rfl (hi3)) ?_
  refine DD.vf 3 rfl rfl rfl rfl rfl (Vf.loadA rfl rfl rfl rfl ((by exact hgs i hi3))) ?_
  refine DD.vf 6 rfl rfl rfl rfl rfl (Vf.idxA rfl rfl rfl rfl rfl rfl (hi3)) ?_
  refine DD.vf 7 rfl rfl rfl rfl rfl (Vf.loadA rfl rfl rfl rfl ((by exact hgd i hi3))) ?_
  refine DD.run' [8] rfl ?_
  refine .fin rfl ?_
  refine W.go 99 rfl ?_
  refine W.split rfl rfl rfl (fun z4 => W.go 99 rfl ?_) (fun z4 => W.go 99 rfl ?_)
  ·refine W.ret r rfl rfl ?_
   rw [base, if_pos]
   ·exact ⟨rfl, Le.refl _⟩
   ·rw [List.any_eq_true]
    exact ⟨i, List.mem_range.2 hi, z4⟩
  ·exact W.again (again _ _ _ _ (by omega) ⟨i + 1, rfl, by omega, by rw [hat]; exact z4, rfl, rfl, rfl⟩) ⟨rfl, rfl, congrArg some (inc64 (by omega)), trivial⟩ ⟨rfl, rfl, trivial⟩
 have hie : i = s.stock.length := by simp at z3; omega
 subst hie
 refine W.go 99 rfl ?_
 have hle := left_sp (X := C.X) (t0, t1, t2) (s0, s1, s2) (d0, d1, d2) q4 L ⟨f0, f1, f2⟩ ⟨e0, e1, e2⟩ hqa
 refine W.eff rfl rfl rfl (Ef.call rfl (hle)) ?_
 rintro _ _ _ ⟨_, rfl, rfl, rfl, hl1⟩
 refine W.go 99 rfl ?_
 have hlw : sumL [s0, s1, s2] - sumL [d0, d1, d2] - q4 = leftW ⟨[t0, t1, t2], [s0, s1, s2], [d0, d1, d2], q4⟩ := rfl
 refine W.split rfl rfl rfl (fun z5 => W.go 99 rfl ?_) (fun z5 => W.go 99 rfl ?_)
 ·refine W.ret r rfl rfl ?_
  rw [base, if_neg (by simp only [hg]; decide), if_pos (by rw [← hlw]; simpa using z5)]
  exact ⟨rfl, hl1⟩
 ·refine W.ret r rfl rfl ?_
  rw [base, if_neg (by simp only [hg]; decide), if_neg (by rw [← hlw]; simpa using z5)]
  exact ⟨rfl, hl1⟩
end Go.Mz


set_option maxRecDepth 100000
namespace Go.Mz
open Go.Conc Go.Proofs
section
variable {P : Program} {α : Type}
def IterF (X : Logic P) (g : FuncId) (cap : List Value) (enc : α → List Value) (xs : List α) (Lb : LH) : Prop :=
 ∀ (yv : Value) (J : List α → LH → Prop) (Z : LH → Prop) (L : LH), Yl X yv enc xs (fun L => Le Lb L) J Z → (∀ L, Z L → Le Lb L) → J [] L → Sp X g (yv :: cap) L (fun v L' => v = .tuple #[] ∧ (Fra J noL xs L' ∨ FraZ Z noL L'))
variable {C : Cx P} {n : Nat} {ds : List Deferred} {k : List Item} {E : Env} {B : List (Option Bx)} {L : LH}
theorem W.iterF {enc : α → List Value} {xs : List α} {g : FuncId} {cap : List Value} {fo : Operand} {ps : Array Tmp} {asg body : Code} {sv : SV}
  (Lb : LH) (hLb : Le Lb L) (I : List α → LH → Prop) (Z : Code → LH → Prop) (it : IterF C.X g cap enc xs Lb) (hcl : Callable P g) (hro : C.ro = none) (E' : Env) (hE' : SubE E E') (h0 : scE 0 E' = true)
  (hf : evS (get E) fo = some sv) (hv : den nm0 sv = some (.func (.func g) #[] cap.toArray))
  (hm : ∀ pre L1 L2, Le L1 L2 → I pre L1 → I pre L2) (hz : ∀ j L1 L2, Le L1 L2 → Z j L1 → Z j L2)
  (hI : I [] L.calm)
  (hn : (ps.toList.all fun p => Nat.blt p n) = true) (hln : ∀ x, (enc x).length = ps.size)
  (hb : ∀ (d l : Nat) (pre : List α) (x : α) (post : List α) (L' : LH) (q lb : Loop), xs = pre ++ x :: post → Le Lb L' → I pre L' → Lb l = none → Lb d = none → l ≠ d →
   L' l = some (.loop q, true) → L' d = some (.deferred (some []), true) →
   ∀ C' : Cx P, C'.X = C.X → C'.f = C.f →
    (∀ (k : List Item) (E : Env) (B : List (Option Bx)), (∀ L2, L2 l = some (.loop lb, true) → (∀ b, b ≠ l → L2 b = L' b) → W C' n [] k E B L2) → W C' n [] (.beginRound :: k) E B L') →
    (∀ (k : List Item) (E : Env) (B : List (Option Bx)) (L'' : LH), Leaves k none → L'' l = some (.loop lb, true) → L'' d = some (.deferred (some []), true) → Le Lb L'' → I (pre ++ [x]) L''.calm → W C' n [] k E B L'') →
    (∀ (k : List Item) (E : Env) (B : List (Option Bx)) (L'' : LH) (j : Code), Leaves k (some j) → L'' l = some (.loop lb, true) → L'' d = some (.deferred (some []), true) → Le Lb L'' → Z j L''.calm → W C' n [] k E B L'') →
    W C' n [] [.code asg, .beginRound, .code body] (parEnv ps.toList (enc x) E') [] L')
  (w1 : ∀ (d l : Nat) (L' : LH), Le Lb L' → Lb l = none → Lb d = none → I xs L' → L' d = some (.deferred (some []), true) → W C n (⟨.collected d, #[]⟩ :: ds) k E B L')
  (w2 : ∀ (d l : Nat) (j : Code) (L' : LH), Le Lb L' → Lb l = none → Lb d = none → Z j L' → L' d = some (.deferred (some []), true) → W C n (⟨.collected d, #[]⟩ :: ds) (.code j :: k) E B L') :
  W C n ds (.code (.rangeFunc fo ps asg body) :: k) E B L := by
 refine W.range hro E' hE' h0 hf hv (fun T d l st pd L' => Le Lb L' ∧ Lb l = none ∧ Lb d = none ∧ l ≠ d ∧ L' d = some (.deferred (some []), true) ∧ (∃ st pd, L' l = some (lpO st pd C.f T ps asg body d, true)) ∧ ((pd = none ∧ I xs L'.calm) ∨ ∃ j, pd = some j ∧ Z j L'.calm)) ?_ ?_
 ·intro T d l hT hE hd0 hl0 hne _ _
  have hd := none_of_le hLb hd0
  have hl := none_of_le hLb hl0
  have hJ : Le Lb ((L.put d (.deferred (some []))).put l (lpO .ready none C.f T ps asg body d)) := le_put_none (le_put_none hLb hd _) hl _
  have hfl : ((L.put d (.deferred (some []))).put l (lpO .ready none C.f T ps asg body d)).calm = L.calm := by
   funext b
   unfold LH.calm
   by_cases e : b = l
   ·subst e; rw [put_same, hl0]
   ·rw [put_ne _ _ e]
    by_cases e : b = d
    ·subst e; rw [put_same, hd0]
    ·rw [put_ne _ _ e]
  have hs := it (.func (.yield l) #[] #[]) (fun pre L' => Le Lb L' ∧ I pre L'.calm ∧ L' l = some (lpO .ready none C.f T ps asg body d, true) ∧ L' d = some (.deferred (some []), true))
   (fun L' => Le Lb L' ∧ (∃ j, L' l = some (lpO .done (some j) C.f T ps asg body d, true) ∧ Z j L'.calm) ∧ L' d = some (.deferred (some []), true)) _
   ⟨⟨_, _, _, rfl⟩, fun pre L' h => h.1, ?_⟩ (fun _ h => h.1) ⟨hJ, by rw [hfl]; exact hI, put_same _ _ _, by rw [put_ne _ _ (Ne.symm hne)]; exact put_same _ _ _⟩
  ·refine (Sp.toV (f1 := []) (f2 := cap) (args := [.func (.yield l) #[] #[]]) hs).mono ?_
   rintro v L' ⟨_, ⟨L1, ⟨q1, q2, q3, q4⟩, q5, _⟩ | ⟨L1, ⟨q1, ⟨j, q2, q3⟩, q4⟩, q5, _⟩⟩
   ·exact ⟨_, _, by decide, q5 _ _ q3, q1.trans q5, hl, hd, hne, q5 _ _ q4, ⟨_, _, q5 _ _ q3⟩, .inl ⟨rfl, hm _ _ _ (calm_mono q5) q2⟩⟩
   ·exact ⟨_, _, by decide, q5 _ _ q2, q1.trans q5, hl, hd, hne, q5 _ _ q4, ⟨_, _, q5 _ _ q2⟩, .inr ⟨j, rfl, hz _ _ _ (calm_mono q5) q3⟩⟩
  ·rintro pre x post L' hx ⟨q1, q2, q3, q4⟩
   refine SpV.round (n := n) (E' := E') q3 (hln x) hT hE hn fun C' c1 c2 c3 _ rt => ?_
   refine hb d l pre x post L' _ ⟨.busy, none, C.f, T, ps, asg, body, d⟩ hx q1 (hm _ _ _ (calm_le _) q2) hl hd hne q3 q4 C' c1 c2 (fun k E B hw => W.beginR c3 q3 rfl (hw _ (put_same _ _ _) fun b hb' => put_ne _ _ hb')) ?_ ?_
   ·intro k E B L'' hk g1 g2 g3 g4
    refine W.endR rt c3 hk g1 (.inl ⟨rfl, le_put_none g3 hl _, ?_, put_same _ _ _, by rw [put_ne _ _ (Ne.symm hne)]; exact g2⟩)
    rw [calm_putL g1]; exact g4
   ·intro k E B L'' j hk g1 g2 g3 g4
    refine W.endR rt c3 hk g1 (.inr ⟨rfl, le_put_none g3 hl _, ⟨j, put_same _ _ _, ?_⟩, by rw [put_ne _ _ (Ne.symm hne)]; exact g2⟩)
    rw [calm_putL g1]; exact g4
 ·rintro T d l st pd L' ⟨q1, q2, q3, q4, q5, ⟨st', pd', q6⟩, ⟨rfl, q7⟩ | ⟨j, rfl, q7⟩⟩
  ·exact w1 d l _ (le_put_none q1 q2 _) q2 q3 (hm _ _ _ (calm_le _) (by rw [calm_putL q6]; exact q7)) (by rw [put_ne _ _ (Ne.symm q4)]; exact q5)
  ·exact w2 d l j _ (le_put_none q1 q2 _) q2 q3 (hz _ _ _ (calm_le _) (by rw [calm_putL q6]; exact q7)) (by rw [put_ne _ _ (Ne.symm q4)]; exact q5)
end
variable {X : Logic Tryz.prog}
def pad3 (l : List Int) : List Int := l ++ List.replicate (3 - l.length) 0
def enc3 (l : List Int) : List Value := (pad3 l).map (Value.int .i64)
abbrev encL3 (l : List Int) : List Value := [.agg (enc3 l).toArray]
theorem pad3_len {l : List Int} (h : l.length ≤ 3) : (pad3 l).length = 3 := by unfold pad3; rw [List.length_append, List.length_replicate]; omega
theorem enc3_len {l : List Int} (h : l.length ≤ 3) : (enc3 l).length = 3 := by unfold enc3; rw [List.length_map, pad3_len h]
theorem pad3_get {l : List Int} (k : Nat) : (pad3 l).getD k 0 = l.getD k 0 := by
 unfold pad3
 rw [List.getD_eq_getElem?_getD, List.getD_eq_getElem?_getD]
 by_cases h : k < l.length
 ·rw [List.getElem?_append_left h]
 ·rw [List.getElem?_append_right (by omega), List.getElem?_eq_none (l := l) (by omega)]
  by_cases h2 : k - l.length < 3 - l.length
  ·rw [List.getElem?_replicate_of_lt h2]; rfl
  ·rw [List.getElem?_eq_none (by rw [List.length_replicate]; omega)]
theorem planW_congr {s : Sw} {w : List Nat} {l l' : List Int} (h : ∀ k, l.getD k 0 = l'.getD k 0) : planW s w l = planW s w l' := by
 unfold planW
 have : crushK s l = crushK s l' := by funext P k; unfold crushK; rw [h]
 rw [this]
theorem planW_pad (s : Sw) (w : List Nat) (l : List Int) : planW s w (pad3 l) = planW s w l := planW_congr fun k => pad3_get k
theorem list3 {l : List Int} (h : l.length = 3) : ∃ a b c, l = [a, b, c] := by
 match l, h with
 | [a, b, c], _ => exact ⟨a, b, c, rfl⟩
theorem put3 (l : List Int) (h : l.length ≤ 2) (c x : Int) : putL ((enc3 (l ++ [c])).map SV.v) (0 + l.length * 1) [.v (.int .i64 x)] = (enc3 (l ++ [x])).map SV.v := by
 match l, h with
 | [], _ => rfl
 | [a], _ => rfl
 | [a, b], _ => rfl
theorem enc3_0 {l : List Int} (h : l.length ≤ 2) : enc3 l = enc3 (l ++ [0]) := by
 match l, h with
 | [], _ => rfl
 | [a], _ => rfl
 | [a, b], _ => rfl
def subW (s : Sw) (w : List Nat) (b rest : List Int) : List (List Int) := ((listsW rest).map (b ++ ·)).filter (okW s w)
theorem subW_nil (s : Sw) (w : List Nat) (b : List Int) : subW s w b [] = if okW s w b then [b] else [] := by
 unfold subW listsW
 rw [List.map_cons, List.map_nil, List.append_nil, List.filter_cons]
 rfl
theorem subW_cons (s : Sw) (w : List Nat) (b rest : List Int) (m : Int) : subW s w b (m :: rest) = (List.range (m + 1).toNat).flatMap fun (n : Nat) => subW s w (b ++ [(n : Int)]) rest := by
 unfold subW
 rw [listsW, List.map_flatMap, List.filter_flatMap]
 congr 1
 funext n
 simp only [List.map_map]
 congr 2
 funext l
 simp
structure SwK (bs bw : Nat) (s : Sw) (p : Wp) (m : Nat) (L : LH) : Prop where
 cs : cellsAt L ⟨bs, 0, none⟩ 4 (encSw s p)
 cw : L.cell? ⟨bw, 0, none⟩ = some (.int .u8 m)
 sw : SwAt L s p
theorem SwK.le {bs bw : Nat} {s : Sw} {p : Wp} {m : Nat} {L L' : LH} (hl : Le L L') (h : SwK bs bw s p m L) : SwK bs bw s p m L' := ⟨hl.cellsAt h.cs, hl.cell h.cw, h.sw.le hl⟩
theorem SwK.cell {bs bw : Nat} {s : Sw} {p : Wp} {m : Nat} {L : LH} (h : SwK bs bw s p m L) {i : Nat} {v : Value} (hv : (encSw s p)[i]? = some v) : L.cell? ⟨bs, i, none⟩ = some v := by
 have := h.cs.2 i v hv
 rwa [add_of, Nat.zero_add] at this
abbrev growV (bs bw by_ bg : Nat) : Value := .func (.func 140) #[] #[pt bs, pt bw, pt by_, pt bg]
theorem grow_sp {s : Sw} (hok : SOk s) {m : Nat} (hm : m < 32) (hw : WnOk s (bits5 m)) (p : Wp) (bs bw by_ bg : Nat) (yv : Value) (xs : List (List Int)) (J : List (List Int) → LH → Prop) (Z : LH → Prop) (F FK : LH)
  (hY0 : Yl X yv encL3 xs (fun L => Le FK L) J Z) (hZ : ∀ L, Z L → Le FK L) (hSK : SwK bs bw s p m FK) (hFy : F.cell? ⟨by_, 0, none⟩ = some yv) (hFg : F.cell? ⟨bg, 0, none⟩ = some (growV bs bw by_ bg)) :
  ∀ (rest bgn : List Int) (pre post : List (List Int)) (L : LH), s.stock.drop bgn.length = rest → bgn.length ≤ s.stock.length → (∀ x ∈ bgn, 0 ≤ x ∧ x ≤ 8) → xs = pre ++ subW s (bits5 m) bgn rest ++ post → Fra J F pre L →
   Sp X 140 [.agg (enc3 bgn).toArray, .int .i64 bgn.length, pt bs, pt bw, pt by_, pt bg] L
    (fun v L' => (v = .bool true ∧ Fra J F (pre ++ subW s (bits5 m) bgn rest) L') ∨ (v = .bool false ∧ FraZ Z F L')) := by
 have hY := hY0.frame (fun _ _ hl h => h.trans hl) F
 have hl3 := hok.l3
 have hst := hok.st
 intro rest
 induction rest with
 | nil =>
  intro bgn pre post L hd hbl hb4 hx hJ
  have hK := hY.inv _ _ hJ
  have hlen : bgn.length = s.loaves.length := by
   have := congrArg List.length hd
   rw [List.length_drop, List.length_nil] at this
   omega
  obtain ⟨a, b, c, habc⟩ := list3 (pad3_len (l := bgn) (by omega))
  have hge : ∀ k, 0 ≤ bgn.getD k 0 ∧ bgn.getD k 0 ≤ 8 := fun k => by
   rw [List.getD_eq_getElem?_getD]
   cases e : bgn[k]? with
   | none => exact ⟨by decide, by decide⟩
   | some y => exact hb4 y (List.mem_of_getElem? e)
  have ha := hge 0
  have hb := hge 1
  have hc := hge 2
  rw [← pad3_get, habc] at ha hb hc
  have henc : enc3 bgn = [.int .i64 a, .int .i64 b, .int .i64 c] := by unfold enc3; rw [habc]; rfl
  have hplan : planW s (bits5 m) [a, b, c] = planW s (bits5 m) bgn := by rw [← habc, planW_pad]
  have hPB : PB 4000 (planW s (bits5 m) bgn) := by
   rw [← hplan]
   exact (planTo_PB hok hw (bits5_len m) (fun k => by
    rw [← habc, pad3_get]; exact hge k) s.loaves.length).mono (by omega)
  rw [subW_nil] at hx ⊢
  rw [henc]
  refine Sp.enter (n := 48) Tryz.func140 rfl rfl rfl rfl fun C hX _ hL0 r => ?_
  refine W.go 99 rfl ?_
  refine W.vf rfl rfl rfl rfl (Vf.load rfl rfl rfl (hK.1.cell (hSK.cell (i := 0) rfl))) ?_
  refine W.go 99 rfl ?_
  refine W.split rfl rfl rfl (fun _ => ?_) (fun e => absurd e (by simp; omega))
  refine W.go 99 rfl ?_
  have hSJ := hSK.le (join_le_left (G := F))
  have hFJ := (join_le_right hK.1 hK.2).cell hFy
  have hSL := hSK.le hK.1
  refine W.drawn (by kernel_rfl) (FK.join F) (join_le hK.1 hK.2) ?_
  refine DD.vf 0 rfl rfl rfl rfl rfl (Vf.loadN rfl rfl rfl (hSJ.cs)) ?_
  refine DD.vf 1 rfl rfl rfl rfl rfl (Vf.loadN rfl rfl rfl (hSJ.cs)) ?_
  refine DD.vf 2 rfl rfl rfl rfl rfl (Vf.load rfl rfl rfl (hSJ.cw)) ?_
  refine DD.run' [3] rfl ?_
  have hpl := plan_sp (X := C.X) s p m a b c L hSL.sw hok hm hw ha hb hc
  rw [hplan] at hpl
  refine DD.act 4 rfl rfl rfl rfl rfl (Ef.call rfl (hpl)) ((by rintro _ _ _ ⟨_, rfl, rfl, rfl, hl⟩; exact ⟨(join_le hK.1 hK.2).trans hl, rfl, .inl rfl⟩)) ?_
  rintro _ _ _ ⟨_, rfl, rfl, rfl, hl1⟩
  rename_i L1
  refine DD.act 5 rfl rfl rfl rfl rfl (Ef.call rfl (right_sp s p _ L1 (hSL.sw.le hl1) hok hPB)) ((by rintro _ _ _ ⟨_, rfl, rfl, rfl, hl⟩; exact ⟨(join_le hK.1 hK.2).trans (hl1.trans hl), rfl, .inl rfl⟩)) ?_
  rintro _ _ _ ⟨_, rfl, rfl, rfl, hl2⟩
  rename_i L2
  have hJ2 := hJ.mono (hl1.trans hl2)
  have hK2 := hY.inv _ _ hJ2
  by_cases hr : rightW s (planW s (bits5 m) bgn) = 0
  ·have hko : okW s (bits5 m) bgn = true := by unfold okW; rw [hr]; rfl
   rw [if_pos hko] at hx r
   rw [show lackV (rightW s (planW s (bits5 m) bgn)) = .nilIface by unfold lackV; rw [if_pos hr]]
   refine DD.run' [6, 7] rfl ?_
   refine DD.vf 8 rfl rfl rfl rfl rfl (Vf.load rfl rfl rfl (hFJ)) ?_
   refine DD.run' [9] rfl ?_
   obtain ⟨yf, yt, yc, rfl⟩ := hY0.fn
   have hy := hY.yl pre bgn post L2 (by rw [hx]; simp) hJ2
   rw [← hX] at hy
   have hy' : SpV C.X (.func yf yt yc) [.agg #[.int .i64 a, .int .i64 b, .int .i64 c]] L2 (fun v L' => (v = .bool true ∧ Fra J F (pre ++ [bgn]) L') ∨ (v = .bool false ∧ FraZ Z F L')) := by
    have := hy
    unfold encL3 at this
    rwa [henc] at this
   have hfoot : ∀ (v : Value) (L' : LH), ((v = .bool true ∧ Fra J F (pre ++ [bgn]) L') ∨ (v = .bool false ∧ FraZ Z F L')) → Le (FK.join F) L' := by
    rintro v L' (⟨_, hq⟩ | ⟨_, hq⟩)
    ·have := hY.inv _ _ hq
     exact join_le this.1 this.2
    ·obtain ⟨L1, g1, g2, g3⟩ := hq
     exact join_le ((hZ _ g1).trans g2) g3
   refine DD.act 10 rfl rfl rfl rfl rfl (Ef.callS rfl rfl rfl hy') ((by rintro _ _ _ ⟨_, rfl, rfl, hq⟩; exact ⟨hfoot _ _ hq, rfl, .inl rfl⟩)) ?_
   rintro _ _ _ ⟨_, rfl, rfl, hq⟩
   rcases hq with ⟨rfl, hq⟩ | ⟨rfl, hq⟩
   ·refine DD.run' [11, 12] rfl ?_
    refine .fin rfl ?_
    refine W.go 99 rfl ?_
    refine W.ret r rfl rfl ?_
    exact .inl ⟨rfl, hq⟩
   ·refine DD.run' [11, 12] rfl ?_
    refine .fin rfl ?_
    refine W.go 99 rfl ?_
    refine W.ret r rfl rfl ?_
    exact .inr ⟨rfl, hq⟩
  ·have hko : okW s (bits5 m) bgn = false := by unfold okW; simpa using hr
   rw [if_neg (by simp [hko])] at hx r
   rw [show lackV (rightW s (planW s (bits5 m) bgn)) = .iface 186 (.agg #[.int .i64 (rightW s (planW s (bits5 m) bgn))]) by unfold lackV; rw [if_neg hr]]
   refine DD.run' [6, 7, 8, 9, 10, 11, 12] rfl ?_
   refine .fin rfl ?_
   refine W.go 99 rfl ?_
   refine W.ret r rfl rfl ?_
   rw [List.append_nil]
   exact .inl ⟨rfl, hJ2⟩
 | cons x rest ih =>
  intro bgn pre post L hd hbl hb4 hx hJ
  have hK := hY.inv _ _ hJ
  have hl : bgn.length < s.stock.length := by
   have := congrArg List.length hd
   rw [List.length_drop, List.length_cons] at this
   omega
  rw [List.drop_eq_getElem_cons hl] at hd
  obtain ⟨hx0, hd1⟩ := List.cons.inj hd
  have hxb := hok.sr x (by rw [← hx0]; exact List.getElem_mem hl)
  have hsx : s.stock[bgn.length]? = some x := by rw [← hx0]; exact List.getElem?_eq_getElem hl
  have hbl2 : bgn.length ≤ 2 := by omega
  obtain ⟨N, hN⟩ : ∃ N : Nat, x + 1 = (N : Int) := ⟨(x + 1).toNat, by omega⟩
  rw [subW_cons, hN, Int.toNat_natCast] at hx ⊢
  have hsub : ∀ j, j < N → (List.range N).flatMap (fun (n : Nat) => subW s (bits5 m) (bgn ++ [(n : Int)]) rest) = (List.range j).flatMap (fun (n : Nat) => subW s (bits5 m) (bgn ++ [(n : Int)]) rest) ++ (subW s (bits5 m) (bgn ++ [(j : Int)]) rest ++ (List.range' (j + 1) (N - j - 1)).flatMap (fun (n : Nat) => subW s (bits5 m) (bgn ++ [(n : Int)]) rest)) := fun j hj => by
   rw [range_split hj, List.flatMap_append, List.flatMap_cons]
  have hsucc : ∀ j, (List.range (j + 1)).flatMap (fun (n : Nat) => subW s (bits5 m) (bgn ++ [(n : Int)]) rest) = (List.range j).flatMap (fun (n : Nat) => subW s (bits5 m) (bgn ++ [(n : Int)]) rest) ++ subW s (bits5 m) (bgn ++ [(j : Int)]) rest := fun j => by
   rw [List.range_succ, List.flatMap_append]; simp
  have child : ∀ (j : Nat) (L : LH), j < N → Fra J F (pre ++ (List.range j).flatMap (fun (n : Nat) => subW s (bits5 m) (bgn ++ [(n : Int)]) rest)) L →
    Sp X 140 [.agg (enc3 (bgn ++ [(j : Int)])).toArray, .int .i64 ((bgn.length + 1 : Nat) : Int), pt bs, pt bw, pt by_, pt bg] L
     (fun v L' => (v = .bool true ∧ Fra J F (pre ++ (List.range (j + 1)).flatMap (fun (n : Nat) => subW s (bits5 m) (bgn ++ [(n : Int)]) rest)) L') ∨ (v = .bool false ∧ FraZ Z F L')) := by
   intro j L hj hJj
   have hlen : (bgn ++ [(j : Int)]).length = bgn.length + 1 := by simp
   have := ih (bgn ++ [(j : Int)]) _ ((List.range' (j + 1) (N - j - 1)).flatMap (fun (n : Nat) => subW s (bits5 m) (bgn ++ [(n : Int)]) rest) ++ post) L (by rw [hlen]; exact hd1) (by rw [hlen]; omega) (fun y hy => by
    rcases List.mem_append.1 hy with hy | hy
    ·exact hb4 y hy
    ·rw [List.mem_singleton.1 hy]; omega) (by rw [hx, hsub j hj]; simp only [List.append_assoc]) hJj
   rw [hlen, List.append_assoc, ← hsucc] at this
   exact this
  clear ih
  have hSL := hSK.le hK.1
  obtain ⟨la, hla⟩ := hSL.sw.st.addr hl
  have hst' := hSL.sw.st
  have hSK0 := hSK
  obtain ⟨qa, qb, qc, qd, qe, qf⟩ := p
  obtain rfl : qb = some la := hla
  have hw1 : IntKind.i64.wrap ((bgn.length : Int) + 1) = ((bgn.length + 1 : Nat) : Int) := by rw [wrap64_in _ (by omega) (by omega)]; omega
  have hw2 : IntKind.i64.wrap (x + 1) = (N : Int) := by rw [wrap64_in _ (by omega) (by omega), hN]
  rw [enc3_0 hbl2]
  refine Sp.enter (n := 48) Tryz.func140 rfl rfl rfl rfl fun C hX _ hL0 r => ?_
  refine W.go 99 rfl ?_
  refine W.vf rfl rfl rfl rfl (Vf.load rfl rfl rfl (hSL.cell (i := 0) rfl)) ?_
  refine W.go 99 rfl ?_
  refine W.split rfl rfl rfl (fun e => absurd e (by simp; omega)) (fun _ => ?_)
  refine W.go 99 rfl ?_
  refine W.vf rfl rfl rfl rfl (Vf.load rfl rfl rfl (hSL.cell (i := 1) rfl)) ?_
  refine W.go 99 rfl ?_
  refine W.vf rfl rfl rfl rfl (Vf.idx1 rfl rfl rfl rfl rfl rfl rfl (hl)) ?_
  refine W.go 99 rfl ?_
  refine W.vf rfl rfl rfl rfl (Vf.load rfl rfl rfl (hst'.int hsx)) ?_
  refine W.go 99 rfl ?_
  rw [hw2]
  refine W.loop (fun q E B L' => ∃ (j : Nat) (c : Int), j ≤ N ∧ q = N - j ∧ Fra J F (pre ++ (List.range j).flatMap (fun (n : Nat) => subW s (bits5 m) (bgn ++ [(n : Int)]) rest)) L' ∧
    E = [(1, .v (.int .i64 bgn.length)), (2, .v (pt bs)), (3, .v (pt bw)), (4, .v (pt by_)), (5, .v (pt bg)), (6, .p 0 0), (34, .v (.int .i64 N)), (35, .v (.int .i64 j))] ∧ B = [some ⟨(enc3 (bgn ++ [c])).map .v, 99⟩])
   ⟨0, 0, by omega, rfl, by simpa using hJ, rfl, rfl⟩ (by exact ⟨rfl, rfl, rfl, rfl, rfl, rfl, rfl, rfl, trivial⟩) (by exact ⟨rfl, trivial⟩) ?_ rfl (scB_v _ _ rfl)
  rintro _ _ _ L2 ⟨j, c, hj, rfl, hJ2, rfl, rfl⟩ again
  refine W.go 99 rfl ?_
  refine W.split rfl rfl rfl (fun e1 => W.go 99 rfl ?_) (fun e1 => W.go 99 rfl ?_)
  ·have hjN : j < N := by simpa using e1
   have hK2 := hY.inv _ _ hJ2
   have hle6 : 0 + bgn.length * 1 + 1 ≤ ((enc3 (bgn ++ [c])).map SV.v).length := by rw [List.length_map, enc3_len (by simp; omega)]; omega
   refine W.vf rfl rfl rfl rfl (Vf.idxA rfl rfl rfl rfl rfl rfl (show bgn.length < 3 by omega)) ?_
   refine W.eff0 rfl rfl (Ef.stoA rfl rfl rfl rfl rfl (by exact rfl) (by exact hle6) (by exact rfl) (by exact (put3 bgn hbl2 c j))) ?_
   rintro _ _ _ ⟨rfl, rfl, rfl⟩
   refine W.go 99 rfl ?_
   refine W.vf rfl rfl rfl rfl (Vf.load rfl rfl rfl (hK2.2.cell hFg)) ?_
   refine W.vf rfl rfl rfl rfl (Vf.loadAll rfl rfl rfl rfl rfl (enc3_len (by simp; omega))) ?_
   refine W.go 99 rfl ?_
   rw [hw1]
   have hch := child j _ hjN hJ2
   rw [← hX] at hch
   refine W.eff rfl rfl rfl (Ef.callS rfl rfl rfl (Sp.toV (f1 := []) (f2 := [pt bs, pt bw, pt by_, pt bg]) hch)) ?_
   rintro _ _ _ ⟨_, rfl, rfl, hq⟩
   refine W.go 99 rfl ?_
   rcases hq with ⟨rfl, hq⟩ | ⟨rfl, hq⟩
   ·refine W.split rfl rfl rfl (fun c => absurd c (by decide)) (fun c => ?_)
    refine W.go 99 rfl ?_
    exact W.again (again _ _ _ _ (by omega) ⟨j + 1, j, by omega, rfl, hq, rfl, rfl⟩) ⟨rfl, rfl, rfl, rfl, rfl, rfl, rfl, congrArg some (inc64 (by omega)), trivial⟩ ⟨rfl, trivial⟩ rfl (scB_v _ _ rfl)
   ·refine W.split rfl rfl rfl (fun c => ?_) (fun c => absurd c (by decide))
    refine W.go 99 rfl ?_
    refine W.ret r rfl rfl ?_
    exact .inr ⟨rfl, hq⟩
  ·have hjN : j = N := by simp at e1; omega
   subst hjN
   refine W.ret r rfl rfl ?_
   exact .inl ⟨rfl, hJ2⟩
end Go.Mz

