/- Lemmas on which the claim leans. -/
import Derived.Test.YtnhckcgdmolgcaaGreatDoorMzAs
set_option maxRecDepth 100000
namespace Go.Mz
open Go.Conc Go.Proofs
variable {X : Logic Tryz.prog}
def RelL (l : List Int) (vs : List Value) (L : LH) : Prop := ∃ ad cap, vs = [.slice ad l.length cap] ∧ IntsAt L ad l ∧ l.length ≤ cap
abbrev bxS (s : St) (p : Pt) : List Value := [.slice p.sa s.shelves.length p.c1, .slice p.ca s.cones.length p.c2, .int .i64 s.days, .int .i64 s.now, .int .i64 s.rise, .int .i64 s.top]
structure HtK (bs : Nat) (s : St) (L : LH) : Prop where
 d : L.cell? ⟨bs, 2, none⟩ = some (.int .i64 s.days)
 n : L.cell? ⟨bs, 3, none⟩ = some (.int .i64 s.now)
 r : L.cell? ⟨bs, 4, none⟩ = some (.int .i64 s.rise)
 t : L.cell? ⟨bs, 5, none⟩ = some (.int .i64 s.top)
theorem HtK.le {bs : Nat} {s : St} {L L' : LH} (h : HtK bs s L) (hl : Le L L') : HtK bs s L' := ⟨hl.cell h.d, hl.cell h.n, hl.cell h.r, hl.cell h.t⟩
abbrev hgrowV (bs by_ bg : Nat) : Value := .func (.func 148) #[] #[pt bs, pt by_, pt bg]
abbrev hsub (s : St) (n j : Nat) : List (List Int) := (List.range j).flatMap fun (h : Nat) => (heatsAll s.top s.rise n h).map ((h : Int) :: ·)
theorem hsub_succ (s : St) (n j : Nat) (l : List Int) : (hsub s n (j + 1)).map (l ++ ·) = (hsub s n j).map (l ++ ·) ++ (heatsAll s.top s.rise n (j : Int)).map ((l ++ [(j : Int)]) ++ ·) := by
 unfold hsub
 rw [List.range_succ, List.flatMap_append, List.map_append]
 congr 1
 simp [List.map_map, Function.comp]
theorem hsub_split (s : St) (n : Nat) {j N : Nat} (h : j < N) (l : List Int) : ∃ r, (hsub s n N).map (l ++ ·) = (hsub s n j).map (l ++ ·) ++ ((heatsAll s.top s.rise n (j : Int)).map ((l ++ [(j : Int)]) ++ ·) ++ r) := by
 refine ⟨(((List.range' (j + 1) (N - j - 1)).flatMap fun (h : Nat) => (heatsAll s.top s.rise n h).map ((h : Int) :: ·))).map (l ++ ·), ?_⟩
 unfold hsub
 rw [range_split h, List.flatMap_append, List.map_append, List.flatMap_cons, List.map_append]
 congr 2
 simp [List.map_map, Function.comp]
theorem hgrow_sp (s : St) (hok : Ok s) (bs by_ bg : Nat) (yv : Value) (xs : List (List Int)) (J : List (List Int) → LH → Prop) (Z : LH → Prop) (hY : YlR X yv RelL xs (HtK bs s) J Z) :
  ∀ (n : Nat) (l : List Int) (b : Int) (ad : Option Addr) (cap : Nat) (pre post : List (List Int)) (F Lx L : LH), F.cell? ⟨by_, 0, none⟩ = some yv → F.cell? ⟨bg, 0, none⟩ = some (hgrowV bs by_ bg) → l.length + n = s.days.toNat → 0 ≤ b → b ≤ 5 → l.length ≤ cap → IntsAt Lx ad l → Le Lx L →
   (∀ b, F b ≠ none → Lx b = none) → xs = pre ++ (heatsAll s.top s.rise n b).map (l ++ ·) ++ post → Fra J (F.join Lx) pre L →
   Sp X 148 [.slice ad l.length cap, .int .i64 b, pt bs, pt by_, pt bg] L
    (fun v L' => (v = .bool true ∧ Fra J F (pre ++ (heatsAll s.top s.rise n b).map (l ++ ·)) L') ∨ (v = .bool false ∧ FraZ Z F L')) := by
 intro n
 have hd1 := hok.d1
 have hd4 := hok.d4
 induction n with
 | zero =>
  intro l b ad cap pre post F Lx L hFy hFg hn hb0 hb5 hcap hl hLx hdis hx hJ
  have hJ0 := hJ.less (F' := F) join_le_left
  obtain ⟨L1, j1, j2, j3, j4⟩ := id hJ0
  have hK := (hY.inv _ _ j1).le j2
  have hg : (heatsAll s.top s.rise 0 b).map (l ++ ·) = [l] := by simp [heatsAll]
  rw [hg] at hx ⊢
  refine Sp.enter (n := 41) Tryz.func148 rfl rfl rfl rfl fun C hX _ hL0 r => ?_
  refine W.go 99 rfl ?_
  refine W.vf rfl rfl rfl rfl (Vf.load rfl rfl rfl (hK.d)) ?_
  refine W.go 99 rfl ?_
  refine W.split rfl rfl rfl (fun _ => ?_) (fun e => absurd e (by simp; omega))
  refine W.go 99 rfl ?_
  refine W.vf rfl rfl rfl rfl (Vf.load rfl rfl rfl (j3.cell hFy)) ?_
  refine W.go 99 rfl ?_
  have hc := hY.call (x := l) (post := post) (vs := [.slice ad l.length cap]) (Lx := Lx) (by rw [hx]; simp) hJ ⟨ad, cap, rfl, hl, hcap⟩ hLx hdis
  obtain ⟨yf, yt, yc, rfl⟩ := hY.fn
  rw [← hX] at hc
  refine W.eff rfl rfl rfl (Ef.callS rfl rfl rfl hc) ?_
  rintro _ _ _ ⟨_, rfl, rfl, hq⟩
  refine W.go 99 rfl ?_
  refine W.ret r rfl rfl ?_
  exact hq
 | succ n ih =>
  intro l b ad cap pre post F Lx L hFy hFg hn hb0 hb5 hcap hl hLx hdis hx hJ
  obtain ⟨L1, j1, j2, j3, j4⟩ := id hJ
  have hK := (hY.inv _ _ j1).le j2
  have ht0 := hok.t0
  have ht5 := hok.t5
  have hr0 := hok.r0
  have hr3 := hok.r3
  obtain ⟨N, hN⟩ : ∃ N : Nat, min s.top (b + s.rise) + 1 = (N : Int) := ⟨(min s.top (b + s.rise) + 1).toNat, by omega⟩
  have hall : heatsAll s.top s.rise (n + 1) b = hsub s n N := by unfold hsub; rw [heatsAll, hN, Int.toNat_natCast]
  rw [hall] at hx ⊢
  have hFJ : Le F (F.join Lx) := join_le_left
  refine Sp.enter (n := 41) Tryz.func148 rfl rfl rfl rfl fun C hX _ hL0 r => ?_
  refine W.go 99 rfl ?_
  refine W.vf rfl rfl rfl rfl (Vf.load rfl rfl rfl (hK.d)) ?_
  refine W.go 99 rfl ?_
  refine W.split rfl rfl rfl (fun e => absurd e (by simp; omega)) (fun _ => ?_)
  refine W.go 99 rfl ?_
  refine W.loop (fun m E B L' => ∃ j : Nat, j ≤ N ∧ m = N - j ∧ Fra J (F.join Lx) (pre ++ (hsub s n j).map (l ++ ·)) L' ∧
    E = [(0, .v (.slice ad l.length cap)), (1, .v (.int .i64 b)), (2, .v (pt bs)), (3, .v (pt by_)), (4, .v (pt bg)), (8, .v (.int .i64 j))] ∧ B = [])
   ⟨0, by omega, rfl, by simpa [hsub] using hJ, rfl, rfl⟩ (by exact ⟨rfl, rfl, rfl, rfl, rfl, rfl, trivial⟩) (by exact trivial) ?_
  rintro _ _ _ L2 ⟨j, hj, rfl, hJ2, rfl, rfl⟩ again
  obtain ⟨L3, k1, k2, k3, k4⟩ := id hJ2
  have hK2 := (hY.inv _ _ k1).le k2
  refine W.go 99 rfl ?_
  refine W.vf rfl rfl rfl rfl (Vf.load rfl rfl rfl (hK2.t)) ?_
  refine W.go 99 rfl ?_
  refine W.vf rfl rfl rfl rfl (Vf.load rfl rfl rfl (hK2.r)) ?_
  refine W.go 99 rfl ?_
  rw [wrap64_in _ (by omega) (by omega)]
  refine W.split rfl rfl rfl (fun e1 => W.go 99 rfl ?_) (fun e1 => W.go 99 rfl ?_)
  ·have hj1 : j + 1 ≤ N := by simp at e1; split at e1 <;> omega
   have hjt : (j : Int) ≤ s.top := by omega
   refine W.drawn (by kernel_rfl) (F.join Lx) k3 ?_
   refine DD.run' [1, 2, 3, 4, 5, 7, 10] rfl ?_
   refine DD.vf 0 rfl rfl rfl rfl rfl (Vf.load rfl rfl rfl ((hFJ.cell hFg))) ?_
   refine DD.vf 6 rfl rfl rfl rfl rfl (Vf.slice3 rfl rfl rfl Tryz.underlying28 size3 (Nat.le_refl _) hcap) ?_
   refine DD.run' [8] rfl ?_
   have hLxJ : Le Lx (F.join Lx) := join_le_right (join_le_left.trans j3) hLx
   have hl2 : IntsAt L2 ad l := hl.le (hLxJ.trans k3)
   have hlen : l.length ≤ 4 := by omega
   refine DD.act 9 rfl rfl rfl rfl rfl (Ef.appF (enc := encI) (l := l) (ls := [(j : Int)]) rfl rfl rfl rfl rfl rfl rfl rfl rfl encI_len hl2 (.own rfl rfl rfl rfl) (by simp) (by simp; omega)) ((by rintro _ _ _ ⟨_, _, _, _, rfl, hb, rfl, _⟩; exact ⟨k3.trans (Le.put hb _), rfl, .inl rfl⟩)) ?_
   rintro _ _ _ ⟨bn, cn, capn, rfl, rfl, hbn, rfl, hown⟩
   have hF1 : F.join Lx bn = none := none_of_le k3 hbn
   have hJ3 := hJ2.put hbn (.cells cn 3)
   obtain ⟨rst, hrst⟩ := hsub_split s n (show j < N by omega) l
   have hx2 : (noL.put bn (.cells cn 3)) bn = some (.cells cn 3, true) := put_same _ _ _
   have hch := ih (l ++ [(j : Int)]) j (some ⟨bn, 0, none⟩) capn (pre ++ (hsub s n j).map (l ++ ·)) (rst ++ post) (F.join Lx) (noL.put bn (.cells cn 3)) (L2.put bn (.cells cn 3)) (hFJ.cell hFy) (hFJ.cell hFg) (by rw [List.length_append, List.length_singleton]; omega) (by omega) (by omega)
    (by obtain ⟨_, _, hv, _, _, g, _⟩ := hown; cases hv; exact g) ((hown.keep (L' := noL.put bn (.cells cn 3)) fun b' hb' => by cases hb'; rw [put_same, put_same]).at encI_len) (le_put2 (noL_le _) bn _)
    (fun b' hb' => by rw [put_ne _ _ (fun e => by subst e; exact hb' hF1)]; rfl) (by rw [hx, hrst]; simp only [List.append_assoc]) (hJ3.less (join_le (Le.put hF1 _) (le_put2 (noL_le _) bn _)))
   rw [← hX] at hch
   refine DD.act 11 rfl rfl rfl rfl rfl (Ef.callS rfl rfl rfl (Sp.toV (f1 := []) (f2 := [pt bs, pt by_, pt bg]) hch)) ((by rintro _ _ _ ⟨_, rfl, rfl, ⟨_, _, _, _, h, _⟩ | ⟨_, _, _, _, h⟩⟩ <;> exact ⟨h, rfl, .inl rfl⟩)) ?_
   rintro _ _ _ ⟨_, rfl, rfl, ⟨rfl, hq⟩ | ⟨rfl, hq⟩⟩
   ·refine DD.run' [12] rfl ?_
    refine .fin rfl ?_
    refine W.go 99 rfl ?_
    refine W.split rfl rfl rfl (fun c => absurd c (by decide)) (fun c => ?_)
    refine W.go 99 rfl ?_
    exact W.again (again _ _ _ _ (by omega) ⟨j + 1, hj1, rfl, by rw [hsub_succ, ← List.append_assoc]; exact hq, rfl, rfl⟩) ⟨rfl, rfl, rfl, rfl, rfl, congrArg some (inc64 (by omega)), trivial⟩ (by exact trivial)
   ·refine DD.run' [12] rfl ?_
    refine .fin rfl ?_
    refine W.go 99 rfl ?_
    refine W.split rfl rfl rfl (fun c => ?_) (fun c => absurd c (by decide))
    refine W.go 99 rfl ?_
    refine W.ret r rfl rfl ?_
    obtain ⟨M1, g1, g2, g3⟩ := hq
    exact .inr ⟨rfl, M1, g1, g2, hFJ.trans g3⟩
  ·have hjN : j = N := by simp at e1; split at e1 <;> omega
   subst hjN
   refine W.ret r rfl rfl ?_
   exact .inl ⟨rfl, hJ2.less hFJ⟩
theorem heats1_it (s : St) (hok : Ok s) (bs : Nat) : IterR X 147 [pt bs] RelL (heatsS s) (HtK bs s) := by
 intro yv J Z L hY hJ
 obtain ⟨yf, yt, yc, e⟩ := hY.fn
 subst e
 have hF := Fra.zero hJ
 refine Sp.enter (n := 9) Tryz.func147 rfl rfl rfl rfl fun C hX _ hL0 r => ?_
 refine W.goP [3] 99 rfl ?_
 refine W.pub 2 (.inl ⟨_, rfl⟩) rfl rfl ?_
 intro b4 h4 _
 refine W.goP [4] 99 rfl ?_
 refine W.pub 3 (.inl ⟨_, rfl⟩) rfl rfl ?_
 intro b5 h5 _
 have hne : b4 ≠ b5 := fun e => by subst e; rw [put_same] at h5; cases h5
 have hF1 := hF.put h4 (.cells #[.func yf yt yc] 60)
 have hF2 := hF1.put h5 (.cells #[.nilFunc] 214)
 have hF3 := hF2.set (b := b5) (by rw [put_same]; simp) (.cells #[hgrowV bs b4 b5] 214)
 refine W.go 99 rfl ?_
 refine W.eff0 rfl rfl (Ef.stoF rfl ⟨_, rfl, rfl⟩ rfl (put_same _ _ _) rfl (Nat.le_refl _) (singles rfl)) ?_
 rintro _ _ _ ⟨rfl, rfl, rfl⟩
 refine W.go 99 rfl ?_
 refine W.vf rfl rfl rfl rfl (Vf.load rfl rfl rfl (cell_of (put_same _ _ _) rfl)) ?_
 refine W.go 99 rfl ?_
 obtain ⟨L1, j1, j2, j3, _⟩ := id hF3
 have hK := (hY.inv _ _ j1).le j2
 refine W.vf rfl rfl rfl rfl (Vf.load rfl rfl rfl (hK.n)) ?_
 refine W.go 99 rfl ?_
 have hg := hgrow_sp s hok bs b4 b5 (.func yf yt yc) _ J Z hY s.days.toNat [] s.now none 0 [] [] (((noL.put b4 (.cells #[.func yf yt yc] 60)).put b5 (.cells #[.nilFunc] 214)).put b5 (.cells #[hgrowV bs b4 b5] 214)) noL _
  (cell_of (by rw [put_ne _ _ hne, put_ne _ _ hne]; exact put_same _ _ _) rfl) (cell_of (put_same _ _ _) rfl) (by simp) hok.n0 hok.n5 (Nat.le_refl _) ints0 (noL_le _) (fun _ _ => rfl) (by simp [heatsS]) (hF3.less (join_le (Le.refl _) (noL_le _)))
 rw [← hX] at hg
 refine W.eff rfl rfl rfl (Ef.callS rfl rfl rfl (Sp.toV (f1 := []) (f2 := [pt bs, pt b4, pt b5]) hg)) ?_
 rintro _ _ _ ⟨_, rfl, rfl, hq⟩
 refine W.go 99 rfl ?_
 refine W.ret0 r rfl rfl ⟨rfl, ?_⟩
 have e : [] ++ (heatsAll s.top s.rise s.days.toNat s.now).map (([] : List Int) ++ ·) = heatsS s := by simp [heatsS]
 rw [e] at hq
 rcases hq with ⟨_, M, g1, g2, _⟩ | ⟨_, M, g1, g2, _⟩
 ·exact .inl (hY.mJ _ _ _ g2 g1)
 ·exact .inr (hY.mZ _ _ g2 g1)
theorem heats_sp (s : St) (p : Pt) (L : LH) : Sp X 124 [stA s p] L (fun v L' => ∃ bs, v = .func (.func 147) #[] #[pt bs] ∧ L bs = none ∧ L' = L.put bs (.cells (bxS s p).toArray 25)) := by
 refine Sp.enter (n := 4) Tryz.func124 rfl rfl rfl rfl fun C hX _ hL0 r => ?_
 refine W.goP [2] 99 rfl ?_
 refine W.pub 1 (.inl ⟨_, rfl⟩) rfl rfl ?_
 intro b hb _
 refine W.go 99 rfl ?_
 refine W.ret r rfl rfl ?_
 exact ⟨b, rfl, hb, rfl⟩
end Go.Mz


namespace Go.Mz
open Go
theorem sumL_add (l : List Int) (x : Int) : sumL (l ++ [x]) = sumL l + x := by unfold sumL; rw [List.foldl_append]; rfl
theorem sumL_bd : ∀ (n : Nat) (l : List Int), l.length = n → (∀ x ∈ l, 0 ≤ x ∧ x ≤ 100) → 0 ≤ sumL l ∧ sumL l ≤ 100 * n
 | 0, l, hn, _ => by
  rw [List.length_eq_zero_iff] at hn
  subst hn
  exact ⟨Int.le_refl _, Int.le_refl _⟩
 | n + 1, l, hn, h => by
  have hne : l ≠ [] := fun e => by subst e; simp at hn
  obtain ⟨k, x, rfl⟩ : ∃ k x, l = k ++ [x] := ⟨l.dropLast, l.getLast hne, (List.dropLast_concat_getLast hne).symm⟩
  rw [sumL_add]
  have h1 := sumL_bd n k (by simp at hn; omega) fun y hy => h y (List.mem_append_left _ hy)
  have h2 := h x (by simp)
  omega
end Go.Mz


set_option maxRecDepth 100000
namespace Go.Mz
open Go.Conc Go.Proofs
variable {X : Logic Tryz.prog}
theorem takeI_raw (b : Nat) (a0 a1 : Option Addr) (l0 c0 l1 c1 : Nat) (m n : Int) (sm : Bool) (L : LH) (h : L b = some (.cells #[.slice a0 l0 c0, .int .i64 m, .bool sm] 184 (0, 0), true)) :
  Sp X 130 [pt b, .slice a1 l1 c1, .int .i64 n] L (fun v L' => v = .tuple #[] ∧ (∀ b', b' ≠ b → L' b' = L b') ∧ L' b = some (.cells (if !sm || decide (n < m) then #[.slice a1 l1 c1, .int .i64 n, .bool true] else #[.slice a0 l0 c0, .int .i64 m, .bool sm]) 184, true)) := by
 cases sm with
 | false =>
  refine Sp.enter (n := 30) Tryz.func130 rfl rfl rfl rfl fun C hX _ hL0 r => ?_
  refine W.go 99 rfl ?_
  refine W.vf rfl rfl rfl rfl (Vf.load rfl rfl rfl (cell_of h rfl)) ?_
  refine W.go 99 rfl ?_
  refine W.split rfl rfl rfl (fun c => ?_) (fun c => absurd c (by decide))
  refine W.go 99 rfl ?_
  refine W.eff0 rfl rfl (Ef.stoL rfl ⟨_, rfl, rfl⟩ rfl h rfl rfl rfl rfl rfl) ?_
  rintro _ _ _ ⟨rfl, rfl, rfl⟩
  refine W.go 99 rfl ?_
  refine W.eff0 rfl rfl (Ef.stoL rfl ⟨_, rfl, rfl⟩ rfl (put_same _ _ _) rfl rfl rfl rfl rfl) ?_
  rintro _ _ _ ⟨rfl, rfl, rfl⟩
  refine W.go 99 rfl ?_
  refine W.eff0 rfl rfl (Ef.stoL rfl ⟨_, rfl, rfl⟩ rfl (put_same _ _ _) rfl rfl rfl rfl rfl) ?_
  rintro _ _ _ ⟨rfl, rfl, rfl⟩
  refine W.go 99 rfl ?_
  refine W.ret0 r rfl rfl ?_
  exact ⟨rfl, fun b' hb' => by rw [put_ne _ _ hb', put_ne _ _ hb', put_ne _ _ hb'], put_same _ _ _⟩
 | true =>
  refine Sp.enter (n := 30) Tryz.func130 rfl rfl rfl rfl fun C hX _ hL0 r => ?_
  refine W.go 99 rfl ?_
  refine W.vf rfl rfl rfl rfl (Vf.load rfl rfl rfl (cell_of h rfl)) ?_
  refine W.go 99 rfl ?_
  refine W.split rfl rfl rfl (fun c => absurd c (by decide)) (fun c => ?_)
  refine W.go 99 rfl ?_
  refine W.vf rfl rfl rfl rfl (Vf.load rfl rfl rfl (cell_of h rfl)) ?_
  refine W.go 99 rfl ?_
  refine W.split rfl rfl rfl (fun e1 => W.go 99 rfl ?_) (fun e1 => W.go 99 rfl ?_)
  ·refine W.eff0 rfl rfl (Ef.stoL rfl ⟨_, rfl, rfl⟩ rfl h rfl rfl rfl rfl rfl) ?_
   rintro _ _ _ ⟨rfl, rfl, rfl⟩
   refine W.go 99 rfl ?_
   refine W.eff0 rfl rfl (Ef.stoL rfl ⟨_, rfl, rfl⟩ rfl (put_same _ _ _) rfl rfl rfl rfl rfl) ?_
   rintro _ _ _ ⟨rfl, rfl, rfl⟩
   refine W.go 99 rfl ?_
   refine W.eff0 rfl rfl (Ef.stoL rfl ⟨_, rfl, rfl⟩ rfl (put_same _ _ _) rfl rfl rfl rfl rfl) ?_
   rintro _ _ _ ⟨rfl, rfl, rfl⟩
   refine W.go 99 rfl ?_
   refine W.ret0 r rfl rfl ?_
   refine ⟨rfl, fun b' hb' => by rw [put_ne _ _ hb', put_ne _ _ hb', put_ne _ _ hb'], ?_⟩
   rw [if_pos (by simpa using e1)]
   exact put_same _ _ _
  ·refine W.ret0 r rfl rfl ?_
   refine ⟨rfl, fun b' hb' => rfl, ?_⟩
   rw [if_neg (by simpa using e1)]
   exact h
theorem W.cutI {P : Program} {C : Cx P} {n : Nat} {ds : List Deferred} {a : Item} {k : List Item} {E : Env} {B : List (Option Bx)} {L : LH} (J : Env → List (Option Bx) → LH → Prop) (hJ : ∀ E B L, J E B L → W C n ds k E B L) (h : (∀ E' B' L', J E' B' L' → W C n ds k E' B' L') → W C n ds (a :: k) E B L) : W C n ds (a :: k) E B L := h hJ
abbrev Rf := Option Addr × Nat × Nat
abbrev slV (r : Rf) : Value := .slice r.1 r.2.1 r.2.2
abbrev encR (r : Rf) : List Value := [slV r]
theorem encR_len (r : Rf) : (encR r).length = 1 := rfl
theorem encR_sg (r : Rf) : ∀ u ∈ encR r, single u = true := fun u hu => by rw [List.mem_singleton.1 hu]; rfl
def RelA (L : LH) (rf : List Rf) (ls : List (List Int)) : Prop := rf.length = ls.length ∧ ∀ (k : Nat) v l, rf[k]? = some v → ls[k]? = some l → ∃ ad cap, v = (ad, l.length, cap) ∧ IntsAt L ad l
theorem RelA.le {L L' : LH} {rf : List Rf} {ls : List (List Int)} (h : RelA L rf ls) (hl : Le L L') : RelA L' rf ls :=
 ⟨h.1, fun k v l h1 h2 => let ⟨ad, cap, h3, h4⟩ := h.2 k v l h1 h2; ⟨ad, cap, h3, h4.le hl⟩⟩
theorem RelA.calm {L : LH} {rf : List Rf} {ls : List (List Int)} (h : RelA L rf ls) : RelA L.calm rf ls :=
 ⟨h.1, fun k v l h1 h2 => let ⟨ad, cap, h3, h4⟩ := h.2 k v l h1 h2; ⟨ad, cap, h3, fun i x hx => let ⟨a, g1, g2⟩ := h4 i x hx; ⟨a, g1, fun j u hu => calm_cell (g2 j u hu)⟩⟩⟩
theorem RelA.snoc {L : LH} {rf : List Rf} {ls : List (List Int)} (h : RelA L rf ls) {ad : Option Addr} {cap : Nat} {l : List Int} (hl : IntsAt L ad l) : RelA L (rf ++ [(ad, l.length, cap)]) (ls ++ [l]) := by
 refine ⟨by simp [h.1], fun k v l' h1 h2 => ?_⟩
 by_cases e : k < rf.length
 ·rw [List.getElem?_append_left e] at h1
  rw [List.getElem?_append_left (by rw [← h.1]; exact e)] at h2
  exact h.2 k v l' h1 h2
 ·rw [List.getElem?_append_right (by omega)] at h1
  rw [List.getElem?_append_right (by rw [← h.1]; omega)] at h2
  rw [h.1] at h1
  by_cases e2 : k - ls.length = 0
  ·rw [e2] at h1 h2
   cases h1; cases h2
   exact ⟨ad, cap, rfl, hl⟩
  ·rw [List.getElem?_eq_none (by simp; omega)] at h1; cases h1
theorem calm_calm (L : LH) : L.calm.calm = L.calm := by
 funext b
 unfold LH.calm
 cases h : L b with
 | none => rfl
 | some x => obtain ⟨o, wr⟩ := x; cases o <;> rfl
theorem calm_noloop {L : LH} {b : Nat} {q : Loop} {wr : Bool} : L.calm b ≠ some (.loop q, wr) := by
 unfold LH.calm
 cases h : L b with
 | none => simp
 | some x => obtain ⟨o, wr⟩ := x; cases o <;> simp
theorem Grow.turn {α : Type} {I L L2 : LH} {k : Nat} {e : TypeId} {enc : α → List Value} {v : Value} {l : List α} {x : Nat} {q : Loop} {wr : Bool} (h : Grow I k e enc L v l) (hl : L x = some (.loop q, wr)) (hr : ∀ b, b ≠ x → L2 b = L b) : Grow I.calm k e enc L2 v l := by
 obtain ⟨hI, ob, ho, hn⟩ := h
 refine ⟨fun b y hy => ?_, ob, ho.keep fun b hb => ?_, fun b hb => none_of_le (calm_le _) (hn b hb)⟩
 ·rw [hr b (fun e => by subst e; have := hI _ _ (calm_le _ _ _ hy); rw [hl] at this; cases this; exact calm_noloop hy)]
  exact hI _ _ (calm_le _ _ _ hy)
 ·subst hb
  obtain ⟨_, c, _, h2, _⟩ := ho
  exact hr b (fun e => by subst e; rw [hl] at h2; cases h2)
theorem Grow.rest {α : Type} {I L1 L2 Lx : LH} {k : Nat} {e : TypeId} {enc : α → List Value} {v : Value} {l : List α} (h : Grow I k e enc L1 v l) (hl : ∀ b x, L1 b = some x → (∃ q, x = (.loop q, true)) ∨ L2 b = some x) (hx : Le Lx L2) (hd : ∀ b, Lx b ≠ none → L1 b = none) :
  ∃ I2, Grow I2 k e enc L2 v l ∧ Le I.calm I2 ∧ Le Lx I2 ∧ (∀ b x, L2 b = some x → I2 b = some x ∨ ∃ c, x = (.cells c e (0, 0), true) ∧ I b = none) := by
 obtain ⟨hI, ob, ho, hn⟩ := h
 have hIc : Le I.calm L2 := fun b y hy => by
  rcases hl b y (hI _ _ (calm_le _ _ _ hy)) with ⟨q, rfl⟩ | h
  ·exact absurd hy calm_noloop
  ·exact h
 cases ob with
 | none => exact ⟨L2, ⟨Le.refl _, none, ho, fun b hb => by cases hb⟩, hIc, hx, fun b x hx => .inl hx⟩
 | some b =>
  have hIb := hn b rfl
  obtain ⟨_, c, _, h2, _⟩ := id ho
  have h2' : L2 b = some (.cells c e (0, 0), true) := (hl _ _ h2).resolve_left (fun ⟨q, h⟩ => by cases h)
  refine ⟨L2.less [b], ⟨less_le _ _, some b, ho.keep fun b' hb' => by cases hb'; rw [h2', h2], fun b' hb' => by cases hb'; exact less_none (List.mem_singleton.2 rfl)⟩, le_less hIc (fun b' hb' => by rw [List.mem_singleton.1 hb']; exact none_of_le (calm_le _) hIb),
   le_less hx (fun b' hb' => by
    rw [List.mem_singleton.1 hb']
    cases hh : Lx b with
    | none => rfl
    | some y => have := hd b (by rw [hh]; simp); rw [h2] at this; cases this), fun b' x hx => ?_⟩
  by_cases e' : b' = b
  ·subst e'
   rw [h2'] at hx; cases hx
   exact .inr ⟨c, rfl, hIb⟩
  ·exact .inl (by rw [less_get (by simp [e'])]; exact hx)
theorem Grow.setO {α : Type} {I L : LH} {k : Nat} {e : TypeId} {enc : α → List Value} {v : Value} {l : List α} {b : Nat} (h : Grow I k e enc L v l) (hb : I b ≠ none) (o : Obj) : Grow (I.put b o) k e enc (L.put b o) v l := by
 obtain ⟨hI, ob, ho, hn⟩ := h
 refine ⟨le_put2 hI b o, ob, ho.keep fun b' hb' => put_ne _ _ (fun e => by subst e; exact hb (hn _ hb')), fun b' hb' => ?_⟩
 rw [put_ne _ _ (fun e => by subst e; exact hb (hn _ hb'))]
 exact hn b' hb'
theorem Grow.calm {α : Type} {I L : LH} {k : Nat} {e : TypeId} {enc : α → List Value} {v : Value} {l : List α} (h : Grow I k e enc L v l) : Grow I.calm k e enc L.calm v l := by
 obtain ⟨hI, ob, ho, hn⟩ := h
 exact ⟨calm_mono hI, ob, ho.calm, fun b hb => none_of_le (calm_le _) (hn b hb)⟩
theorem ints_putS {L : LH} {ad : Option Addr} {l : List Int} {b : Nat} {r : Rf} {t : TypeId} {wr : Bool} {o : Obj} (h : IntsAt L ad l) (hb : L b = some (.cells #[slV r] t (0, 0), wr)) : IntsAt (L.put b o) ad l := fun i x hx => by
 obtain ⟨a, g1, g2⟩ := h i x hx
 refine ⟨a, g1, fun j v hv => ?_⟩
 have hc := g2 j v hv
 have hne : (a.add (i * 1 + j)).block ≠ b := fun e => by
  unfold LH.cell? at hc
  rw [e, hb] at hc
  simp only at hc
  split at hc
  ·cases hc
  ·have hj : j = 0 := by
    cases j with
    | zero => rfl
    | succ j => simp [encI] at hv
   subst hj
   cases hv
   cases hof : (a.add (i * 1 + 0)).off with
   | zero => rw [hof] at hc; cases hc
   | succ m => rw [hof] at hc; simp at hc
 unfold LH.cell? at hc ⊢
 rw [put_ne _ _ hne]
 exact hc
theorem RelA.putS {L : LH} {rf : List Rf} {ls : List (List Int)} {b : Nat} {r : Rf} {t : TypeId} {wr : Bool} {o : Obj} (h : RelA L rf ls) (hb : L b = some (.cells #[slV r] t (0, 0), wr)) : RelA (L.put b o) rf ls :=
 ⟨h.1, fun k v l h1 h2 => let ⟨ad, cap, h3, h4⟩ := h.2 k v l h1 h2; ⟨ad, cap, h3, ints_putS h4 hb⟩⟩
def Gath (Lb : LH) (ba : Nat) (pre : List (List Int)) (L : LH) : Prop :=
 ∃ (rf : List Rf) (va : Value) (I : LH), Grow I 1 28 encR L va rf ∧ I ba = some (.cells #[va] 36 (0, 0), true) ∧ RelA I rf pre ∧ (∀ b x, Lb.calm b = some x → I b = some x)
theorem Gath.le {Lb : LH} {ba : Nat} {pre : List (List Int)} {L L' : LH} (h : Gath Lb ba pre L) (hl : Le L L') : Gath Lb ba pre L' :=
 let ⟨rf, va, I, h1, h2, h3, h4⟩ := h; ⟨rf, va, I, h1.le hl, h2, h3, h4⟩
theorem flatMap_le {α β : Type} {f : α → List β} {k : Nat} : ∀ l : List α, (∀ x ∈ l, (f x).length ≤ k) → (l.flatMap f).length ≤ l.length * k
 | [], _ => by simp
 | x :: l, h => by
  rw [List.flatMap_cons, List.length_append, List.length_cons, Nat.succ_mul]
  have h1 := h x (List.mem_cons_self ..)
  have h2 := flatMap_le l fun y hy => h y (List.mem_cons_of_mem _ hy)
  omega
theorem heatsAll_len {top rise : Int} (ht : top ≤ 5) : ∀ (n : Nat) (b : Int), (heatsAll top rise n b).length ≤ 6 ^ n
 | 0, b => by simp [heatsAll]
 | n + 1, b => by
  rw [heatsAll]
  have h1 := flatMap_le (f := fun (h : Nat) => (heatsAll top rise n h).map ((h : Int) :: ·)) (k := 6 ^ n) (List.range (min top (b + rise) + 1).toNat) fun x _ => by
   rw [List.length_map]; exact heatsAll_len ht n x
  rw [List.length_range] at h1
  have h2 : (min top (b + rise) + 1).toNat ≤ 6 := by omega
  have h3 := Nat.mul_le_mul_right (6 ^ n) h2
  rw [Nat.pow_succ, Nat.mul_comm (6 ^ n) 6]
  omega
theorem heats_len {s : St} (h : Ok s) : (heatsS s).length ≤ 1296 := by
 have h1 := heatsAll_len (rise := s.rise) h.t5 s.days.toNat s.now
 have h2 : 6 ^ s.days.toNat ≤ 6 ^ 4 := Nat.pow_le_pow_right (by decide) (by have := h.d4; omega)
 have h3 : 6 ^ 4 = 1296 := by decide
 unfold heatsS
 omega
end Go.Mz

