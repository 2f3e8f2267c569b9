/- Lemmas on which the claim leans. -/
import Derived.Test.YtnhckcgdmolgcaaGreatDoorMzAs
set_option maxRecDepth 100000
namespace Go.Mz
open Go.Conc Go.Proofs
variable {X : Logic Tryz.prog}
theorem firstMin_le' {α : Type} {f : α → Int} : ∀ (l : List α) (b y : α), l.foldl (takeLess f) (some b) = some y → f y ≤ f b ∧ ∀ p ∈ l, f y ≤ f p
 | [], b, y, h => by cases h; exact ⟨Int.le_refl _, fun p hp => by cases hp⟩
 | x :: l, b, y, h => by
  rw [List.foldl_cons] at h
  by_cases e : f x < f b
  ·rw [show takeLess f (some b) x = some x from if_pos e] at h
   obtain ⟨h1, h2⟩ := firstMin_le' l x y h
   refine ⟨by omega, fun p hp => ?_⟩
   rcases List.mem_cons.1 hp with rfl | hp
   ·exact h1
   ·exact h2 p hp
  ·rw [show takeLess f (some b) x = some b from if_neg e] at h
   obtain ⟨h1, h2⟩ := firstMin_le' l b y h
   refine ⟨h1, fun p hp => ?_⟩
   rcases List.mem_cons.1 hp with rfl | hp
   ·omega
   ·exact h2 p hp
theorem firstMin_le {α : Type} {f : α → Int} {l : List α} {y : α} (h : firstMin f l = some y) : ∀ p ∈ l, f y ≤ f p := by
 cases l with
 | nil => intro p hp; cases hp
 | cons x l =>
  obtain ⟨h1, h2⟩ := firstMin_le' l x y h
  intro p hp
  rcases List.mem_cons.1 hp with rfl | hp
  ·exact h1
  ·exact h2 p hp
theorem flat_le {α β : Type} {f : α → List β} {k : Nat} : ∀ {l : List α}, (∀ a, (f a).length ≤ k) → (l.flatMap f).length ≤ l.length * k
 | [], _ => by simp
 | a :: l, h => by
  rw [List.flatMap_cons, List.length_append, List.length_cons, Nat.succ_mul]
  have := flat_le (l := l) h
  have := h a
  omega
theorem grow_count {fit : List Stand → Bool} : ∀ {os : List (List Stand)} {b : List Stand}, (∀ o ∈ os, o.length ≤ 13) → (grow fit os b).length ≤ 13 ^ os.length
 | [], b, _ => by simp [grow]
 | o :: os, b, h => by
  rw [grow, List.length_cons, Nat.pow_succ]
  have h1 : (o.flatMap fun a => if fit (b ++ [a]) then grow fit os (b ++ [a]) else []).length ≤ o.length * 13 ^ os.length := flat_le fun a => by
   split
   ·exact grow_count fun o' h' => h o' (List.mem_cons_of_mem _ h')
   ·simp
  have h2 := Nat.mul_le_mul_right (13 ^ os.length) (h o (List.mem_cons_self ..))
  omega
theorem plans_count {s : St} (h : Ok s) (hs : List Int) (so : Nat → Bool) (each : Bool) : (plansS s hs so each).length ≤ 2197 := by
 have h1 : (plansS s hs so each).length ≤ 13 ^ (optsS s hs so each).length := grow_count fun o ho => by
  unfold optsS at ho
  rw [List.mem_map] at ho
  obtain ⟨y, _, rfl⟩ := ho
  have := stands_len h hs y.1
  unfold optS
  rw [List.length_append]
  split <;> split <;> simp <;> omega
 rw [opts_len] at h1
 have h2 : 13 ^ s.cones.length ≤ 13 ^ 3 := Nat.pow_le_pow_right (by omega) h.c3
 omega
theorem open_nil {s : St} {hs is ds : List Int} (h : openE s hs is ds = 0) : openE s hs [] [] = 0 := by
 unfold openE at h ⊢
 split at h
 ·contradiction
 ·rename_i h1; rw [if_neg h1]; rfl
theorem putP0 {y : List Stand} (h : y.length ≤ 3) : putRow #[.int .i64 0, .int .i64 0, .int .i64 0, .int .i64 0, .int .i64 0, .int .i64 0] 0 (y.flatMap encSt) = (encP y).toArray := by
 match y, h with
 | [], _ => rfl
 | [a], _ => rfl
 | [a, b], _ => rfl
 | [a, b, c], _ => rfl
def inP (i : Nat) (p : List Stand) : Bool := match p[i]? with | some a => decide (0 ≤ a.shelf) | none => false
def VerdE (s : St) (hs : List Int) (i : Int) : Int × Int := if openE s hs [i] [] ≠ 0 then (0, openE s hs [i] []) else (verdictS s hs i.toNat, 0)
def goodP (y p : List Stand) : Bool := cnt p == cnt y
theorem verd_eq {s : St} {hs : List Int} {i : Nat} {y : List Stand} (hy : firstMin negC (plansS s hs (fullC s.cones.length) false) = some y) :
  verdictS s hs i = if (plansS s hs (fullC s.cones.length) false).countP (fun p => goodP y p && inP i p) = 0 then 2 else if (plansS s hs (fullC s.cones.length) false).countP (fun p => goodP y p && inP i p) = (plansS s hs (fullC s.cones.length) false).countP (goodP y) then 1 else 3 := by
 have hym : mostS s hs = y := by
  unfold mostS
  rw [← plans_full]
  change (firstMin negC _).getD [] = _
  rw [hy]; rfl
 have hmem := firstMin_mem hy
 have hv : verdictS s hs i = if ((plansS s hs (fullC s.cones.length) false).filter (goodP y)).all (inP i) then 1 else if ((plansS s hs (fullC s.cones.length) false).filter (goodP y)).any (inP i) then 3 else 2 := by
  unfold verdictS
  rw [hym, ← plans_full]
  rfl
 rw [hv]
 generalize plansS s hs (fullC s.cones.length) false = l at hmem
 have e1 : l.countP (fun p => goodP y p && inP i p) = (l.filter (goodP y)).countP (inP i) := by
  rw [List.countP_filter]
  congr 1
  funext p
  rw [Bool.and_comm]
 have e2 : l.countP (goodP y) = (l.filter (goodP y)).length := List.countP_eq_length_filter
 have hm2 : y ∈ l.filter (goodP y) := List.mem_filter.2 ⟨hmem, by unfold goodP; simp⟩
 rw [e1, e2]
 generalize l.filter (goodP y) = k at hm2
 by_cases ha : k.all (inP i) = true
 ·rw [if_pos ha]
  have h1 : k.countP (inP i) = k.length := List.countP_eq_length.2 (List.all_eq_true.1 ha)
  have h2 : k.length ≠ 0 := fun e => by rw [List.length_eq_zero_iff] at e; rw [e] at hm2; cases hm2
  rw [if_neg (by omega), if_pos h1]
 ·rw [if_neg ha]
  have h1 : k.countP (inP i) ≠ k.length := fun e => ha (List.all_eq_true.2 (List.countP_eq_length.1 e))
  by_cases hb : k.any (inP i) = true
  ·rw [if_pos hb]
   obtain ⟨a, ha1, ha2⟩ := List.any_eq_true.1 hb
   have h2 : 0 < k.countP (inP i) := List.countP_pos_iff.2 ⟨a, ha1, ha2⟩
   rw [if_neg (by omega), if_neg h1]
  ·rw [if_neg hb]
   have h2 : k.countP (inP i) = 0 := by
    rw [List.countP_eq_zero]
    intro a ha3 ha4
    exact hb (List.any_eq_true.2 ⟨a, ha3, ha4⟩)
   rw [if_pos h2]
theorem Verdict_sp (s : St) (p : Pt) (ha : Option Addr) (hc : Nat) (hs : List Int) (i : Int) (L : LH) (h : AskAt L s p ha hs) :
  Sp X 71 [stA s p, .slice ha hs.length hc, .int .i64 i] L (fun v L' => v = .tuple #[.int .i64 (VerdE s hs i).1, .int .i64 (VerdE s hs i).2] ∧ Le L L') := by
 refine Sp.enter (n := 72) Tryz.func71 rfl rfl rfl rfl fun C hX _ hL0 r => ?_
 refine W.go 99 rfl ?_
 refine W.pub 22 (.inr ⟨_, _, _, rfl⟩) rfl rfl ?_
 intro b hb _
 have hl := Le.put hb (.cells #[.int .i64 i] 3)
 have hr := open_sp (X := C.X) s p ha (some ⟨b, 0, none⟩) none hc 1 0 hs [i] [] _ (h.le hl) (ints1 (put_same _ _ _)) ints0 (by simp) (by simp)
 refine W.eff rfl rfl rfl (Ef.call rfl (hr)) ?_
 rintro _ _ _ ⟨_, rfl, rfl, hq⟩
 rcases hq with ⟨h0, rfl, hle⟩ | ⟨h0, u, rfl, z, mr, F, rfl, rfl, rfl, hmv, hLF, hFL, hFm, hsv, hmr⟩
 ·refine W.go 99 rfl ?_
  refine W.split rfl rfl rfl (fun e1 => W.go 99 rfl ?_) (fun e1 => W.go 99 rfl ?_)
  ·refine W.ret r rfl rfl ?_
   unfold VerdE
   rw [if_pos h0]
   exact ⟨rfl, hl.trans hle⟩
  ·simp at e1; exact absurd e1 h0
 ·rename_i L2
  refine W.goP [9] 99 rfl ?_
  refine W.pub 8 (.inl ⟨_, rfl⟩) rfl rfl ?_
  intro b8 hb8 _
  refine W.pub 5 (.inl ⟨_, rfl⟩) rfl rfl ?_
  intro b5 hb5 _
  have h58 : b5 ≠ b8 := fun e => by subst e; rw [put_same] at hb5; cases hb5
  obtain ⟨hok, hhk, hin, _⟩ := open_ok h0
  have hii := hin i (List.mem_cons_self ..)
  have hc3 := hok.c3
  obtain ⟨i, rfl⟩ : ∃ i' : Nat, i = i' := Int.eq_ofNat_of_zero_le (by unfold inB at hii; simp at hii; omega)
  have hi0 : i < z.s.cones.length := by unfold inB at hii; simp at hii; omega
  refine W.go 99 rfl ?_
  refine W.split rfl rfl rfl (fun c => absurd c (by decide)) (fun c => ?_)
  refine W.go 99 rfl ?_
  have hl23 : Le L2 ((L2.put b8 (.cells #[pt z.b] 101)).put b5 (.cells #[.int .i64 (i : Int)] 3)) := (Le.put hb8 _).trans (Le.put hb5 _)
  have g8 : ((L2.put b8 (.cells #[pt z.b] 101)).put b5 (.cells #[.int .i64 (i : Int)] 3)) b8 = some (.cells #[pt z.b] 101, true) := (put_ne _ _ h58.symm).trans (put_same _ _ _)
  have g5 : ((L2.put b8 (.cells #[pt z.b] 101)).put b5 (.cells #[.int .i64 (i : Int)] 3)) b5 = some (.cells #[.int .i64 (i : Int)] 3, true) := put_same _ _ _
  generalize hL3 : (L2.put b8 (.cells #[pt z.b] 101)).put b5 (.cells #[.int .i64 (i : Int)] 3) = L3 at hl23 g8 g5
  clear hL3
  have hLL3 : Le L L3 := hl.trans (hLF.trans (hFL.trans hl23))
  have hmo := Most_sp (X := C.X) z.s p ha hc z.hs L3 (h.le hLL3)
  have hmE : MostE z.s z.hs = (mostS z.s z.hs, cnt (mostS z.s z.hs), 0) := by unfold MostE; rw [if_neg (by rw [open_nil h0]; simp)]
  rw [hmE] at hmo
  simp only at hmo
  refine W.eff rfl rfl rfl (Ef.call rfl (hmo)) ?_
  rintro _ _ _ ⟨_, rfl, rfl, um, rfl, am, cm, rfl, hl34, hsm, hcm⟩
  rename_i L4
  obtain ⟨y, hy⟩ := firstMin_some (f := negC) (plans_ne hok z.hs (fullC z.s.cones.length))
  have hym : mostS z.s z.hs = y := by
   unfold mostS
   rw [← plans_full]
   change (firstMin negC _).getD [] = _
   rw [hy]; rfl
  rw [hym] at hsm hcm ⊢
  have hyl : y.length = z.s.cones.length := plan_len (firstMin_mem hy)
  have hcy := cnt_le y
  refine W.goP [36] 99 rfl ?_
  refine W.pub 13 (.inl ⟨_, rfl⟩) rfl rfl ?_
  intro b13 hb13 _
  refine W.go 99 rfl ?_
  refine W.vf rfl rfl rfl rfl (Vf.sliceW rfl Tryz.underlying122 size30 (by decide)) ?_
  refine W.go 99 rfl ?_
  refine W.eff rfl rfl rfl (Ef.copy rfl rfl rfl rfl (.sl (hsm.le (Le.put hb13 _)) encSt_len rfl) (by omega) (c := #[.int .i64 0, .int .i64 0, .int .i64 0, .int .i64 0, .int .i64 0, .int .i64 0]) (put_same _ _ _) (by rw [flat_len encSt_len]; show y.length * 2 ≤ 6; omega) (fun u hu => let ⟨a, _, h2⟩ := List.mem_flatMap.1 hu; encSt_sg a u h2)) ?_
  rintro _ _ _ ⟨rfl, rfl, rfl⟩
  refine W.go 99 rfl ?_
  rw [putP0 (by omega)]
  have hl45 : Le L4 ((L4.put b13 (.cells #[.int .i64 0, .int .i64 0, .int .i64 0, .int .i64 0, .int .i64 0, .int .i64 0] 122)).put b13 (.cells (encP y).toArray 122)) := le_put_none (le_put_none (Le.refl _) hb13 _) hb13 _
  have g13 : ((L4.put b13 (.cells #[.int .i64 0, .int .i64 0, .int .i64 0, .int .i64 0, .int .i64 0, .int .i64 0] 122)).put b13 (.cells (encP y).toArray 122)) b13 = some (.cells (encP y).toArray 122, true) := put_same _ _ _
  generalize hL5 : (L4.put b13 (.cells #[.int .i64 0, .int .i64 0, .int .i64 0, .int .i64 0, .int .i64 0, .int .i64 0] 122)).put b13 (.cells (encP y).toArray 122) = L5 at hl45 g13
  clear hL5
  have hl25 : Le L2 L5 := hl23.trans (hl34.trans hl45)
  have g85 := hl45 _ _ (hl34 _ _ g8)
  have g55 := hl45 _ _ (hl34 _ _ g5)
  have hmr5 := hl25 _ _ hmr
  refine W.vf rfl rfl rfl rfl (Vf.load rfl rfl rfl (cell_of g85 rfl)) ?_
  refine W.go 99 rfl ?_
  refine W.vf rfl rfl rfl rfl (Vf.loadN rfl rfl rfl (cellsAt_n g13 (encP_len (by omega)))) ?_
  refine W.go 99 rfl ?_
  refine W.weak (E' := [(5, .v (pt b5)), (8, .v (pt b8)), (13, .v (pt b13)), (39, .v (pt z.b)), (40, .v (.agg (encP y).toArray))]) (B' := []) (by exact ⟨rfl, rfl, rfl, rfl, rfl, trivial⟩) trivial ?_
  have hcn := cones_sp (X := C.X) z y mr #[] 0 L5 (hsv.le (hFL.trans hl25)) hyl hmv hmr5 (fun e he => by simp at he)
  refine W.eff rfl rfl rfl (Ef.call rfl (hcn)) ?_
  rintro _ _ _ ⟨_, rfl, rfl, rfl, hk6, es6, clk6, hmr6, hmo6⟩
  refine W.go 99 rfl ?_
  rename_i L6
  refine W.pub 14 (.inl ⟨_, rfl⟩) rfl rfl ?_
  intro b14 hb14 _
  refine W.pub 15 (.inl ⟨_, rfl⟩) rfl rfl ?_
  intro b15 hb15 _
  refine W.pub 16 (.inl ⟨_, rfl⟩) rfl rfl ?_
  intro b16 hb16 _
  have hL6 : ∀ b, L6 b = none → b ≠ b5 ∧ b ≠ b8 ∧ b ≠ b13 ∧ b ≠ mr := fun b hb => by
   have n5 : b5 ≠ mr := fun e => by rw [e, hmr5] at g55; cases g55
   have n8 : b8 ≠ mr := fun e => by rw [e, hmr5] at g85; cases g85
   have n13 : b13 ≠ mr := fun e => by rw [e, hmr5] at g13; cases g13
   refine ⟨fun e => ?_, fun e => ?_, fun e => ?_, fun e => ?_⟩
   ·subst e; rw [hk6 _ _ n5 g55] at hb; cases hb
   ·subst e; rw [hk6 _ _ n8 g85] at hb; cases hb
   ·subst e; rw [hk6 _ _ n13 g13] at hb; cases hb
   ·subst e; rw [hmr6] at hb; cases hb
  have n5m : b5 ≠ mr := fun e => by rw [e, hmr5] at g55; cases g55
  have n8m : b8 ≠ mr := fun e => by rw [e, hmr5] at g85; cases g85
  have n13m : b13 ≠ mr := fun e => by rw [e, hmr5] at g13; cases g13
  have n1514 : b15 ≠ b14 := fun e => by subst e; rw [put_same] at hb15; cases hb15
  have n1615 : b16 ≠ b15 := fun e => by subst e; rw [put_same] at hb16; cases hb16
  have n1614 : b16 ≠ b14 := fun e => by subst e; rw [put_ne _ _ n1514.symm, put_same] at hb16; cases hb16
  have h15L : L6 b15 = none := by rw [put_ne _ _ n1514] at hb15; exact hb15
  have h16L : L6 b16 = none := by rw [put_ne _ _ n1615, put_ne _ _ n1614] at hb16; exact hb16
  obtain ⟨p1, p2, p3, p4⟩ := hL6 b14 hb14
  obtain ⟨q1, q2, q3, q4⟩ := hL6 b15 h15L
  obtain ⟨s1, s2, s3, s4⟩ := hL6 b16 h16L
  have hl67 : Le L6 (((L6.put b14 (.cells #[.int .i64 (cnt y)] 3)).put b15 (.cells #[.int .i64 0] 3)).put b16 (.cells #[.int .i64 0] 3)) := (Le.put hb14 _).trans ((Le.put hb15 _).trans (Le.put hb16 _))
  have g14 : (((L6.put b14 (.cells #[.int .i64 (cnt y)] 3)).put b15 (.cells #[.int .i64 0] 3)).put b16 (.cells #[.int .i64 0] 3)) b14 = some (.cells #[.int .i64 (cnt y)] 3, true) := (put_ne _ _ n1614.symm).trans ((put_ne _ _ n1514.symm).trans (put_same _ _ _))
  have g15 : (((L6.put b14 (.cells #[.int .i64 (cnt y)] 3)).put b15 (.cells #[.int .i64 0] 3)).put b16 (.cells #[.int .i64 0] 3)) b15 = some (.cells #[.int .i64 0] 3, true) := (put_ne _ _ n1615.symm).trans (put_same _ _ _)
  have g16 : (((L6.put b14 (.cells #[.int .i64 (cnt y)] 3)).put b15 (.cells #[.int .i64 0] 3)).put b16 (.cells #[.int .i64 0] 3)) b16 = some (.cells #[.int .i64 0] 3, true) := put_same _ _ _
  refine W.weak (E' := [(5, .v (pt b5)), (8, .v (pt b8)), (13, .v (pt b13)), (14, .v (pt b14)), (15, .v (pt b15)), (16, .v (pt b16))]) (B' := []) (by exact ⟨rfl, rfl, rfl, rfl, rfl, rfl, trivial⟩) trivial ?_
  change W C _ _ _ _ _ (((L6.put b14 (.cells #[.int .i64 (cnt y)] 3)).put b15 (.cells #[.int .i64 0] 3)).put b16 (.cells #[.int .i64 0] 3))
  generalize ((L6.put b14 (.cells #[.int .i64 (cnt y)] 3)).put b15 (.cells #[.int .i64 0] 3)).put b16 (.cells #[.int .i64 0] 3) = L7 at hl67 g14 g15 g16 ⊢
  have hF6 : Le F L6 := fun b o ho => hk6 b o (fun e => by subst e; rw [hFm] at ho; cases ho) (hl25 _ _ (hFL _ _ ho))
  have g57 := hl67 _ _ (hk6 _ _ n5m g55)
  have g87 := hl67 _ _ (hk6 _ _ n8m g85)
  have g137 := hl67 _ _ (hk6 _ _ n13m g13)
  have hmr7 := hl67 _ _ hmr6
  have hF7 := hF6.trans hl67
  clear hcn hmo hr
  refine W.drawn (by kernel_rfl) _ (Le.refl _) ?_
  refine DD.vf 0 rfl rfl rfl rfl rfl (Vf.load rfl rfl rfl (cell_of g87 rfl)) ?_
  refine DD.vf 1 rfl rfl rfl rfl rfl (Vf.load rfl rfl rfl (cell_of g87 rfl)) ?_
  refine DD.act 2 rfl rfl rfl rfl rfl (Ef.call rfl (full_sp z L7 (hsv.le hF7))) (by rintro _ _ _ ⟨_, rfl, rfl, rfl, rfl⟩; exact ⟨Le.refl _, rfl, .inl rfl⟩) ?_
  rintro _ _ _ ⟨_, rfl, rfl, rfl, rfl⟩
  refine DD.act 3 rfl rfl rfl rfl rfl (Ef.call rfl (plans_sp z.b (fullC z.s.cones.length) false L7)) ((by rintro _ _ _ ⟨_, _, rfl, _, _, _, _, hl, _⟩; exact ⟨hl, rfl, .inl rfl⟩)) ?_
  rintro _ _ _ ⟨_, rfl, rfl, bs, be, bo, rfl, hl78, k1, k2, k3⟩
  refine .fin rfl ?_
  refine W.go 99 rfl ?_
  rename_i L8
  have hF8 := hF7.trans hl78
  have g58 := hl78 _ _ g57
  have g88 := hl78 _ _ g87
  have g138 := hl78 _ _ g137
  have g148 := hl78 _ _ g14
  have g158 := hl78 _ _ g15
  have g168 := hl78 _ _ g16
  have hmr8 := hl78 _ _ hmr7
  have hFb : Le F (L8.less [mr, b15, b16]) := le_less hF8 (by simp [hFm, none_of_le hF6 h15L, none_of_le hF6 h16L])
  have hnb : ∀ (b : Nat) (v : Value), L8.cell? ⟨b, 0, none⟩ = some v → v ≠ .int .i64 0 → (L8.less [mr, b15, b16]).cell? ⟨b, 0, none⟩ = some v := fun b v hb hv => less_cell hb (by
   simp only [List.mem_cons, List.not_mem_nil, or_false, not_or]
   refine ⟨fun e => ?_, fun e => ?_, fun e => ?_⟩
   ·subst e; unfold LH.cell? at hb; rw [hmr8] at hb; cases hb
   ·subst e; rw [cell_of g158 (v := .int .i64 0) rfl] at hb; exact hv (Option.some.inj hb).symm
   ·subst e; rw [cell_of g168 (v := .int .i64 0) rfl] at hb; exact hv (Option.some.inj hb).symm)
  have gb5 : (L8.less [mr, b15, b16]) b5 = some (.cells #[.int .i64 (i : Int)] 3, true) := by rw [less_get (by simp [n5m, q1.symm, s1.symm])]; exact g58
  have gb8 : (L8.less [mr, b15, b16]) b8 = some (.cells #[pt z.b] 101, true) := by rw [less_get (by simp [n8m, q2.symm, s2.symm])]; exact g88
  have gb13 : (L8.less [mr, b15, b16]) b13 = some (.cells (encP y).toArray 122, true) := by rw [less_get (by simp [n13m, q3.symm, s3.symm])]; exact g138
  have gb14 : (L8.less [mr, b15, b16]) b14 = some (.cells #[.int .i64 (cnt y)] 3, true) := by rw [less_get (by simp [p4, n1514.symm, n1614.symm])]; exact g148
  refine W.iter (L8.less [mr, b15, b16]) (less_le _ _) (fun pre L' => ∃ es clk, L' mr = some (.map es clk, true) ∧ MemoOk z.s.cones.length es ∧ L' b15 = some (.cells #[.int .i64 ((pre.countP (goodP y) : Nat) : Int)] 3, true) ∧ L' b16 = some (.cells #[.int .i64 ((pre.countP (fun p => goodP y p && inP i p) : Nat) : Int)] 3, true)) (fun j L' => False)
   (plans1_it z bs be bo false (fullC z.s.cones.length)) ⟨_, rfl, rfl, rfl⟩ (by rw [r.ro]) [(45, .v (.func (.func 132) #[] #[pt bs, pt be, pt bo])), (5, .v (pt b5)), (8, .v (pt b8)), (13, .v (pt b13)), (14, .v (pt b14)), (15, .v (pt b15)), (16, .v (pt b16))] (by exact ⟨rfl, rfl, rfl, rfl, rfl, rfl, rfl, trivial⟩) rfl rfl rfl
   ?_ (fun _ _ _ _ h => h) ?_ ?_ rfl (fun _ => rfl) ?_ ?_ ?_
  ·rintro pre L1 L2 hl ⟨es, clk, w1, w2, w3, w4⟩
   exact ⟨es, clk, hl _ _ w1, w2, hl _ _ w3, hl _ _ w4⟩
  ·rintro pre L' hl -
   exact ⟨hl.cell (hnb _ _ k1 (by simp)), hl.cell (hnb _ _ k2 (by simp)), hl.cell (hnb _ _ k3 (by simp)), hsv.le (hFb.trans hl)⟩
  ·exact ⟨es6, clk6, calm_map hmr8, hmo6, calm_cells g158, calm_cells g168⟩
  ·rintro d l pre x post L' q lb hx hl' ⟨es, clk, w1, w2, w3, w4⟩ hnl hnd hned u1 u2 C' c1 c2 hbeg hcont -
   have hxm : x ∈ plansS z.s z.hs (fullC z.s.cones.length) false := by rw [hx]; simp
   have hxl : x.length = z.s.cones.length := plan_len hxm
   have hyx : cnt x ≤ cnt y := by have := firstMin_le hy x hxm; unfold negC at this; omega
   have hcx := cnt_le x
   have hpre : pre.length ≤ 2197 := by
    have := plans_count hok z.hs (fullC z.s.cones.length) false
    rw [hx, List.length_append] at this
    omega
   have hcp := List.countP_le_length (p := goodP y) (l := pre)
   have hcp2 := List.countP_le_length (p := fun p => goodP y p && inP i p) (l := pre)
   obtain ⟨x0, x1, x2, x3, x4, x5, ex⟩ := enc6 (l := x) (by omega)
   have exA : #[Value.int .i64 x0, .int .i64 x1, .int .i64 x2, .int .i64 x3, .int .i64 x4, .int .i64 x5] = (encP x).toArray := by rw [ex]
   simp only [encPl]
   rw [ex]
   refine W.go 99 rfl ?_
   refine hbeg _ _ _ fun L9 r1 r0 => ?_
   refine W.pub 17 (.inl ⟨_, rfl⟩) rfl rfl ?_
   intro b17 hb17 _
   have nml : mr ≠ l := fun e => by rw [e, u1] at w1; cases w1
   have n15l : b15 ≠ l := fun e => by rw [e, u1] at w3; cases w3
   have n16l : b16 ≠ l := fun e => by rw [e, u1] at w4; cases w4
   have nmd : mr ≠ d := fun e => by rw [e, u2] at w1; cases w1
   have n15d : b15 ≠ d := fun e => by rw [e, u2] at w3; cases w3
   have n16d : b16 ≠ d := fun e => by rw [e, u2] at w4; cases w4
   have hl9 : Le (L8.less [mr, b15, b16]) L9 := fun b o ho => (r0 _ (fun e => by subst e; rw [hnl] at ho; cases ho)).trans (hl' _ _ ho)
   have hl910 := Le.put hb17 (.cells (encP x).toArray 122)
   have g17 := put_same L9 b17 (.cells (encP x).toArray 122)
   rw [exA]
   change W C' _ _ _ _ _ (L9.put b17 (.cells (encP x).toArray 122))
   generalize L9.put b17 (.cells (encP x).toArray 122) = L10 at hl910 g17 ⊢
   have hl10 := hl9.trans hl910
   have v1 := hl910 _ _ ((r0 _ nml).trans w1)
   have v3 := hl910 _ _ ((r0 _ n15l).trans w3)
   have v4 := hl910 _ _ ((r0 _ n16l).trans w4)
   have r10 := hl910 _ _ r1
   have r20 := hl910 _ _ ((r0 _ hned.symm).trans u2)
   have n17 : b17 ≠ mr ∧ b17 ≠ b15 ∧ b17 ≠ b16 := ⟨(fun e => by rw [e, v1] at g17; cases g17), (fun e => by rw [e, (r0 _ n15l).trans w3] at hb17; cases hb17), (fun e => by rw [e, (r0 _ n16l).trans w4] at hb17; cases hb17)⟩
   have hv10 := hsv.le (hFb.trans hl10)
   have f17 : (L10.less [mr, b15, b16]) b17 = some (.cells (encP x).toArray 122, true) := by rw [less_get (by simp [n17.1, n17.2.1, n17.2.2])]; exact g17
   have fb : Le (L8.less [mr, b15, b16]) (L10.less [mr, b15, b16]) := le_less hl10 (fun b hb => less_none hb)
   refine W.go 99 rfl ?_
   refine W.weak (E' := [(5, .v (pt b5)), (8, .v (pt b8)), (13, .v (pt b13)), (14, .v (pt b14)), (15, .v (pt b15)), (16, .v (pt b16)), (17, .v (pt b17))]) (B' := []) (by exact ⟨rfl, rfl, rfl, rfl, rfl, rfl, rfl, trivial⟩) trivial ?_
   refine W.cut2 (fun E B L11 => ∃ es' clk', L11 mr = some (.map es' clk', true) ∧ MemoOk z.s.cones.length es' ∧ (∀ b o, b ≠ mr → L10 b = some o → L11 b = some o) ∧ goodP y x = true ∧ SubE E [(5, .v (pt b5)), (15, .v (pt b15)), (16, .v (pt b16)), (17, .v (pt b17))]) ?_ ?_
   ·rintro E B L11 ⟨es', clk', m11, mo11, hk11, hgood, hE⟩
    refine W.weak (B' := []) hE (by cases B <;> exact trivial) ?_
    have x3 := hk11 _ _ q4 v3
    have x4 := hk11 _ _ s4 v4
    have x17 := hk11 _ _ n17.1 g17
    have x5 := hk11 _ _ n5m (hl10 _ _ gb5)
    have h1v : IntKind.i64.wrap (((pre.countP (goodP y) : Nat) : Int) + 1) = ((pre.countP (goodP y) + 1 : Nat) : Int) := by rw [wrap64_in _ (by omega) (by omega)]; rfl
    have h2v : IntKind.i64.wrap (((pre.countP (fun p => goodP y p && inP i p) : Nat) : Int) + 1) = ((pre.countP (fun p => goodP y p && inP i p) + 1 : Nat) : Int) := by rw [wrap64_in _ (by omega) (by omega)]; rfl
    have hc1 : (pre ++ [x]).countP (goodP y) = pre.countP (goodP y) + 1 := by rw [List.countP_append, List.countP_singleton, if_pos hgood]
    refine W.go 99 rfl ?_
    refine W.vf rfl rfl rfl rfl (Vf.load rfl rfl rfl (cell_of x3 rfl)) ?_
    refine W.go 99 rfl ?_
    rw [h1v]
    refine W.eff0 rfl rfl (Ef.stoF rfl ⟨_, rfl, rfl⟩ rfl x3 rfl (Nat.le_refl _) (singles rfl)) ?_
    rintro _ _ _ ⟨rfl, rfl, rfl⟩
    refine W.go 99 rfl ?_
    have hl11 : Le (L8.less [mr, b15, b16]) L11 := fun b o ho => hk11 _ _ (fun e => by subst e; rw [less_none (by simp)] at ho; cases ho) (hl10 _ _ ho)
    refine W.vf rfl rfl rfl rfl (Vf.load rfl rfl rfl (cell_of ((put_ne _ _ q1.symm).trans x5) rfl)) ?_
    refine W.go 99 rfl ?_
    have hix : i < x.length := by omega
    refine W.vf rfl rfl rfl rfl (Vf.idxF rfl rfl rfl rfl rfl rfl (show i < 3 by omega)) ?_
    refine W.go 99 rfl ?_
    have hsp : (L11.put b15 (.cells #[.int .i64 ((pre.countP (goodP y) + 1 : Nat) : Int)] 3)).cell? (((Addr.add ⟨b17, 0, none⟩ (i * 2))).add 0) = some (.int .i64 x[i].shelf) := by
     have := (slP ((put_ne L11 (.cells #[.int .i64 ((pre.countP (goodP y) + 1 : Nat) : Int)] 3) n17.2.1).trans x17)).get (List.getElem?_eq_getElem hix) (j := 0) (v := .int .i64 x[i].shelf) rfl
     exact this
    refine W.vf rfl rfl rfl rfl (Vf.load rfl rfl rfl (hsp)) ?_
    refine W.go 99 rfl ?_
    have hin : inP i x = decide (0 ≤ x[i].shelf) := by unfold inP; rw [List.getElem?_eq_getElem hix]
    refine W.split rfl rfl rfl (fun e2 => W.go 99 rfl ?_) (fun e2 => W.go 99 rfl ?_)
    ·have hgi : (goodP y x && inP i x) = true := by rw [hgood, hin]; exact e2
     have hc2 : (pre ++ [x]).countP (fun p => goodP y p && inP i p) = pre.countP (fun p => goodP y p && inP i p) + 1 := by rw [List.countP_append, List.countP_singleton, if_pos hgi]
     refine W.vf rfl rfl rfl rfl (Vf.load rfl rfl rfl (cell_of ((put_ne _ _ n1615).trans x4) rfl)) ?_
     refine W.go 99 rfl ?_
     rw [h2v]
     refine W.eff0 rfl rfl (Ef.stoF rfl ⟨_, rfl, rfl⟩ rfl ((put_ne _ _ n1615).trans x4) rfl (Nat.le_refl _) (singles rfl)) ?_
     rintro _ _ _ ⟨rfl, rfl, rfl⟩
     refine W.go 99 rfl ?_
     refine hcont _ _ _ _ .nil ((put_ne _ _ n16l.symm).trans ((put_ne _ _ n15l.symm).trans (hk11 _ _ nml.symm r10))) ((put_ne _ _ n16d.symm).trans ((put_ne _ _ n15d.symm).trans (hk11 _ _ nmd.symm r20)))
      (le_put_none (le_put_none hl11 (less_none (by simp)) _) (less_none (by simp)) _) ⟨es', clk', calm_map ((put_ne _ _ s4.symm).trans ((put_ne _ _ q4.symm).trans m11)), mo11, calm_cells ((put_ne _ _ n1615.symm).trans ((put_same _ _ _).trans ?_)), calm_cells ((put_same _ _ _).trans ?_)⟩
     ·rw [hc1]; rfl
     ·rw [hc2]; rfl
    ·have hgi : (goodP y x && inP i x) = false := by rw [hgood, hin]; exact e2
     have hc2 : (pre ++ [x]).countP (fun p => goodP y p && inP i p) = pre.countP (fun p => goodP y p && inP i p) := by rw [List.countP_append, List.countP_singleton, if_neg (by rw [hgi]; simp), Nat.add_zero]
     refine hcont _ _ _ _ .nil ((put_ne _ _ n15l.symm).trans (hk11 _ _ nml.symm r10)) ((put_ne _ _ n15d.symm).trans (hk11 _ _ nmd.symm r20))
      (le_put_none hl11 (less_none (by simp)) _) ⟨es', clk', calm_map ((put_ne _ _ q4.symm).trans m11), mo11, calm_cells ((put_same _ _ _).trans ?_), calm_cells ((put_ne _ _ n1615).trans (by rw [hc2]; exact x4))⟩
     rw [hc1]; rfl
   ·intro rest
    refine W.drawn (by kernel_rfl) (L10.less [mr, b15, b16]) (less_le _ _) ?_
    refine DD.vf 0 rfl rfl rfl rfl rfl (Vf.loadN rfl rfl rfl (cellsAt_n f17 (encP_len (by omega)))) ?_
    refine DD.vf 1 rfl rfl rfl rfl rfl (Vf.loadN rfl rfl rfl (cellsAt_n (fb _ _ gb13) (encP_len (by omega)))) ?_
    refine DD.vf 2 rfl rfl rfl rfl rfl (Vf.eqS (.inr rfl) rfl (congrArg some (encP_ints x)) rfl (congrArg some (encP_ints y)) (by kernel_rfl) (fun n Q H R => eqP (by omega) (by omega) n Q H R)) ?_
    refine DD.run' [3] rfl ?_
    refine DD.split 50 rfl (fun e1 => ?_) (fun e1 => ?_)
    ·have hne : x ≠ y := by simpa [eqC] using e1
     have hcn := cones_sp (X := C'.X) z x mr es clk L10 hv10 hxl hmv v1 w2
     refine DD.vf 4 rfl rfl rfl rfl rfl (Vf.load rfl rfl rfl (cell_of (fb _ _ gb8) rfl)) ?_
     refine DD.vf 5 rfl rfl rfl rfl rfl (Vf.loadN rfl rfl rfl (cellsAt_n f17 (encP_len (by omega)))) ?_
     refine DD.vf 7 rfl rfl rfl rfl rfl (Vf.load rfl rfl rfl (cell_of (fb _ _ gb14) rfl)) ?_
     refine DD.act 6 rfl rfl rfl rfl rfl (Ef.call rfl hcn) ((by rintro _ _ _ ⟨_, _, rfl, rfl, hk, _⟩; exact ⟨fun b o ho => hk b o (fun e => by subst e; rw [less_none (by simp)] at ho; cases ho) (less_le _ _ _ _ ho), rfl, .inl rfl⟩)) ?_
     rintro _ _ _ ⟨_, rfl, rfl, rfl, hk11, es', clk', m11, mo11⟩
     refine DD.run' [8, 9] rfl ?_
     refine .fin rfl ?_
     refine W.go 99 rfl ?_
     rename_i L11
     refine W.split rfl rfl rfl (fun e3 => ?_) (fun e3 => ?_)
     ·refine W.go 99 rfl ?_
      have hbad : goodP y x = false := by unfold goodP; simp at e3 ⊢; omega
      have hc1 : (pre ++ [x]).countP (goodP y) = pre.countP (goodP y) := by rw [List.countP_append, List.countP_singleton, if_neg (by rw [hbad]; simp), Nat.add_zero]
      have hc2 : (pre ++ [x]).countP (fun p => goodP y p && inP i p) = pre.countP (fun p => goodP y p && inP i p) := by rw [List.countP_append, List.countP_singleton, if_neg (by rw [hbad]; simp), Nat.add_zero]
      exact hcont _ _ _ _ .nil (hk11 _ _ nml.symm r10) (hk11 _ _ nmd.symm r20) (fun b o ho => hk11 _ _ (fun e => by subst e; rw [less_none (by simp)] at ho; cases ho) (hl10 _ _ ho))
       ⟨es', clk', calm_map m11, mo11, calm_cells (by rw [hc1]; exact hk11 _ _ q4 v3), calm_cells (by rw [hc2]; exact hk11 _ _ s4 v4)⟩
     ·refine W.go 2 rfl ?_
      have hgood : goodP y x = true := by unfold goodP; simp at e3 ⊢; omega
      exact rest _ _ _ ⟨es', clk', m11, mo11, hk11, hgood, ⟨rfl, rfl, rfl, rfl, trivial⟩⟩
    ·have hxy : x = y := by simpa [eqC] using e1
     refine DD.run' [4, 5, 6, 7, 8, 9] rfl ?_
     refine .fin rfl ?_
     refine W.go 2 rfl ?_
     have hgood : goodP y x = true := by rw [hxy]; unfold goodP; simp
     exact rest _ _ _ ⟨es, clk, v1, w2, (fun b o _ h => h), hgood, ⟨rfl, rfl, rfl, rfl, trivial⟩⟩
  ·rintro d l L' hl' hnl hnd ⟨es, clk, w1, w2, w3, w4⟩ hd
   have hLL := hLF.trans (hFb.trans hl')
   have hLL2 := hl.trans hLL
   have hdL : L d = none := none_of_le (hl.trans (hLF.trans hFb)) hnd
   have hcpl := List.countP_le_length (p := goodP y) (l := plansS z.s z.hs (fullC z.s.cones.length) false)
   have hver := verd_eq (i := i) hy
   have hVE : VerdE z.s z.hs i = (verdictS z.s z.hs i, 0) := by unfold VerdE; rw [if_neg (by rw [h0]; simp), Int.toNat_natCast]
   generalize (plansS z.s z.hs (fullC z.s.cones.length) false).countP (goodP y) = N at w3 hver hcpl
   generalize (plansS z.s z.hs (fullC z.s.cones.length) false).countP (fun p => goodP y p && inP i p) = M at w4 hver
   refine W.go 99 rfl ?_
   refine W.vf rfl rfl rfl rfl (Vf.load rfl rfl rfl (cell_of w4 rfl)) ?_
   refine W.go 99 rfl ?_
   refine W.split rfl rfl rfl (fun e2 => W.go 99 rfl ?_) (fun e2 => W.go 99 rfl ?_)
   ·refine W.out (by rw [r.ro]) (.inr .ret) (WM.collected rfl hd (WM.ret r rfl rfl ⟨?_, le_put_none hLL2 hdL _⟩))
    rw [hVE, hver, if_pos (by simpa using e2)]; rfl
   ·refine W.vf rfl rfl rfl rfl (Vf.load rfl rfl rfl (cell_of w3 rfl)) ?_
    refine W.go 99 rfl ?_
    refine W.split rfl rfl rfl (fun e3 => W.go 99 rfl ?_) (fun e3 => W.go 99 rfl ?_)
    ·refine W.out (by rw [r.ro]) (.inr .ret) (WM.collected rfl hd (WM.ret r rfl rfl ⟨?_, le_put_none hLL2 hdL _⟩))
     rw [hVE, hver, if_neg (by simpa using e2), if_pos (by simp at e3; omega)]; rfl
    ·refine W.out (by rw [r.ro]) (.inr .ret) (WM.collected rfl hd (WM.ret r rfl rfl ⟨?_, le_put_none hLL2 hdL _⟩))
     rw [hVE, hver, if_neg (by simpa using e2), if_neg (by simp at e3; omega)]; rfl
  ·rintro d l j L' - - - hF -
   exact hF.elim
end Go.Mz


namespace Go.Mz
open Go.Conc
theorem join_le_left {L G : LH} : Le L (L.join G) := fun b x hx => by unfold LH.join; rw [hx]
theorem join_le {L G R : LH} (h1 : Le L R) (h2 : Le G R) : Le (L.join G) R := fun b x hx => by
 unfold LH.join at hx
 cases hl : L b with
 | some y => rw [hl] at hx; cases hx; exact h1 b _ hl
 | none => rw [hl] at hx; exact h2 b x hx
theorem join_le_right {L G R : LH} (h1 : Le L R) (h2 : Le G R) : Le G (L.join G) := fun b x hx => by
 unfold LH.join
 cases hl : L b with
 | some y => have := h1 b y hl; rw [h2 b x hx] at this; cases this; rfl
 | none => exact hx
theorem join_none {L G : LH} {b : Nat} (h1 : L b = none) (h2 : G b = none) : L.join G b = none := by unfold LH.join; rw [h1]; exact h2
section
variable {P : Program} {α : Type}
structure YlR (X : Logic P) (yv : Value) (Rel : α → List Value → LH → Prop) (xs : List α) (K : LH → Prop) (J : List α → LH → Prop) (Z : LH → Prop) : Prop where
 fn : ∃ a b c, yv = .func a b c
 mJ : ∀ pre L L', Le L L' → J pre L → J pre L'
 mZ : ∀ L L', Le L L' → Z L → Z L'
 mR : ∀ x vs L L', Le L L' → Rel x vs L → Rel x vs L'
 inv : ∀ pre L, J pre L → K L
 yl : ∀ pre x post vs L L1 Lx, xs = pre ++ x :: post → J pre L1 → Le L1 L → Rel x vs Lx → Le Lx L → (∀ b, Lx b ≠ none → L1 b = none) → SpV X yv vs L (fun v L' => (v = .bool true ∧ J (pre ++ [x]) L') ∨ (v = .bool false ∧ Z L'))
variable {X : Logic P} {yv : Value} {Rel : α → List Value → LH → Prop} {xs : List α} {K : LH → Prop} {J : List α → LH → Prop} {Z : LH → Prop} {F L L2 : LH} {pre : List α}
theorem YlR.call (h : YlR X yv Rel xs K J Z) {x : α} {post : List α} {vs : List Value} {Lx : LH} (hx : xs = pre ++ x :: post) (hj : Fra J (F.join Lx) pre L) (hr : Rel x vs Lx) (hl : Le Lx L) (hF : ∀ b, F b ≠ none → Lx b = none) :
  SpV X yv vs L (fun v L' => (v = .bool true ∧ Fra J F (pre ++ [x]) L') ∨ (v = .bool false ∧ FraZ Z F L')) := by
 obtain ⟨L1, h1, h2, h3, h4⟩ := hj
 have h3 : Le F L := join_le_left.trans h3
 have h5 : ∀ b, Lx b ≠ none → L1 b = none := fun b hb => h4 b (by
  unfold LH.join
  cases hf : F b with
  | some y => simp
  | none => exact hb)
 have h4 : ∀ b, F b ≠ none → L1 b = none := fun b hb => h4 b (by
  unfold LH.join
  cases hf : F b with
  | some y => simp
  | none => exact absurd hf hb)
 have hjl : Le (L1.join Lx) L := join_le h2 hl
 refine ((h.yl pre x post vs (L1.join Lx) L1 Lx hx h1 join_le_left hr (join_le_right h2 hl) h5).frame hjl).mono ?_
 rintro v L' ⟨L1', hq, hp⟩
 have h4' : ∀ b, F b ≠ none → L1.join Lx b = none := fun b hb => join_none (h4 b hb) (hF b hb)
 have hFl : Le F L' := fun b y hy => hp.keep b y (h4' b (by rw [hy]; simp)) (h3 b y hy)
 rcases hq with ⟨e, hj⟩ | ⟨e, hz⟩
 ·refine .inl ⟨e, L1', hj, hp.le, hFl, fun b hb => ?_⟩
  cases hx : L1' b with
  | none => rfl
  | some y =>
   rcases hp.fresh b (by rw [hx]; simp) with g | g
   ·exact absurd (h4' b hb) g
   ·cases hf : F b with
    | none => exact absurd hf hb
    | some z => rw [h3 b z hf] at g; cases g
 ·exact .inr ⟨e, L1', hz, hp.le, hFl⟩
def IterR (X : Logic P) (g : FuncId) (cap : List Value) (Rel : α → List Value → LH → Prop) (xs : List α) (K : LH → Prop) : Prop :=
 ∀ (yv : Value) (J : List α → LH → Prop) (Z : LH → Prop) (L : LH), YlR X yv Rel xs K J Z → J [] L → Sp X g (yv :: cap) L (fun v L' => v = .tuple #[] ∧ (J xs L' ∨ Z L'))
end
section
variable {P : Program} {α : Type} {C : Cx P} {n : Nat} {ds : List Deferred} {k : List Item} {E : Env} {B : List (Option Bx)} {L : LH}
theorem W.iterR {Rel : α → List Value → LH → Prop} {xs : List α} {K : LH → Prop} {g : FuncId} {cap : List Value} {fo : Operand} {ps : Array Tmp} {asg body : Code} {sv : SV}
  (Lb : LH) (hLb : Le Lb L) (I : List α → LH → Prop) (Z : Code → LH → Prop) (it : IterR C.X g cap Rel xs K) (hcl : Callable P g) (hro : C.ro = none) (E' : Env) (hE' : SubE E E') (h0 : scE 0 E' = true)
  (hf : evS (get E) fo = some sv) (hv : den nm0 sv = some (.func (.func g) #[] cap.toArray))
  (hm : ∀ pre L1 L2, Le L1 L2 → I pre L1 → I pre L2) (hz : ∀ j L1 L2, Le L1 L2 → Z j L1 → Z j L2) (hr : ∀ x vs L1 L2, Le L1 L2 → Rel x vs L1 → Rel x vs L2)
  (hK : ∀ pre L', Le Lb L' → I pre L' → K L') (hI : I [] L.calm)
  (hn : (ps.toList.all fun p => Nat.blt p n) = true) (hln : ∀ x vs L', Rel x vs L' → vs.length = ps.size)
  (hb : ∀ (d l : Nat) (pre : List α) (x : α) (post : List α) (vs : List Value) (L' L1 Lx : LH) (q lb : Loop), xs = pre ++ x :: post → Le Lb L' → I pre L1 → Le L1 L' → Rel x vs Lx → Le Lx L' → (∀ b, Lx b ≠ none → L1 b = none) → Lb l = none → Lb d = none → l ≠ d →
   L' l = some (.loop q, true) → L' d = some (.deferred (some []), true) →
   ∀ C' : Cx P, C'.X = C.X → C'.f = C.f →
    (∀ (k : List Item) (E : Env) (B : List (Option Bx)), (∀ L2, L2 l = some (.loop lb, true) → (∀ b, b ≠ l → L2 b = L' b) → W C' n [] k E B L2) → W C' n [] (.beginRound :: k) E B L') →
    (∀ (k : List Item) (E : Env) (B : List (Option Bx)) (L'' : LH), Leaves k none → L'' l = some (.loop lb, true) → L'' d = some (.deferred (some []), true) → Le Lb L'' → I (pre ++ [x]) L''.calm → W C' n [] k E B L'') →
    (∀ (k : List Item) (E : Env) (B : List (Option Bx)) (L'' : LH) (j : Code), Leaves k (some j) → L'' l = some (.loop lb, true) → L'' d = some (.deferred (some []), true) → Le Lb L'' → Z j L''.calm → W C' n [] k E B L'') →
    W C' n [] [.code asg, .beginRound, .code body] (parEnv ps.toList vs E') [] L')
  (w1 : ∀ (d l : Nat) (L' : LH), Le Lb L' → Lb l = none → Lb d = none → I xs L' → L' d = some (.deferred (some []), true) → W C n (⟨.collected d, #[]⟩ :: ds) k E B L')
  (w2 : ∀ (d l : Nat) (j : Code) (L' : LH), Le Lb L' → Lb l = none → Lb d = none → Z j L' → L' d = some (.deferred (some []), true) → W C n (⟨.collected d, #[]⟩ :: ds) (.code j :: k) E B L') :
  W C n ds (.code (.rangeFunc fo ps asg body) :: k) E B L := by
 refine W.range hro E' hE' h0 hf hv (fun T d l st pd L' => Le Lb L' ∧ Lb l = none ∧ Lb d = none ∧ l ≠ d ∧ L' d = some (.deferred (some []), true) ∧ (∃ st pd, L' l = some (lpO st pd C.f T ps asg body d, true)) ∧ ((pd = none ∧ I xs L'.calm) ∨ ∃ j, pd = some j ∧ Z j L'.calm)) ?_ ?_
 ·intro T d l hT hE hd0 hl0 hne _ _
  have hd := none_of_le hLb hd0
  have hl := none_of_le hLb hl0
  have hJ : Le Lb ((L.put d (.deferred (some []))).put l (lpO .ready none C.f T ps asg body d)) := le_put_none (le_put_none hLb hd _) hl _
  have hfl : ((L.put d (.deferred (some []))).put l (lpO .ready none C.f T ps asg body d)).calm = L.calm := by
   funext b
   unfold LH.calm
   by_cases e : b = l
   ·subst e; rw [put_same, hl0]
   ·rw [put_ne _ _ e]
    by_cases e : b = d
    ·subst e; rw [put_same, hd0]
    ·rw [put_ne _ _ e]
  have hs := it (.func (.yield l) #[] #[]) (fun pre L' => Le Lb L' ∧ I pre L'.calm ∧ L' l = some (lpO .ready none C.f T ps asg body d, true) ∧ L' d = some (.deferred (some []), true))
   (fun L' => Le Lb L' ∧ (∃ j, L' l = some (lpO .done (some j) C.f T ps asg body d, true) ∧ Z j L'.calm) ∧ L' d = some (.deferred (some []), true)) _
   ⟨⟨_, _, _, rfl⟩, fun pre L1 L2 hl ⟨q1, q2, q3, q4⟩ => ⟨q1.trans hl, hm _ _ _ (calm_mono hl) q2, hl _ _ q3, hl _ _ q4⟩, fun L1 L2 hl ⟨q1, ⟨j, q2, q3⟩, q4⟩ => ⟨q1.trans hl, ⟨j, hl _ _ q2, hz _ _ _ (calm_mono hl) q3⟩, hl _ _ q4⟩, hr,
    fun pre L' h => hK pre L' h.1 (hm _ _ _ (calm_le _) h.2.1), ?_⟩ ⟨hJ, by rw [hfl]; exact hI, put_same _ _ _, by rw [put_ne _ _ (Ne.symm hne)]; exact put_same _ _ _⟩
  ·refine (Sp.toV (f1 := []) (f2 := cap) (args := [.func (.yield l) #[] #[]]) hs).mono ?_
   rintro v L' ⟨_, ⟨q1, q2, q3, q4⟩ | ⟨q1, ⟨j, q2, q3⟩, q4⟩⟩
   ·exact ⟨_, _, by decide, q3, q1, hl, hd, hne, q4, ⟨_, _, q3⟩, .inl ⟨rfl, q2⟩⟩
   ·exact ⟨_, _, by decide, q2, q1, hl, hd, hne, q4, ⟨_, _, q2⟩, .inr ⟨j, rfl, q3⟩⟩
  ·rintro pre x post vs L' L1 Lx hx ⟨q1, q2, q3, q4⟩ hl1 hrel hlx hdj
   refine SpV.round (n := n) (E' := E') (hl1 _ _ q3) (hln x vs Lx hrel) hT hE hn fun C' c1 c2 c3 _ rt => ?_
   refine hb d l pre x post vs L' L1 Lx _ ⟨.busy, none, C.f, T, ps, asg, body, d⟩ hx (q1.trans hl1) (hm _ _ _ (calm_le _) q2) hl1 hrel hlx hdj hl hd hne (hl1 _ _ q3) (hl1 _ _ q4) C' c1 c2 (fun k E B hw => W.beginR c3 (hl1 _ _ q3) rfl (hw _ (put_same _ _ _) fun b hb' => put_ne _ _ hb')) ?_ ?_
   ·intro k E B L'' hk g1 g2 g3 g4
    refine W.endR rt c3 hk g1 (.inl ⟨rfl, le_put_none g3 hl _, ?_, put_same _ _ _, by rw [put_ne _ _ (Ne.symm hne)]; exact g2⟩)
    rw [calm_putL g1]; exact g4
   ·intro k E B L'' j hk g1 g2 g3 g4
    refine W.endR rt c3 hk g1 (.inr ⟨rfl, le_put_none g3 hl _, ⟨j, put_same _ _ _, ?_⟩, by rw [put_ne _ _ (Ne.symm hne)]; exact g2⟩)
    rw [calm_putL g1]; exact g4
 ·rintro T d l st pd L' ⟨q1, q2, q3, q4, q5, ⟨st', pd', q6⟩, ⟨rfl, q7⟩ | ⟨j, rfl, q7⟩⟩
  ·exact w1 d l _ (le_put_none q1 q2 _) q2 q3 (hm _ _ _ (calm_le _) (by rw [calm_putL q6]; exact q7)) (by rw [put_ne _ _ (Ne.symm q4)]; exact q5)
  ·exact w2 d l j _ (le_put_none q1 q2 _) q2 q3 (hz _ _ _ (calm_le _) (by rw [calm_putL q6]; exact q7)) (by rw [put_ne _ _ (Ne.symm q4)]; exact q5)
end
end Go.Mz


namespace Go.Mz
open Go.Conc
section
variable {P : Program} {R : LH} {H : Value → LH → Prop}
theorem wpS_appendF {ts tx e e2 : TypeId} {k bts len m : Nat} {cs vs : List Value} {v yv z : Value} {ty : TypeId} {Q : Value → LH → Prop} (hts : P.underlying ts = some (.slice e)) (hk : (P.info? e).map (·.size) = some k) (hbt : (P.info? e).map (·.bytes) = some bts) (hz : (P.info? e).bind (·.zero) = some z) (hzk : z.cells.size = k) (htx : P.underlying tx = some (.slice e2))
  (hv : ∃ ad, v = .slice ad len len) (ho : FirstIs P R k len v cs) (hy : FirstIs P R k m yv vs) (hm : 0 < m) (h0 : 0 < bts) (hb : (2 * (len + m) + 1024) * bts ≤ 2 ^ 48)
  (hq : ∀ b c cap, R b = none → Own (R.put b (.cells c e)) k e (.slice (some ⟨b, 0, none⟩) (len + m) cap) (len + m) (cs ++ vs) (some b) → Q (.slice (some ⟨b, 0, none⟩) (len + m) cap) (R.put b (.cells c e))) : wpS P Q H (Builtin.append_ #[ts, tx] ty #[v, yv]) R := by
 obtain ⟨hvl, ⟨yad, ycap, rfl⟩, hfirst⟩ := hy
 obtain ⟨ad, rfl⟩ := hv
 obtain ⟨hcl, _, hof⟩ := ho
 unfold Builtin.append_
 simp only [List.getElem?_toArray, List.getElem?_cons_zero, List.getElem?_cons_succ]
 rw [wpS_bind, wpS_underlying hts]
 simp only
 rw [wpS_bind, wpS_sizeOf hk, wpS_bind, wpS_underlying htx, wpS_bind, wpS_pure]
 simp only [Bool.false_eq_true, if_false, Bool.not_false, if_true]
 rw [wpS_bind]
 unfold Builtin.lenOf
 rw [wpS_pure]
 have hfit : ¬ (len + m ≤ len) := by omega
 rw [if_neg hfit]
 obtain ⟨inf, hinf, hib⟩ : ∃ inf, P.info? e = some inf ∧ inf.bytes = bts := by
  cases hx : P.info? e with
  | none => rw [hx] at hbt; cases hbt
  | some i => rw [hx] at hbt; cases hbt; exact ⟨i, rfl, rfl⟩
 have hnb : ¬ (inf.bytes = 0) := by omega
 rw [wpS_bind, wpS_typeInfo hinf, if_neg (by simp [hnb]), wpS_bind, wpS_typeInfo hinf]
 have hcap := nextcap_le (need := len + m) (old := len) (by omega)
 have hle : Builtin.nextslicecap (len + m) len * inf.bytes ≤ 2 ^ 48 := Nat.le_trans (by rw [hib]; exact Nat.mul_le_mul_right _ hcap) hb
 rw [if_neg (by omega), wpS_bind, wpS_choose]
 intro newCap hnc
 obtain ⟨r, rfl⟩ : ∃ r, newCap = len + m + r := by
  unfold Answers at hnc
  simp only [Question.forced, Bool.false_eq_true, if_false, Question.cut] at hnc
  obtain ⟨t, ht⟩ := hnc
  exact ⟨_, ht⟩
 rw [wpS_bind, wpS_typeInfo hinf, wpS_bind]
 refine wpS_askRoom ?_
 rw [wpS_bind]
 refine hof _ _ ?_
 rw [wpS_bind]
 refine hfirst _ _ ?_
 rw [wpS_bind, wpS_zeroValue hz, wpS_bind, wpS_newRow]
 intro b hb'
 rw [wpS_pure]
 refine hq b _ _ hb' ⟨len + m + r, _, rfl, put_same _ _ _, ?_, by omega, by rw [List.length_append, hcl, hvl, Nat.add_mul], fun i x hx => ?_⟩
 ·simp only [Builtin.zeroCells, Array.size_append, List.size_toArray, Array.size_map, Array.size_range, hcl, hvl, hzk]
  rw [show len + m + r - (len + m) = r by omega, Nat.add_mul, Nat.add_mul]
 ·have hlt := (List.getElem?_eq_some_iff.1 hx).1
  rw [← Array.getElem?_toList, Array.toList_append, Array.toList_append, List.getElem?_append_left (by simpa using hlt)]
  exact hx
end
section
variable {P : Program} [S : Seat P] {C : Cx P} {E : Look} {B : List (Option Bx)} {L : LH} {dst : Option Tmp} {ty : TypeId} {pos : String} {af : Array Edge} {gd : Option (Nat × Bool)}
def AppQ {α : Type} (B : List (Option Bx)) (L : LH) (k : Nat) (e : TypeId) (enc : α → List Value) (l : List α) (sv : SV) (B' : List (Option Bx)) (L' : LH) : Prop :=
 ∃ b c cap, sv = .v (.slice (some ⟨b, 0, none⟩) l.length cap) ∧ B' = B ∧ L b = none ∧ L' = L.put b (.cells c e) ∧ Own L' k e (.slice (some ⟨b, 0, none⟩) l.length cap) l.length (l.flatMap enc) (some b)
theorem Ef.appF {α : Type} {enc : α → List Value} {l ls : List α} {ts tx e e2 : TypeId} {ti te tx' : TI} {ad : Option Addr} {x y : Operand} (hx : evS E x = some (.v (.slice ad l.length l.length))) (hts : S.τ.find ts = some ti) (hd : ti.d = .slice e) (he : S.τ.find e = some te) (htx : S.τ.find tx = some tx') (hd2 : tx'.d = .slice e2) (hz : te.z.cells.size = te.size)
  (h0 : Nat.blt 0 te.bytes = true) (h1 : Nat.ble te.bytes 1024 = true) (hk : ∀ x, (enc x).length = te.size) (hl : SlAt L ad te.size enc l) (hy : YC E B L te.size y ls.length (ls.flatMap enc)) (hls : 0 < ls.length) (hlen : l.length + ls.length ≤ 1073741824) :
  Ef C ⟨dst, .call { callee := .builtin .append, args := #[x, y], argTypes := #[ts, tx] }, ty, pos, af, gd⟩ E B L (AppQ B L te.size e enc (l ++ ls)) := by
 intro T R β hE hH
 have ex : ev T x = .slice ad l.length l.length := (Option.some.inj (hE.val hx)).symm
 have fy := hy.first (P := P) hE hH.boxes hH.le
 have fx : FirstIs P R te.size l.length (.slice ad l.length l.length) (l.flatMap enc) := by
  cases ad with
  | none =>
   cases l with
   | nil => exact FirstIs.nil
   | cons x l => obtain ⟨a, h1⟩ := hl.addr (i := 0) (by simp); cases h1
  | some a => exact FirstIs.at (hH.le.cellsAt (hl.cells hk))
 have i1 := (TT.find_ok S.ok hts).d
 rw [hd] at i1
 have i2 := (TT.find_ok S.ok htx).d
 rw [hd2] at i2
 have ie := TT.find_ok S.ok he
 refine ⟨rfl, ?_⟩
 simp only [execOp, resolve, List.map_toArray, List.map_cons, List.map_nil, ex, pure, Sem.bind, bind, invoke, builtin]
 show wpS P _ _ (Builtin.append_ _ _ _ >>= fun u => pure (Next.value u)) R
 rw [wpS_bind]
 refine wpS_appendF i1 ie.size ie.bytes ie.zero hz i2 ⟨_, rfl⟩ fx fy hls (Nat.le_of_ble_eq_true h0) ?_ fun b c cap hb ho => ?_
 ·have := Nat.le_of_ble_eq_true h1
  have h2 : 2 * (l.length + ls.length) + 1024 ≤ 2147484672 := by omega
  exact Nat.le_trans (Nat.mul_le_mul h2 this) (by decide)
 ·rw [wpS_pure]
  have hLn := (hH.free hb).1
  have hown : Own (L.put b (.cells c e)) te.size e (.slice (some ⟨b, 0, none⟩) (l ++ ls).length cap) (l ++ ls).length ((l ++ ls).flatMap enc) (some b) := by
   rw [List.length_append, List.flatMap_append]
   exact ho.keep fun b' hb' => by cases hb'; rw [put_same, put_same]
  exact ⟨.v (.slice (some ⟨b, 0, none⟩) (l.length + ls.length) cap), B, L.put b (.cells c e), ⟨b, c, cap, by rw [List.length_append], rfl, hLn, rfl, hown⟩, rfl, hH.newF hb _, fun _ _ => rfl⟩
end
end Go.Mz


namespace Go.Mz
open Go.Conc
section
variable {P : Program} {C : Cx P} {E : Look} {B : List (Option Bx)} {L : LH} {dst : Option Tmp} {ty : TypeId} {pos : String} {af : Array Edge} {gd : Option (Nat × Bool)}
theorem Ef.makeChan {t e : TypeId} {cd : ChanDir} {bts : Nat} {x : Operand} (hx : evS E x = some (.v (.int .i64 0))) (hu : P.underlying t = some (.chan cd e)) (hb : (P.info? e).map (·.bytes) = some bts) :
  Ef C ⟨dst, .makeChan t x, ty, pos, af, gd⟩ E B L (fun sv B' L' => ∃ r, sv = .v (.chan (some r)) ∧ B' = B ∧ L r = none ∧ L' = L.put r (.chan 0 #[] false 0 0 false)) := by
 intro T R β hE hH
 have ex : ev T x = .int .i64 0 := (Option.some.inj (hE.val hx)).symm
 obtain ⟨inf, hinf, hib⟩ : ∃ inf, P.info? e = some inf ∧ inf.bytes = bts := by
  cases hx : P.info? e with
  | none => rw [hx] at hb; cases hb
  | some i => rw [hx] at hb; cases hb; exact ⟨i, rfl, rfl⟩
 refine ⟨rfl, ?_⟩
 simp only [execOp, ex]
 rw [wpS_bind]
 unfold Instr.makeChan
 rw [wpS_bind]
 show wpS P _ _ (underlying t >>= _) R
 rw [wpS_bind, wpS_underlying hu]
 simp only
 rw [wpS_bind, wpS_typeInfo hinf]
 have hmax : (0 : Int) ≤ IntKind.i64.max := by decide
 rw [if_neg (by simp [hmax])]
 intro b hb
 exact ⟨_, B, _, ⟨b, rfl, rfl, (hH.free hb).1, rfl⟩, rfl, hH.newF hb _, fun _ _ => rfl⟩
theorem Ef.makeSlice {t e : TypeId} {x : Operand} {n bts : Nat} {z : Value} (hx : evS E x = some (.v (.int .i64 n))) (hn : n ≤ 1000000) (hu : P.underlying t = some (.slice e)) (hk : (P.info? e).map (·.size) = some 1) (hbt : (P.info? e).map (·.bytes) = some bts) (hz : (P.info? e).bind (·.zero) = some z) (hb : bts ≤ 1024) (hzc : z.cells = #[z]) :
  Ef C ⟨dst, .makeSlice t x x, ty, pos, af, gd⟩ E B L (fun sv B' L' => ∃ b, sv = .v (.slice (some ⟨b, 0, none⟩) n n) ∧ B' = B ∧ L b = none ∧ L' = L.put b (.cells (Array.replicate n z) e)) := by
 intro T R β hE hH
 have ex : ev T x = .int .i64 n := (Option.some.inj (hE.val hx)).symm
 obtain ⟨inf, hinf, hib⟩ : ∃ inf, P.info? e = some inf ∧ inf.bytes = bts := by
  cases hx : P.info? e with
  | none => rw [hx] at hbt; cases hbt
  | some i => rw [hx] at hbt; cases hbt; exact ⟨i, rfl, rfl⟩
 have hw : IntKind.i64.wrap (n : Int) = n := wrap64_in _ (by omega) (by omega)
 refine ⟨rfl, ?_⟩
 simp only [execOp, ex]
 rw [wpS_bind]
 unfold Instr.makeSlice
 rw [wpS_bind, wpS_underlying hu]
 simp only
 rw [wpS_bind]
 show wpS P _ _ (asInt (.int .i64 n) >>= _) R
 rw [wpS_bind]
 show wpS P _ _ (typeInfo e >>= _) R
 rw [wpS_bind, wpS_typeInfo hinf]
 simp only [hw]
 have hmul : bts * n ≤ 1024 * 1000000 := Nat.mul_le_mul hb hn
 have h48 : (inf.bytes : Int) * (n : Int) ≤ 281474976710656 := by
  rw [hib]
  have : ((bts * n : Nat) : Int) ≤ 1024000000 := by omega
  rw [Int.natCast_mul] at this
  omega
 rw [if_neg (by simp [h48])]
 rw [wpS_bind]
 refine wpS_askRoom ?_
 rw [wpS_bind, wpS_sizeOf hk]
 simp only [Int.toNat_natCast, Nat.mul_one]
 have fin : ∀ c : Array Value, c = Array.replicate n z → ∀ b, R b = none → ∃ sv B' L', (∃ b, sv = .v (.slice (some ⟨b, 0, none⟩) n n) ∧ B' = B ∧ L b = none ∧ L' = L.put b (.cells (Array.replicate n z) e)) ∧ den β sv = some (.slice (some ⟨b, 0, none⟩) n n) ∧ HeapOk C.L0 C.R0 β B' L' (R.put b (.cells c e)) ∧ ∀ kk, β kk = none → B'[kk]? = B[kk]? := fun c hc b hb => by
  subst hc
  exact ⟨_, B, _, ⟨b, rfl, rfl, (hH.free hb).1, rfl⟩, rfl, hH.newF hb _, fun _ _ => rfl⟩
 by_cases h0 : n = 0
 ·subst h0
  rw [if_pos rfl, wpS_bind, wpS_pure, wpS_bind, wpS_newRow]
  intro b hb
  exact fin _ (by simp) b hb
 ·rw [if_neg h0, wpS_bind, wpS_zeroValue hz, wpS_bind, wpS_pure, wpS_bind, wpS_newRow]
  intro b hb
  refine fin _ ?_ b hb
  rw [hzc]
  ext i h1 h2
  ·simp
  ·simp [Nat.mod_one]
end
end Go.Mz


set_option maxRecDepth 100000
namespace Go.Mz
open Go.Conc Go.Proofs
variable {X : Logic Tryz.prog}
def RelL (l : List Int) (vs : List Value) (L : LH) : Prop := ∃ ad cap, vs = [.slice ad l.length cap] ∧ IntsAt L ad l ∧ l.length ≤ cap
abbrev bxS (s : St) (p : Pt) : List Value := [.slice p.sa s.shelves.length p.c1, .slice p.ca s.cones.length p.c2, .int .i64 s.days, .int .i64 s.now, .int .i64 s.rise, .int .i64 s.top]
structure HtK (bs : Nat) (s : St) (L : LH) : Prop where
 d : L.cell? ⟨bs, 2, none⟩ = some (.int .i64 s.days)
 n : L.cell? ⟨bs, 3, none⟩ = some (.int .i64 s.now)
 r : L.cell? ⟨bs, 4, none⟩ = some (.int .i64 s.rise)
 t : L.cell? ⟨bs, 5, none⟩ = some (.int .i64 s.top)
theorem HtK.le {bs : Nat} {s : St} {L L' : LH} (h : HtK bs s L) (hl : Le L L') : HtK bs s L' := ⟨hl.cell h.d, hl.cell h.n, hl.cell h.r, hl.cell h.t⟩
abbrev hgrowV (bs by_ bg : Nat) : Value := .func (.func 148) #[] #[pt bs, pt by_, pt bg]
abbrev hsub (s : St) (n j : Nat) : List (List Int) := (List.range j).flatMap fun (h : Nat) => (heatsAll s.top s.rise n h).map ((h : Int) :: ·)
theorem hsub_succ (s : St) (n j : Nat) (l : List Int) : (hsub s n (j + 1)).map (l ++ ·) = (hsub s n j).map (l ++ ·) ++ (heatsAll s.top s.rise n (j : Int)).map ((l ++ [(j : Int)]) ++ ·) := by
 unfold hsub
 rw [List.range_succ, List.flatMap_append, List.map_append]
 congr 1
 simp [List.map_map, Function.comp]
theorem hsub_split (s : St) (n : Nat) {j N : Nat} (h : j < N) (l : List Int) : ∃ r, (hsub s n N).map (l ++ ·) = (hsub s n j).map (l ++ ·) ++ ((heatsAll s.top s.rise n (j : Int)).map ((l ++ [(j : Int)]) ++ ·) ++ r) := by
 refine ⟨(((List.range' (j + 1) (N - j - 1)).flatMap fun (h : Nat) => (heatsAll s.top s.rise n h).map ((h : Int) :: ·))).map (l ++ ·), ?_⟩
 unfold hsub
 rw [range_split h, List.flatMap_append, List.map_append, List.flatMap_cons, List.map_append]
 congr 2
 simp [List.map_map, Function.comp]
theorem hgrow_sp (s : St) (hok : Ok s) (bs by_ bg : Nat) (yv : Value) (xs : List (List Int)) (J : List (List Int) → LH → Prop) (Z : LH → Prop) (hY : YlR X yv RelL xs (HtK bs s) J Z) :
  ∀ (n : Nat) (l : List Int) (b : Int) (ad : Option Addr) (cap : Nat) (pre post : List (List Int)) (F Lx L : LH), F.cell? ⟨by_, 0, none⟩ = some yv → F.cell? ⟨bg, 0, none⟩ = some (hgrowV bs by_ bg) → l.length + n = s.days.toNat → 0 ≤ b → b ≤ 5 → l.length ≤ cap → IntsAt Lx ad l → Le Lx L →
   (∀ b, F b ≠ none → Lx b = none) → xs = pre ++ (heatsAll s.top s.rise n b).map (l ++ ·) ++ post → Fra J (F.join Lx) pre L →
   Sp X 148 [.slice ad l.length cap, .int .i64 b, pt bs, pt by_, pt bg] L
    (fun v L' => (v = .bool true ∧ Fra J F (pre ++ (heatsAll s.top s.rise n b).map (l ++ ·)) L') ∨ (v = .bool false ∧ FraZ Z F L')) := by
 intro n
 have hd1 := hok.d1
 have hd4 := hok.d4
 induction n with
 | zero =>
  intro l b ad cap pre post F Lx L hFy hFg hn hb0 hb5 hcap hl hLx hdis hx hJ
  have hJ0 := hJ.less (F' := F) join_le_left
  obtain ⟨L1, j1, j2, j3, j4⟩ := id hJ0
  have hK := (hY.inv _ _ j1).le j2
  have hg : (heatsAll s.top s.rise 0 b).map (l ++ ·) = [l] := by simp [heatsAll]
  rw [hg] at hx ⊢
  refine Sp.enter (n := 41) Tryz.func148 rfl rfl rfl rfl fun C hX _ hL0 r => ?_
  refine W.go 99 rfl ?_
  refine W.vf rfl rfl rfl rfl (Vf.load rfl rfl rfl (hK.d)) ?_
  refine W.go 99 rfl ?_
  refine W.split rfl rfl rfl (fun _ => ?_) (fun e => absurd e (by simp; omega))
  refine W.go 99 rfl ?_
  refine W.vf rfl rfl rfl rfl (Vf.load rfl rfl rfl (j3.cell hFy)) ?_
  refine W.go 99 rfl ?_
  have hc := hY.call (x := l) (post := post) (vs := [.slice ad l.length cap]) (Lx := Lx) (by rw [hx]; simp) hJ ⟨ad, cap, rfl, hl, hcap⟩ hLx hdis
  obtain ⟨yf, yt, yc, rfl⟩ := hY.fn
  rw [← hX] at hc
  refine W.eff rfl rfl rfl (Ef.callS rfl rfl rfl hc) ?_
  rintro _ _ _ ⟨_, rfl, rfl, hq⟩
  refine W.go 99 rfl ?_
  refine W.ret r rfl rfl ?_
  exact hq
 | succ n ih =>
  intro l b ad cap pre post F Lx L hFy hFg hn hb0 hb5 hcap hl hLx hdis hx hJ
  obtain ⟨L1, j1, j2, j3, j4⟩ := id hJ
  have hK := (hY.inv _ _ j1).le j2
  have ht0 := hok.t0
  have ht5 := hok.t5
  have hr0 := hok.r0
  have hr3 := hok.r3
  obtain ⟨N, hN⟩ : ∃ N : Nat, min s.top (b + s.rise) + 1 = (N : Int) := ⟨(min s.top (b + s.rise) + 1).toNat, by omega⟩
  have hall : heatsAll s.top s.rise (n + 1) b = hsub s n N := by unfold hsub; rw [heatsAll, hN, Int.toNat_natCast]
  rw [hall] at hx ⊢
  have hFJ : Le F (F.join Lx) := join_le_left
  refine Sp.enter (n := 41) Tryz.func148 rfl rfl rfl rfl fun C hX _ hL0 r => ?_
  refine W.go 99 rfl ?_
  refine W.vf rfl rfl rfl rfl (Vf.load rfl rfl rfl (hK.d)) ?_
  refine W.go 99 rfl ?_
  refine W.split rfl rfl rfl (fun e => absurd e (by simp; omega)) (fun _ => ?_)
  refine W.go 99 rfl ?_
  refine W.loop (fun m E B L' => ∃ j : Nat, j ≤ N ∧ m = N - j ∧ Fra J (F.join Lx) (pre ++ (hsub s n j).map (l ++ ·)) L' ∧
    E = [(0, .v (.slice ad l.length cap)), (1, .v (.int .i64 b)), (2, .v (pt bs)), (3, .v (pt by_)), (4, .v (pt bg)), (8, .v (.int .i64 j))] ∧ B = [])
   ⟨0, by omega, rfl, by simpa [hsub] using hJ, rfl, rfl⟩ (by exact ⟨rfl, rfl, rfl, rfl, rfl, rfl, trivial⟩) (by exact trivial) ?_
  rintro _ _ _ L2 ⟨j, hj, rfl, hJ2, rfl, rfl⟩ again
  obtain ⟨L3, k1, k2, k3, k4⟩ := id hJ2
  have hK2 := (hY.inv _ _ k1).le k2
  refine W.go 99 rfl ?_
  refine W.vf rfl rfl rfl rfl (Vf.load rfl rfl rfl (hK2.t)) ?_
  refine W.go 99 rfl ?_
  refine W.vf rfl rfl rfl rfl (Vf.load rfl rfl rfl (hK2.r)) ?_
  refine W.go 99 rfl ?_
  rw [wrap64_in _ (by omega) (by omega)]
  refine W.split rfl rfl rfl (fun e1 => W.go 99 rfl ?_) (fun e1 => W.go 99 rfl ?_)
  ·have hj1 : j + 1 ≤ N := by simp at e1; split at e1 <;> omega
   have hjt : (j : Int) ≤ s.top := by omega
   refine W.drawn (by kernel_rfl) (F.join Lx) k3 ?_
   refine DD.run' [1, 2, 3, 4, 5, 7, 10] rfl ?_
   refine DD.vf 0 rfl rfl rfl rfl rfl (Vf.load rfl rfl rfl ((hFJ.cell hFg))) ?_
   refine DD.vf 6 rfl rfl rfl rfl rfl (Vf.slice3 rfl rfl rfl Tryz.underlying28 size3 (Nat.le_refl _) hcap) ?_
   refine DD.run' [8] rfl ?_
   have hLxJ : Le Lx (F.join Lx) := join_le_right (join_le_left.trans j3) hLx
   have hl2 : IntsAt L2 ad l := hl.le (hLxJ.trans k3)
   have hlen : l.length ≤ 4 := by omega
   refine DD.act 9 rfl rfl rfl rfl rfl (Ef.appF (enc := encI) (l := l) (ls := [(j : Int)]) rfl rfl rfl rfl rfl rfl rfl rfl rfl encI_len hl2 (.own rfl rfl rfl rfl) (by simp) (by simp; omega)) ((by rintro _ _ _ ⟨_, _, _, _, rfl, hb, rfl, _⟩; exact ⟨k3.trans (Le.put hb _), rfl, .inl rfl⟩)) ?_
   rintro _ _ _ ⟨bn, cn, capn, rfl, rfl, hbn, rfl, hown⟩
   have hF1 : F.join Lx bn = none := none_of_le k3 hbn
   have hJ3 := hJ2.put hbn (.cells cn 3)
   obtain ⟨rst, hrst⟩ := hsub_split s n (show j < N by omega) l
   have hx2 : (noL.put bn (.cells cn 3)) bn = some (.cells cn 3, true) := put_same _ _ _
   have hch := ih (l ++ [(j : Int)]) j (some ⟨bn, 0, none⟩) capn (pre ++ (hsub s n j).map (l ++ ·)) (rst ++ post) (F.join Lx) (noL.put bn (.cells cn 3)) (L2.put bn (.cells cn 3)) (hFJ.cell hFy) (hFJ.cell hFg) (by rw [List.length_append, List.length_singleton]; omega) (by omega) (by omega)
    (by obtain ⟨_, _, hv, _, _, g, _⟩ := hown; cases hv; exact g) ((hown.keep (L' := noL.put bn (.cells cn 3)) fun b' hb' => by cases hb'; rw [put_same, put_same]).at encI_len) (le_put2 (noL_le _) bn _)
    (fun b' hb' => by rw [put_ne _ _ (fun e => by subst e; exact hb' hF1)]; rfl) (by rw [hx, hrst]; simp only [List.append_assoc]) (hJ3.less (join_le (Le.put hF1 _) (le_put2 (noL_le _) bn _)))
   rw [← hX] at hch
   refine DD.act 11 rfl rfl rfl rfl rfl (Ef.callS rfl rfl rfl (Sp.toV (f1 := []) (f2 := [pt bs, pt by_, pt bg]) hch)) ((by rintro _ _ _ ⟨_, rfl, rfl, ⟨_, _, _, _, h, _⟩ | ⟨_, _, _, _, h⟩⟩ <;> exact ⟨h, rfl, .inl rfl⟩)) ?_
   rintro _ _ _ ⟨_, rfl, rfl, ⟨rfl, hq⟩ | ⟨rfl, hq⟩⟩
   ·refine DD.run' [12] rfl ?_
    refine .fin rfl ?_
    refine W.go 99 rfl ?_
    refine W.split rfl rfl rfl (fun c => absurd c (by decide)) (fun c => ?_)
    refine W.go 99 rfl ?_
    exact W.again (again _ _ _ _ (by omega) ⟨j + 1, hj1, rfl, by rw [hsub_succ, ← List.append_assoc]; exact hq, rfl, rfl⟩) ⟨rfl, rfl, rfl, rfl, rfl, congrArg some (inc64 (by omega)), trivial⟩ (by exact trivial)
   ·refine DD.run' [12] rfl ?_
    refine .fin rfl ?_
    refine W.go 99 rfl ?_
    refine W.split rfl rfl rfl (fun c => ?_) (fun c => absurd c (by decide))
    refine W.go 99 rfl ?_
    refine W.ret r rfl rfl ?_
    obtain ⟨M1, g1, g2, g3⟩ := hq
    exact .inr ⟨rfl, M1, g1, g2, hFJ.trans g3⟩
  ·have hjN : j = N := by simp at e1; split at e1 <;> omega
   subst hjN
   refine W.ret r rfl rfl ?_
   exact .inl ⟨rfl, hJ2.less hFJ⟩
theorem heats1_it (s : St) (hok : Ok s) (bs : Nat) : IterR X 147 [pt bs] RelL (heatsS s) (HtK bs s) := by
 intro yv J Z L hY hJ
 obtain ⟨yf, yt, yc, e⟩ := hY.fn
 subst e
 have hF := Fra.zero hJ
 refine Sp.enter (n := 9) Tryz.func147 rfl rfl rfl rfl fun C hX _ hL0 r => ?_
 refine W.goP [3] 99 rfl ?_
 refine W.pub 2 (.inl ⟨_, rfl⟩) rfl rfl ?_
 intro b4 h4 _
 refine W.goP [4] 99 rfl ?_
 refine W.pub 3 (.inl ⟨_, rfl⟩) rfl rfl ?_
 intro b5 h5 _
 have hne : b4 ≠ b5 := fun e => by subst e; rw [put_same] at h5; cases h5
 have hF1 := hF.put h4 (.cells #[.func yf yt yc] 60)
 have hF2 := hF1.put h5 (.cells #[.nilFunc] 214)
 have hF3 := hF2.set (b := b5) (by rw [put_same]; simp) (.cells #[hgrowV bs b4 b5] 214)
 refine W.go 99 rfl ?_
 refine W.eff0 rfl rfl (Ef.stoF rfl ⟨_, rfl, rfl⟩ rfl (put_same _ _ _) rfl (Nat.le_refl _) (singles rfl)) ?_
 rintro _ _ _ ⟨rfl, rfl, rfl⟩
 refine W.go 99 rfl ?_
 refine W.vf rfl rfl rfl rfl (Vf.load rfl rfl rfl (cell_of (put_same _ _ _) rfl)) ?_
 refine W.go 99 rfl ?_
 obtain ⟨L1, j1, j2, j3, _⟩ := id hF3
 have hK := (hY.inv _ _ j1).le j2
 refine W.vf rfl rfl rfl rfl (Vf.load rfl rfl rfl (hK.n)) ?_
 refine W.go 99 rfl ?_
 have hg := hgrow_sp s hok bs b4 b5 (.func yf yt yc) _ J Z hY s.days.toNat [] s.now none 0 [] [] (((noL.put b4 (.cells #[.func yf yt yc] 60)).put b5 (.cells #[.nilFunc] 214)).put b5 (.cells #[hgrowV bs b4 b5] 214)) noL _
  (cell_of (by rw [put_ne _ _ hne, put_ne _ _ hne]; exact put_same _ _ _) rfl) (cell_of (put_same _ _ _) rfl) (by simp) hok.n0 hok.n5 (Nat.le_refl _) ints0 (noL_le _) (fun _ _ => rfl) (by simp [heatsS]) (hF3.less (join_le (Le.refl _) (noL_le _)))
 rw [← hX] at hg
 refine W.eff rfl rfl rfl (Ef.callS rfl rfl rfl (Sp.toV (f1 := []) (f2 := [pt bs, pt b4, pt b5]) hg)) ?_
 rintro _ _ _ ⟨_, rfl, rfl, hq⟩
 refine W.go 99 rfl ?_
 refine W.ret0 r rfl rfl ⟨rfl, ?_⟩
 have e : [] ++ (heatsAll s.top s.rise s.days.toNat s.now).map (([] : List Int) ++ ·) = heatsS s := by simp [heatsS]
 rw [e] at hq
 rcases hq with ⟨_, M, g1, g2, _⟩ | ⟨_, M, g1, g2, _⟩
 ·exact .inl (hY.mJ _ _ _ g2 g1)
 ·exact .inr (hY.mZ _ _ g2 g1)
theorem heats_sp (s : St) (p : Pt) (L : LH) : Sp X 124 [stA s p] L (fun v L' => ∃ bs, v = .func (.func 147) #[] #[pt bs] ∧ L bs = none ∧ L' = L.put bs (.cells (bxS s p).toArray 25)) := by
 refine Sp.enter (n := 4) Tryz.func124 rfl rfl rfl rfl fun C hX _ hL0 r => ?_
 refine W.goP [2] 99 rfl ?_
 refine W.pub 1 (.inl ⟨_, rfl⟩) rfl rfl ?_
 intro b hb _
 refine W.go 99 rfl ?_
 refine W.ret r rfl rfl ?_
 exact ⟨b, rfl, hb, rfl⟩
end Go.Mz


namespace Go.Mz
open Go
theorem sumL_add (l : List Int) (x : Int) : sumL (l ++ [x]) = sumL l + x := by unfold sumL; rw [List.foldl_append]; rfl
theorem sumL_bd : ∀ (n : Nat) (l : List Int), l.length = n → (∀ x ∈ l, 0 ≤ x ∧ x ≤ 100) → 0 ≤ sumL l ∧ sumL l ≤ 100 * n
 | 0, l, hn, _ => by
  rw [List.length_eq_zero_iff] at hn
  subst hn
  exact ⟨Int.le_refl _, Int.le_refl _⟩
 | n + 1, l, hn, h => by
  have hne : l ≠ [] := fun e => by subst e; simp at hn
  obtain ⟨k, x, rfl⟩ : ∃ k x, l = k ++ [x] := ⟨l.dropLast, l.getLast hne, (List.dropLast_concat_getLast hne).symm⟩
  rw [sumL_add]
  have h1 := sumL_bd n k (by simp at hn; omega) fun y hy => h y (List.mem_append_left _ hy)
  have h2 := h x (by simp)
  omega
end Go.Mz


set_option maxRecDepth 100000
namespace Go.Mz
open Go.Conc Go.Proofs
variable {X : Logic Tryz.prog}
theorem takeI_raw (b : Nat) (a0 a1 : Option Addr) (l0 c0 l1 c1 : Nat) (m n : Int) (sm : Bool) (L : LH) (h : L b = some (.cells #[.slice a0 l0 c0, .int .i64 m, .bool sm] 184 (0, 0), true)) :
  Sp X 130 [pt b, .slice a1 l1 c1, .int .i64 n] L (fun v L' => v = .tuple #[] ∧ (∀ b', b' ≠ b → L' b' = L b') ∧ L' b = some (.cells (if !sm || decide (n < m) then #[.slice a1 l1 c1, .int .i64 n, .bool true] else #[.slice a0 l0 c0, .int .i64 m, .bool sm]) 184, true)) := by
 cases sm with
 | false =>
  refine Sp.enter (n := 30) Tryz.func130 rfl rfl rfl rfl fun C hX _ hL0 r => ?_
  refine W.go 99 rfl ?_
  refine W.vf rfl rfl rfl rfl (Vf.load rfl rfl rfl (cell_of h rfl)) ?_
  refine W.go 99 rfl ?_
  refine W.split rfl rfl rfl (fun c => ?_) (fun c => absurd c (by decide))
  refine W.go 99 rfl ?_
  refine W.eff0 rfl rfl (Ef.stoL rfl ⟨_, rfl, rfl⟩ rfl h rfl rfl rfl rfl rfl) ?_
  rintro _ _ _ ⟨rfl, rfl, rfl⟩
  refine W.go 99 rfl ?_
  refine W.eff0 rfl rfl (Ef.stoL rfl ⟨_, rfl, rfl⟩ rfl (put_same _ _ _) rfl rfl rfl rfl rfl) ?_
  rintro _ _ _ ⟨rfl, rfl, rfl⟩
  refine W.go 99 rfl ?_
  refine W.eff0 rfl rfl (Ef.stoL rfl ⟨_, rfl, rfl⟩ rfl (put_same _ _ _) rfl rfl rfl rfl rfl) ?_
  rintro _ _ _ ⟨rfl, rfl, rfl⟩
  refine W.go 99 rfl ?_
  refine W.ret0 r rfl rfl ?_
  exact ⟨rfl, fun b' hb' => by rw [put_ne _ _ hb', put_ne _ _ hb', put_ne _ _ hb'], put_same _ _ _⟩
 | true =>
  refine Sp.enter (n := 30) Tryz.func130 rfl rfl rfl rfl fun C hX _ hL0 r => ?_
  refine W.go 99 rfl ?_
  refine W.vf rfl rfl rfl rfl (Vf.load rfl rfl rfl (cell_of h rfl)) ?_
  refine W.go 99 rfl ?_
  refine W.split rfl rfl rfl (fun c => absurd c (by decide)) (fun c => ?_)
  refine W.go 99 rfl ?_
  refine W.vf rfl rfl rfl rfl (Vf.load rfl rfl rfl (cell_of h rfl)) ?_
  refine W.go 99 rfl ?_
  refine W.split rfl rfl rfl (fun e1 => W.go 99 rfl ?_) (fun e1 => W.go 99 rfl ?_)
  ·refine W.eff0 rfl rfl (Ef.stoL rfl ⟨_, rfl, rfl⟩ rfl h rfl rfl rfl rfl rfl) ?_
   rintro _ _ _ ⟨rfl, rfl, rfl⟩
   refine W.go 99 rfl ?_
   refine W.eff0 rfl rfl (Ef.stoL rfl ⟨_, rfl, rfl⟩ rfl (put_same _ _ _) rfl rfl rfl rfl rfl) ?_
   rintro _ _ _ ⟨rfl, rfl, rfl⟩
   refine W.go 99 rfl ?_
   refine W.eff0 rfl rfl (Ef.stoL rfl ⟨_, rfl, rfl⟩ rfl (put_same _ _ _) rfl rfl rfl rfl rfl) ?_
   rintro _ _ _ ⟨rfl, rfl, rfl⟩
   refine W.go 99 rfl ?_
   refine W.ret0 r rfl rfl ?_
   refine ⟨rfl, fun b' hb' => by rw [put_ne _ _ hb', put_ne _ _ hb', put_ne _ _ hb'], ?_⟩
   rw [if_pos (by simpa using e1)]
   exact put_same _ _ _
  ·refine W.ret0 r rfl rfl ?_
   refine ⟨rfl, fun b' hb' => rfl, ?_⟩
   rw [if_neg (by simpa using e1)]
   exact h
theorem W.cutI {P : Program} {C : Cx P} {n : Nat} {ds : List Deferred} {a : Item} {k : List Item} {E : Env} {B : List (Option Bx)} {L : LH} (J : Env → List (Option Bx) → LH → Prop) (hJ : ∀ E B L, J E B L → W C n ds k E B L) (h : (∀ E' B' L', J E' B' L' → W C n ds k E' B' L') → W C n ds (a :: k) E B L) : W C n ds (a :: k) E B L := h hJ
abbrev Rf := Option Addr × Nat × Nat
abbrev slV (r : Rf) : Value := .slice r.1 r.2.1 r.2.2
abbrev encR (r : Rf) : List Value := [slV r]
theorem encR_len (r : Rf) : (encR r).length = 1 := rfl
theorem encR_sg (r : Rf) : ∀ u ∈ encR r, single u = true := fun u hu => by rw [List.mem_singleton.1 hu]; rfl
def RelA (L : LH) (rf : List Rf) (ls : List (List Int)) : Prop := rf.length = ls.length ∧ ∀ (k : Nat) v l, rf[k]? = some v → ls[k]? = some l → ∃ ad cap, v = (ad, l.length, cap) ∧ IntsAt L ad l
theorem RelA.le {L L' : LH} {rf : List Rf} {ls : List (List Int)} (h : RelA L rf ls) (hl : Le L L') : RelA L' rf ls :=
 ⟨h.1, fun k v l h1 h2 => let ⟨ad, cap, h3, h4⟩ := h.2 k v l h1 h2; ⟨ad, cap, h3, h4.le hl⟩⟩
theorem RelA.calm {L : LH} {rf : List Rf} {ls : List (List Int)} (h : RelA L rf ls) : RelA L.calm rf ls :=
 ⟨h.1, fun k v l h1 h2 => let ⟨ad, cap, h3, h4⟩ := h.2 k v l h1 h2; ⟨ad, cap, h3, fun i x hx => let ⟨a, g1, g2⟩ := h4 i x hx; ⟨a, g1, fun j u hu => calm_cell (g2 j u hu)⟩⟩⟩
theorem RelA.snoc {L : LH} {rf : List Rf} {ls : List (List Int)} (h : RelA L rf ls) {ad : Option Addr} {cap : Nat} {l : List Int} (hl : IntsAt L ad l) : RelA L (rf ++ [(ad, l.length, cap)]) (ls ++ [l]) := by
 refine ⟨by simp [h.1], fun k v l' h1 h2 => ?_⟩
 by_cases e : k < rf.length
 ·rw [List.getElem?_append_left e] at h1
  rw [List.getElem?_append_left (by rw [← h.1]; exact e)] at h2
  exact h.2 k v l' h1 h2
 ·rw [List.getElem?_append_right (by omega)] at h1
  rw [List.getElem?_append_right (by rw [← h.1]; omega)] at h2
  rw [h.1] at h1
  by_cases e2 : k - ls.length = 0
  ·rw [e2] at h1 h2
   cases h1; cases h2
   exact ⟨ad, cap, rfl, hl⟩
  ·rw [List.getElem?_eq_none (by simp; omega)] at h1; cases h1
theorem calm_calm (L : LH) : L.calm.calm = L.calm := by
 funext b
 unfold LH.calm
 cases h : L b with
 | none => rfl
 | some x => obtain ⟨o, wr⟩ := x; cases o <;> rfl
theorem calm_noloop {L : LH} {b : Nat} {q : Loop} {wr : Bool} : L.calm b ≠ some (.loop q, wr) := by
 unfold LH.calm
 cases h : L b with
 | none => simp
 | some x => obtain ⟨o, wr⟩ := x; cases o <;> simp
theorem Grow.turn {α : Type} {I L L2 : LH} {k : Nat} {e : TypeId} {enc : α → List Value} {v : Value} {l : List α} {x : Nat} {q : Loop} {wr : Bool} (h : Grow I k e enc L v l) (hl : L x = some (.loop q, wr)) (hr : ∀ b, b ≠ x → L2 b = L b) : Grow I.calm k e enc L2 v l := by
 obtain ⟨hI, ob, ho, hn⟩ := h
 refine ⟨fun b y hy => ?_, ob, ho.keep fun b hb => ?_, fun b hb => none_of_le (calm_le _) (hn b hb)⟩
 ·rw [hr b (fun e => by subst e; have := hI _ _ (calm_le _ _ _ hy); rw [hl] at this; cases this; exact calm_noloop hy)]
  exact hI _ _ (calm_le _ _ _ hy)
 ·subst hb
  obtain ⟨_, c, _, h2, _⟩ := ho
  exact hr b (fun e => by subst e; rw [hl] at h2; cases h2)
theorem Grow.rest {α : Type} {I L1 L2 Lx : LH} {k : Nat} {e : TypeId} {enc : α → List Value} {v : Value} {l : List α} (h : Grow I k e enc L1 v l) (hl : ∀ b x, L1 b = some x → (∃ q, x = (.loop q, true)) ∨ L2 b = some x) (hx : Le Lx L2) (hd : ∀ b, Lx b ≠ none → L1 b = none) :
  ∃ I2, Grow I2 k e enc L2 v l ∧ Le I.calm I2 ∧ Le Lx I2 ∧ (∀ b x, L2 b = some x → I2 b = some x ∨ ∃ c, x = (.cells c e (0, 0), true) ∧ I b = none) := by
 obtain ⟨hI, ob, ho, hn⟩ := h
 have hIc : Le I.calm L2 := fun b y hy => by
  rcases hl b y (hI _ _ (calm_le _ _ _ hy)) with ⟨q, rfl⟩ | h
  ·exact absurd hy calm_noloop
  ·exact h
 cases ob with
 | none => exact ⟨L2, ⟨Le.refl _, none, ho, fun b hb => by cases hb⟩, hIc, hx, fun b x hx => .inl hx⟩
 | some b =>
  have hIb := hn b rfl
  obtain ⟨_, c, _, h2, _⟩ := id ho
  have h2' : L2 b = some (.cells c e (0, 0), true) := (hl _ _ h2).resolve_left (fun ⟨q, h⟩ => by cases h)
  refine ⟨L2.less [b], ⟨less_le _ _, some b, ho.keep fun b' hb' => by cases hb'; rw [h2', h2], fun b' hb' => by cases hb'; exact less_none (List.mem_singleton.2 rfl)⟩, le_less hIc (fun b' hb' => by rw [List.mem_singleton.1 hb']; exact none_of_le (calm_le _) hIb),
   le_less hx (fun b' hb' => by
    rw [List.mem_singleton.1 hb']
    cases hh : Lx b with
    | none => rfl
    | some y => have := hd b (by rw [hh]; simp); rw [h2] at this; cases this), fun b' x hx => ?_⟩
  by_cases e' : b' = b
  ·subst e'
   rw [h2'] at hx; cases hx
   exact .inr ⟨c, rfl, hIb⟩
  ·exact .inl (by rw [less_get (by simp [e'])]; exact hx)
theorem Grow.setO {α : Type} {I L : LH} {k : Nat} {e : TypeId} {enc : α → List Value} {v : Value} {l : List α} {b : Nat} (h : Grow I k e enc L v l) (hb : I b ≠ none) (o : Obj) : Grow (I.put b o) k e enc (L.put b o) v l := by
 obtain ⟨hI, ob, ho, hn⟩ := h
 refine ⟨le_put2 hI b o, ob, ho.keep fun b' hb' => put_ne _ _ (fun e => by subst e; exact hb (hn _ hb')), fun b' hb' => ?_⟩
 rw [put_ne _ _ (fun e => by subst e; exact hb (hn _ hb'))]
 exact hn b' hb'
theorem Grow.calm {α : Type} {I L : LH} {k : Nat} {e : TypeId} {enc : α → List Value} {v : Value} {l : List α} (h : Grow I k e enc L v l) : Grow I.calm k e enc L.calm v l := by
 obtain ⟨hI, ob, ho, hn⟩ := h
 exact ⟨calm_mono hI, ob, ho.calm, fun b hb => none_of_le (calm_le _) (hn b hb)⟩
theorem ints_putS {L : LH} {ad : Option Addr} {l : List Int} {b : Nat} {r : Rf} {t : TypeId} {wr : Bool} {o : Obj} (h : IntsAt L ad l) (hb : L b = some (.cells #[slV r] t (0, 0), wr)) : IntsAt (L.put b o) ad l := fun i x hx => by
 obtain ⟨a, g1, g2⟩ := h i x hx
 refine ⟨a, g1, fun j v hv => ?_⟩
 have hc := g2 j v hv
 have hne : (a.add (i * 1 + j)).block ≠ b := fun e => by
  unfold LH.cell? at hc
  rw [e, hb] at hc
  simp only at hc
  split at hc
  ·cases hc
  ·have hj : j = 0 := by
    cases j with
    | zero => rfl
    | succ j => simp [encI] at hv
   subst hj
   cases hv
   cases hof : (a.add (i * 1 + 0)).off with
   | zero => rw [hof] at hc; cases hc
   | succ m => rw [hof] at hc; simp at hc
 unfold LH.cell? at hc ⊢
 rw [put_ne _ _ hne]
 exact hc
theorem RelA.putS {L : LH} {rf : List Rf} {ls : List (List Int)} {b : Nat} {r : Rf} {t : TypeId} {wr : Bool} {o : Obj} (h : RelA L rf ls) (hb : L b = some (.cells #[slV r] t (0, 0), wr)) : RelA (L.put b o) rf ls :=
 ⟨h.1, fun k v l h1 h2 => let ⟨ad, cap, h3, h4⟩ := h.2 k v l h1 h2; ⟨ad, cap, h3, ints_putS h4 hb⟩⟩
def Gath (Lb : LH) (ba : Nat) (pre : List (List Int)) (L : LH) : Prop :=
 ∃ (rf : List Rf) (va : Value) (I : LH), Grow I 1 28 encR L va rf ∧ I ba = some (.cells #[va] 36 (0, 0), true) ∧ RelA I rf pre ∧ (∀ b x, Lb.calm b = some x → I b = some x)
theorem Gath.le {Lb : LH} {ba : Nat} {pre : List (List Int)} {L L' : LH} (h : Gath Lb ba pre L) (hl : Le L L') : Gath Lb ba pre L' :=
 let ⟨rf, va, I, h1, h2, h3, h4⟩ := h; ⟨rf, va, I, h1.le hl, h2, h3, h4⟩
theorem flatMap_le {α β : Type} {f : α → List β} {k : Nat} : ∀ l : List α, (∀ x ∈ l, (f x).length ≤ k) → (l.flatMap f).length ≤ l.length * k
 | [], _ => by simp
 | x :: l, h => by
  rw [List.flatMap_cons, List.length_append, List.length_cons, Nat.succ_mul]
  have h1 := h x (List.mem_cons_self ..)
  have h2 := flatMap_le l fun y hy => h y (List.mem_cons_of_mem _ hy)
  omega
theorem heatsAll_len {top rise : Int} (ht : top ≤ 5) : ∀ (n : Nat) (b : Int), (heatsAll top rise n b).length ≤ 6 ^ n
 | 0, b => by simp [heatsAll]
 | n + 1, b => by
  rw [heatsAll]
  have h1 := flatMap_le (f := fun (h : Nat) => (heatsAll top rise n h).map ((h : Int) :: ·)) (k := 6 ^ n) (List.range (min top (b + rise) + 1).toNat) fun x _ => by
   rw [List.length_map]; exact heatsAll_len ht n x
  rw [List.length_range] at h1
  have h2 : (min top (b + rise) + 1).toNat ≤ 6 := by omega
  have h3 := Nat.mul_le_mul_right (6 ^ n) h2
  rw [Nat.pow_succ, Nat.mul_comm (6 ^ n) 6]
  omega
theorem heats_len {s : St} (h : Ok s) : (heatsS s).length ≤ 1296 := by
 have h1 := heatsAll_len (rise := s.rise) h.t5 s.days.toNat s.now
 have h2 : 6 ^ s.days.toNat ≤ 6 ^ 4 := Nat.pow_le_pow_right (by decide) (by have := h.d4; omega)
 have h3 : 6 ^ 4 = 1296 := by decide
 unfold heatsS
 omega
end Go.Mz

