/- Lemmas on which the claim leans. -/
import Derived.Test.YtfnjganjlkoehaaGreatDoorMzLa
namespace Go.Mz
open Go
structure OkX (s : Sw) (xs : List Want) (l : List Int) : Prop where
 a : ∀ k, k < s.loaves.length → tkN xs k + l.getD k 0 ≤ s.stock.getD k 0
 b : ∀ k, k < s.loaves.length → tksN k xs ≤ l.getD k 0 * sumL (s.loaves.getD k []) + suN s xs k
 c : tksN (-1) xs ≤ sumL (sugarD s xs l)
theorem okX_iff {s : Sw} (hok : SOk s) {w : List Nat} {l : List Int} : okW s w l = true ↔ OkX s (wantsOf s w) l := by
 rw [okW_iff hok]
 exact ⟨fun ⟨h1, h2, h3⟩ => ⟨h1, h2, h3⟩, fun h => ⟨h.a, h.b, h.c⟩⟩
theorem cones_eq {s : Sw} (hok : SOk s) (w : List Nat) (l : List Int) : sumL (planW s w l).t = sumL ((List.range s.loaves.length).map fun k => tkN (wantsOf s w) k + l.getD k 0) := by
 rw [planW_eq hok, sum3]
 have h1 := hok.l1
 have h3 := hok.l3
 have far : ∀ k, s.loaves.length ≤ k → tkN (wantsOf s w) k = 0 := fun k hk => by
  unfold tkN
  rw [show List.countP (isTk k) (wantsOf s w) = 0 from List.countP_eq_zero.2 fun x hx => by
   have := (wants_mem hok hx).k1
   unfold isTk
   simp
   omega]
  rfl
 have : s.loaves.length = 1 ∨ s.loaves.length = 2 ∨ s.loaves.length = 3 := by omega
 rcases this with e | e | e
 ·rw [e]
  simp [List.range_succ, lfN, e, far 1 (by omega), far 2 (by omega), sumL]
 ·rw [e]
  simp [List.range_succ, lfN, e, far 2 (by omega), sumL]
 ·rw [e]
  simp [List.range_succ, lfN, e, sumL]
theorem plan_in {s : Sw} (hok : SOk s) {w : List Nat} {l : List Int} (hl : l.length = s.stock.length) (h0 : ∀ k, k < s.stock.length → 0 ≤ l.getD k 0) (h : OkX s (wantsOf s w) l) : l ∈ plansW s w := by
 refine (plans_iff hok).2 ⟨mem_lists hl fun k hk => ⟨h0 k hk, ?_⟩, (okX_iff hok).2 h⟩
 have := h.a k (by have := hok.st; omega)
 have := (tkN_bd (wantsOf s w) k).1
 omega
theorem plan_out {s : Sw} (hok : SOk s) {w : List Nat} {l : List Int} (h : l ∈ plansW s w) : l.length = s.stock.length ∧ (∀ k, 0 ≤ l.getD k 0) ∧ OkX s (wantsOf s w) l := by
 obtain ⟨h1, h2⟩ := (plans_iff hok).1 h
 obtain ⟨h3, h4⟩ := listsW_mem h1
 exact ⟨h3, fun k => (h4 k).1, (okX_iff hok).1 h2⟩
theorem served_by {s s' : Sw} (hok : SOk s) (hok' : SOk s') {w w' : List Nat} {c : Cr} (hc : crushW s w = some c)
  (H : ∀ l : List Int, l.length = s.stock.length → (∀ k, 0 ≤ l.getD k 0) → OkX s (wantsOf s w) l → ∃ l' : List Int, l'.length = s'.stock.length ∧ (∀ k, k < s'.stock.length → 0 ≤ l'.getD k 0) ∧ OkX s' (wantsOf s' w') l' ∧ sumL ((List.range s'.loaves.length).map fun k => tkN (wantsOf s' w') k + l'.getD k 0) ≤ sumL ((List.range s.loaves.length).map fun k => tkN (wantsOf s w) k + l.getD k 0)) :
  ∃ c', crushW s' w' = some c' ∧ c'.c ≤ c.c := by
 obtain ⟨⟨l, hl, rfl⟩, _⟩ := crush_min hc
 obtain ⟨h1, h2, h3⟩ := plan_out hok hl
 obtain ⟨l', g1, g2, g3, g4⟩ := H l h1 h2 h3
 obtain ⟨c', hc', hle⟩ := crush_le (plan_in hok' g1 g2 g3)
 refine ⟨c', hc', ?_⟩
 rw [cones_eq hok'] at hle
 show c'.c ≤ sumL (planW s w l).t
 rw [cones_eq hok]
 omega
theorem fewer_plan {s : Sw} (hok : SOk s) {A B : List Want} {x : Want} (hx : WtOk s.loaves x) {l : List Int} (hl : l.length = s.stock.length) (h0 : ∀ k, 0 ≤ l.getD k 0) (h : OkX s (A ++ x :: B) l) :
  ∃ l' : List Int, l'.length = s.stock.length ∧ (∀ k, k < s.stock.length → 0 ≤ l'.getD k 0) ∧ OkX s (A ++ B) l' ∧ sumL ((List.range s.loaves.length).map fun k => tkN (A ++ B) k + l'.getD k 0) ≤ sumL ((List.range s.loaves.length).map fun k => tkN (A ++ x :: B) k + l.getD k 0) := by
 have et : ∀ k, tkN (A ++ x :: B) k = tkN (A ++ B) k + if isTk k x then 1 else 0 := fun k => by
  rw [tkN_app, tkN_app, tkN_cons]; omega
 have es : ∀ k, suN s (A ++ x :: B) k = suN s (A ++ B) k + if isTp k x then restW s x else 0 := fun k => by
  rw [suN_app, suN_app, suN_cons]; omega
 have ek : ∀ k, tksN k (A ++ x :: B) = tksN k (A ++ B) + if isTks k x then x.amount else 0 := fun k => by
  rw [tksN_app, tksN_app, tksN_cons]; omega
 have ha : 0 ≤ x.amount := by have := hx.a0; unfold wLo at this; split at this <;> omega
 have hks : ∀ k, tksN k (A ++ B) ≤ tksN k (A ++ x :: B) := fun k => by rw [ek]; split <;> omega
 obtain ⟨r0, r1⟩ := rest_le hok x
 have hst := hok.st
 by_cases h2 : x.sort = 2
 ·have hk0 : 0 ≤ x.kind := by have := hx.k0; unfold wKd at this; rw [if_neg (by omega)] at this; exact this
  have hk1 := hx.k1
  obtain ⟨n, hn⟩ : ∃ n : Nat, x.kind = (n : Int) := ⟨x.kind.toNat, by omega⟩
  have hnl : n < s.loaves.length := by omega
  have itk : ∀ k : Nat, isTk k x = decide (k = n) := fun k => by
   unfold isTk
   rw [h2, hn, Bool.eq_iff_iff]
   simp
   omega
  have itp : ∀ k : Nat, isTp k x = decide (k = n) := fun k => by
   unfold isTp
   rw [h2, hn, Bool.eq_iff_iff]
   simp
   omega
  have r2 : restW s x ≤ sumL (s.loaves.getD n []) := by
   have e : loafAt s x.kind = s.loaves.getD n [] := by unfold loafAt; rw [hn]; rfl
   rw [← e]; exact r1
  have hg : ∀ k, (l.modify n (· + 1)).getD k 0 = l.getD k 0 + if k = n then (if n < l.length then 1 else 0) else 0 := fun k => by
   rw [List.getD_eq_getElem?_getD, List.getElem?_modify, List.getD_eq_getElem?_getD]
   by_cases e : n = k
   ·subst e
    rw [if_pos rfl]
    by_cases hb : n < l.length
    ·rw [List.getElem?_eq_getElem hb, if_pos hb]; simp
    ·rw [List.getElem?_eq_none (by omega), if_neg hb]; rfl
   ·rw [if_neg (fun h => e h.symm)]; simp [e]
  rw [if_pos (show n < l.length by omega)] at hg
  have e1 : ∀ k, tkN (A ++ B) k + (l.modify n (· + 1)).getD k 0 = tkN (A ++ x :: B) k + l.getD k 0 := fun k => by
   rw [hg, et, itk]
   by_cases e : k = n
   ·simp [e]; omega
   ·simp [e]
  have e2 : ∀ k, l.getD k 0 * sumL (s.loaves.getD k []) + suN s (A ++ x :: B) k ≤ (l.modify n (· + 1)).getD k 0 * sumL (s.loaves.getD k []) + suN s (A ++ B) k := fun k => by
   rw [hg, es, itp]
   by_cases e : k = n
   ·subst e
    simp only [decide_true, if_true]
    rw [Int.add_mul]
    omega
   ·simp [e]
  refine ⟨l.modify n (· + 1), by rw [List.length_modify]; exact hl, fun k _ => ?_, ⟨fun k hk => ?_, fun k hk => ?_, ?_⟩, ?_⟩
  ·rw [hg]; have := h0 k; split <;> omega
  ·rw [e1]; exact h.a k hk
  ·have := h.b k hk; have := e2 k; have := hks k; omega
  ·have h1 := h.c
   have h3 := hks (-1)
   have : sumL (sugarD s (A ++ x :: B) l) ≤ sumL (sugarD s (A ++ B) (l.modify n (· + 1))) := sum_map_le fun k hk => e2 k
   omega
  ·exact sum_map_le fun k hk => by rw [e1]; exact Int.le_refl _
 ·have e1 : ∀ k, tkN (A ++ B) k ≤ tkN (A ++ x :: B) k := fun k => by rw [et]; split <;> omega
  have e2 : ∀ k, suN s (A ++ x :: B) k = suN s (A ++ B) k := fun k => by
   rw [es, if_neg (by unfold isTp; simp [h2])]; omega
  refine ⟨l, hl, fun k _ => h0 k, ⟨fun k hk => ?_, fun k hk => ?_, ?_⟩, ?_⟩
  ·have := h.a k hk; have := e1 k; omega
  ·have h4 := h.b k hk; have h5 := hks k; rw [e2] at h4; omega
  ·have h1 := h.c
   have h3 := hks (-1)
   have : sumL (sugarD s (A ++ x :: B) l) ≤ sumL (sugarD s (A ++ B) l) := sum_map_le fun k hk => by rw [e2]; exact Int.le_refl _
   omega
  ·exact sum_map_le fun k hk => by have := e1 k; omega
theorem wantsOf_app (s : Sw) (a b : List Nat) : wantsOf s (a ++ b) = wantsOf s a ++ wantsOf s b := by unfold wantsOf; rw [List.filterMap_append]
theorem fewer_crush {s : Sw} (hok : SOk s) {a b : List Nat} {i : Nat} (hi : i < s.wants.length) {c : Cr} (hc : crushW s (a ++ i :: b) = some c) : ∃ c', crushW s (a ++ b) = some c' ∧ c'.c ≤ c.c := by
 have e1 : wantsOf s (a ++ i :: b) = wantsOf s a ++ s.wants[i] :: wantsOf s b := by
  rw [wantsOf_app]
  congr 1
  unfold wantsOf
  rw [List.filterMap_cons, List.getElem?_eq_getElem hi]
 refine served_by hok hok hc fun l hl h0 h => ?_
 rw [e1] at h ⊢
 rw [wantsOf_app]
 exact fewer_plan hok (hok.wt _ (List.getElem_mem hi)) hl h0 h
end Go.Mz


namespace Go.Mz
open Go
end Go.Mz


namespace Go.Mz
open Go
section
variable {s s' : Sw} {f g : Nat → Nat}
variable {xs : List Want} (hxs : ∀ x ∈ xs, WtOk s.loaves x)
include hxs
end
end Go.Mz


namespace Go.Mz
open Go
end Go.Mz


namespace Go.Mz
open Go
end Go.Mz


set_option maxRecDepth 100000
namespace Go.Mz
open Go.Conc Go.Proofs
variable {X : Logic Tryz.prog}
end Go.Mz


namespace Go.Mz
open Go
def choS (n k i : Nat) (out : List (List Nat)) : List (List Nat) := out.flatMap fun x =>
 (List.range' (match x.getLast? with | some y => y + 1 | none => 0) (n - k + i + 1 - (match x.getLast? with | some y => y + 1 | none => 0))).map fun y => x ++ [y]
def choI (n k i : Nat) : List (List Nat) := (List.range i).foldl (fun out i => choS n k i out) [[]]
def choL (n k : Nat) : List (List Nat) := choI n k k
def fstC (x : List Nat) : Nat := match x.getLast? with | some y => y + 1 | none => 0
theorem choI_succ (n k i : Nat) : choI n k (i + 1) = (choI n k i).flatMap fun x => (List.range' (fstC x) (n - k + i + 1 - fstC x)).map fun y => x ++ [y] := by
 unfold choI
 rw [List.range_succ, List.foldl_append]
 rfl
theorem choI_tab : ∀ n, n ≤ 5 → ∀ k, k ≤ n → ∀ i, i ≤ k → (choI n k i).length ≤ 10 ∧ ∀ x ∈ choI n k i, x.length = i ∧ fstC x ≤ 5 := by decide +kernel
def subsW (n : Nat) : List (List Nat) := (List.range (n + 1)).flatMap fun k => choL n k
def ascB : List Nat → Bool
 | [] => true
 | [_] => true
 | a :: b :: l => decide (a < b) && ascB (b :: l)
theorem ascB_asc : ∀ {w : List Nat}, ascB w = true → Asc w
 | [], _ => .nil
 | [a], _ => List.pairwise_singleton _ _
 | a :: b :: l, h => by
  rw [ascB, Bool.and_eq_true, decide_eq_true_eq] at h
  have ih := ascB_asc h.2
  refine List.pairwise_cons.2 ⟨fun y hy => ?_, ih⟩
  rcases List.mem_cons.1 hy with rfl | hy
  ·exact h.1
  ·have := (List.pairwise_cons.1 ih).1 y hy; omega
theorem subs_tab : ∀ n, n ≤ 5 → ((subsW n).all fun w => ascB w && w.all (decide <| · < n)) = true ∧ ((picksW n n).all fun w => (subsW n).contains w) = true ∧ (subsW n).length ≤ 32 := by decide +kernel
theorem subs_mem {n : Nat} (hn : n ≤ 5) {w : List Nat} : w ∈ subsW n ↔ w ∈ picksW n n := by
 obtain ⟨h1, h2, _⟩ := subs_tab n hn
 constructor
 ·intro h
  have := List.all_eq_true.1 h1 w h
  rw [Bool.and_eq_true, List.all_eq_true] at this
  refine (picksW_mem (Nat.le_refl n)).2 ⟨ascB_asc this.1, fun i hi => ⟨by omega, ?_⟩⟩
  simpa using this.2 i hi
 ·intro h
  simpa using List.all_eq_true.1 h2 w h
theorem subs_len {n : Nat} (hn : n ≤ 5) : (subsW n).length ≤ 32 := (subs_tab n hn).2.2
end Go.Mz


set_option maxRecDepth 100000
namespace Go.Mz
open Go.Conc Go.Proofs
variable {X : Logic Tryz.prog}
theorem GrowL.one_at {α : Type} {L : LH} {k b : Nat} {enc : α → List Value} {l : List α} {a : Option Addr} {c e : Nat} (hl : SlAt L a k enc l) (hcp : l.length ≤ c) (hb : L b = none) : RowsAt (L.put b (.cells #[.slice a l.length c] e)) (some ⟨b, 0, none⟩) k enc [l] :=
 ((GrowL.one (e := e) (c := c) hl hcp (Le.put hb _) (put_same _ _ _) hb).at).2
theorem Choose_sp (n k : Nat) (L : LH) (hn : n ≤ 5) (hk : k ≤ n) :
  Sp X 108 [.int .i64 n, .int .i64 k] L (fun v L' => ∃ a c, v = .slice a ((choL n k).map natI).length c ∧ Le L L' ∧ RowsAt L' a 1 encI ((choL n k).map natI)) := by
 refine Sp.enter (n := 57) Tryz.func108 rfl rfl rfl rfl fun C hX _ hL0 r => ?_
 refine W.go 99 rfl ?_
 refine W.pub 5 (.inr ⟨_, _, _, rfl⟩) rfl rfl ?_
 intro b0 hb0 _
 have hr0 : RowsAt (L.put b0 (.cells #[.slice none 0 0] 23)) (some ⟨b0, 0, none⟩) 1 encI ((choI n k 0).map natI) := GrowL.one_at (l := ([] : List Int)) SlAt.empty (Nat.le_refl _) hb0
 refine W.loop (fun w E B L' => ∃ (i : Nat) (a : Option Addr) (c : Nat), w = k - i ∧ i ≤ k ∧ Le L L' ∧ RowsAt L' a 1 encI ((choI n k i).map natI) ∧
   E = [(0, .v (.int .i64 n)), (1, .v (.int .i64 k)), (5, .v (.slice a ((choI n k i).map natI).length c)), (6, .v (.int .i64 i))] ∧ B = [])
  ⟨0, _, 1, rfl, by omega, Le.put hb0 _, hr0, rfl, rfl⟩ (by exact ⟨rfl, rfl, rfl, rfl, trivial⟩) trivial ?_
 rintro _ _ _ L1 ⟨i, a, c, rfl, hi, hl1, hrows, rfl, rfl⟩ again
 refine W.go 99 rfl ?_
 refine W.split rfl rfl rfl (fun e1 => W.go 99 rfl ?_) (fun e1 => W.go 99 rfl ?_)
 ·have hik : i < k := by simpa using e1
  obtain ⟨hsl, hmem⟩ := choI_tab n hn k hk i hi
  have hstep := choI_succ n k i
  generalize choI n k i = S at hrows hsl hmem hstep
  refine W.loop (fun w E B L' => ∃ (j : Nat) (v : Value) (F : LH) (rs : List (Rw Int)), w = S.length - j ∧ j ≤ S.length ∧ Le L1 F ∧ rs.map Prod.snd = ((S.take j).flatMap fun x => (List.range' (fstC x) (n - k + i + 1 - fstC x)).map fun y => x ++ [y]).map natI ∧ rs.length ≤ j * 6 ∧ Grow F 1 23 encRw L' v rs ∧ (∀ x ∈ rs, RwOk F 1 encI x) ∧
    E = [(0, .v (.int .i64 n)), (1, .v (.int .i64 k)), (5, .v (.slice a (S.map natI).length c)), (6, .v (.int .i64 i)), (7, .v v), (8, .v (.int .i64 j))] ∧ B = [])
   ⟨0, _, L1, [], rfl, by omega, Le.refl _, rfl, by simp, Grow.nil (Le.refl _), (fun x hx => by cases hx), rfl, rfl⟩ (by exact ⟨rfl, rfl, rfl, rfl, rfl, rfl, trivial⟩) trivial ?_
  rintro _ _ _ L2 ⟨j, v, F, rs, rfl, hj, hLF, hrs, hrl, hgr, hrk, rfl, rfl⟩ again2
  refine W.go 99 rfl ?_
  refine W.split rfl rfl rfl (fun e2 => W.go 99 rfl ?_) (fun e2 => W.go 99 rfl ?_)
  ·have hjl : j < S.length := by simp at e2; omega
   obtain ⟨x, hx⟩ : ∃ x, S[j]? = some x := ⟨_, List.getElem?_eq_getElem hjl⟩
   obtain ⟨hxl, hxf⟩ := hmem x (List.mem_of_getElem? hx)
   have hjm : j < (S.map natI).length := by simpa using hjl
   obtain ⟨a', rfl⟩ := hrows.addr hjm
   obtain ⟨xa, xc, hxc, hxs, _⟩ := hrows.row (i := j) (l := natI x) (by rw [List.getElem?_map, hx]; rfl)
   have hnx : (natI x).length = x.length := by simp [natI]
   have hL12 : Le L1 L2 := hLF.trans hgr.1
   apply W.cut (fun E B L' => L2 = L' ∧ SubE E [(0, .v (.int .i64 n)), (1, .v (.int .i64 k)), (5, .v (.slice (some a') (S.map natI).length c)), (6, .v (.int .i64 i)), (7, .v v), (8, .v (.int .i64 j)), (10, .v (.int .i64 (fstC x)))] ∧ PreB B [])
   rotate_left
   ·intro rest
    refine W.split rfl rfl rfl (fun e3 => W.go 99 rfl ?_) (fun e3 => W.go 99 rfl ?_)
    ·have hi0 : 0 < i := by simpa using e3
     have hix : i - 1 < (natI x).length := by omega
     refine W.vf rfl rfl rfl rfl (Vf.idx1 rfl rfl rfl rfl rfl rfl rfl (hjm)) ?_
     refine W.vf rfl rfl rfl rfl (Vf.load rfl rfl rfl (hL12.cell hxc)) ?_
     refine W.go 99 rfl ?_
     rw [wrap64_in _ (by omega) (by omega), show (i : Int) - 1 = ((i - 1 : Nat) : Int) by omega]
     obtain ⟨xa', rfl⟩ := hxs.addr hix
     refine W.vf rfl rfl rfl rfl (Vf.idx1 rfl rfl rfl rfl rfl rfl rfl (hix)) ?_
     have hlast : fstC x = x[i - 1]'(by omega) + 1 := by unfold fstC; rw [List.getLast?_eq_getElem?, show x.length - 1 = i - 1 by omega, List.getElem?_eq_getElem (by omega)]
     refine W.vf rfl rfl rfl rfl (Vf.load rfl rfl rfl ((hxs.le hL12).int (x := ((x[i - 1]'(by omega) : Nat) : Int)) (by rw [natI, List.getElem?_map, List.getElem?_eq_getElem (show i - 1 < x.length by omega)]; rfl))) ?_
     refine W.go 99 rfl ?_
     have hw : IntKind.i64.wrap (((x[i - 1]'(by omega) : Nat) : Int) + 1) = (fstC x : Int) := by rw [hlast, wrap64_in _ (by omega) (by omega)]; omega
     rw [hw]
     exact rest _ _ _ ⟨rfl, by exact ⟨rfl, rfl, rfl, rfl, rfl, rfl, rfl, trivial⟩, by trivial⟩
    ·have hi0 : i = 0 := by simp at e3; omega
     have hx0 : fstC x = 0 := by
      have : x = [] := List.length_eq_zero_iff.1 (by omega)
      rw [this]; rfl
     exact rest _ _ _ ⟨rfl, by exact ⟨rfl, rfl, rfl, rfl, rfl, rfl, congrArg (fun (n : Nat) => some (SV.v (.int .i64 n))) hx0.symm, trivial⟩, by trivial⟩
   rintro E B _ ⟨rfl, hE, hB⟩
   refine W.weak hE hB ?_
   refine W.loop (fun w E B L' => ∃ (y : Nat) (v : Value) (F' : LH) (rs' : List (Rw Int)), w = n - k + i + 1 - fstC x - y ∧ y ≤ n - k + i + 1 - fstC x ∧ Le F F' ∧ rs'.map Prod.snd = rs.map Prod.snd ++ ((List.range' (fstC x) y).map fun y => x ++ [y]).map natI ∧ rs'.length = rs.length + y ∧ Grow F' 1 23 encRw L' v rs' ∧ (∀ x ∈ rs', RwOk F' 1 encI x) ∧
     E = [(0, .v (.int .i64 n)), (1, .v (.int .i64 k)), (5, .v (.slice (some a') (S.map natI).length c)), (6, .v (.int .i64 i)), (7, .v v), (8, .v (.int .i64 j)), (10, .v (.int .i64 ((fstC x + y : Nat) : Int)))] ∧ B = [])
    ⟨0, v, F, rs, rfl, by omega, Le.refl _, by simp, by omega, hgr, hrk, rfl, rfl⟩ (by exact ⟨rfl, rfl, rfl, rfl, rfl, rfl, rfl, trivial⟩) trivial ?_
   clear hgr hrk
   rintro _ _ _ L3 ⟨y, v, F3, rs3, rfl, hy, hFF3, hrs3, hrl3, hgr3, hrk3, rfl, rfl⟩ again3
   have hL13 : Le L1 L3 := hLF.trans (hFF3.trans hgr3.1)
   refine W.go 99 rfl ?_
   rw [wrap64_in ((n : Int) - k) (by omega) (by omega), wrap64_in ((n : Int) - k + i) (by omega) (by omega)]
   refine W.split rfl rfl rfl (fun e3 => W.go 99 rfl ?_) (fun e3 => W.go 99 rfl ?_)
   ·have hyn : y < n - k + i + 1 - fstC x := by simp at e3; omega
    refine W.vf rfl rfl rfl rfl (Vf.idx1 rfl rfl rfl rfl rfl rfl rfl (hjm)) ?_
    refine W.vf rfl rfl rfl rfl (Vf.load rfl rfl rfl (hL13.cell hxc)) ?_
    refine W.go 99 rfl ?_
    refine W.eff rfl rfl rfl (Ef.call rfl (DupInts_sp xa xc (natI x) L3 (hxs.le hL13) (by omega))) ?_
    rintro _ _ _ ⟨_, rfl, rfl, hg1⟩
    rename_i L4 _
    obtain ⟨da, dc, rfl, -⟩ := hg1.slice
    refine W.go 99 rfl ?_
    refine W.eff rfl rfl rfl (Ef.grow rfl rfl rfl rfl rfl rfl rfl rfl rfl encI_len encI_sg hg1 (ls := [((fstC x + y : Nat) : Int)]) (.own rfl rfl rfl rfl) (by simp; omega)) ?_
    rintro _ _ _ ⟨v1, rfl, rfl, hg2, -⟩
    rename_i L5
    have hg2 : Grow L3 1 3 encI L5 v1 (natI (x ++ [fstC x + y])) := by rw [natI_snoc]; exact hg2
    obtain ⟨wa, wc, rfl, hwc⟩ := hg2.slice
    obtain ⟨F5, hFF5, hF5L, hw5, hf5⟩ := hg2.foot encI_len hgr3.1
    have hgr5 : Grow F5 1 23 encRw L5 v rs3 := hgr3.rebase hg2.1 hF5L hf5
    refine W.go 99 rfl ?_
    refine W.eff rfl rfl rfl (Ef.grow rfl rfl rfl rfl rfl rfl rfl rfl rfl encRw_len encRw_sg hgr5 (ls := [((wa, (natI (x ++ [fstC x + y])).length, wc), natI (x ++ [fstC x + y]))]) (.own rfl rfl rfl rfl) (by simp; omega)) ?_
    rintro _ _ _ ⟨v2, rfl, rfl, hg6, -⟩
    refine W.go 99 rfl ?_
    refine W.again (again3 _ _ _ _ (by omega) ⟨y + 1, v2, F5, _, rfl, by omega, hFF3.trans hFF5, ?_, by simp; omega, hg6, ?_, rfl, rfl⟩) ⟨rfl, rfl, rfl, rfl, rfl, rfl, congrArg some (inc64 (by omega)), trivial⟩ trivial
    ·rw [List.map_append, hrs3, List.range'_concat]
     simp only [List.map_append, List.map_cons, List.map_nil, List.append_assoc, Nat.one_mul]
    ·intro z hz
     rcases List.mem_append.1 hz with hz | hz
     ·exact (hrk3 z hz).le hFF5
     ·rw [List.mem_singleton.1 hz]; exact ⟨hw5, rfl, hwc⟩
   ·have hye : y = n - k + i + 1 - fstC x := by simp at e3; omega
    refine W.again (again2 _ _ _ _ (by omega) ⟨j + 1, v, F3, rs3, rfl, by omega, hLF.trans hFF3, ?_, by omega, hgr3, hrk3, rfl, rfl⟩) ⟨rfl, rfl, rfl, rfl, rfl, congrArg some (inc64 (by omega)), trivial⟩ trivial
    obtain ⟨_, rfl⟩ := List.getElem?_eq_some_iff.1 hx
    rw [hrs3, hrs, List.take_succ_eq_append_getElem hjl, List.flatMap_append, List.flatMap_singleton, List.map_append, hye]
  ·have hje : j = S.length := by simp at e2; omega
   subst hje
   rw [List.take_length, ← hstep] at hrs
   have hgL : GrowL L1 23 1 encI L2 v ((choI n k (i + 1)).map natI) := ⟨F, rs, hLF, hrs, hgr, hrk⟩
   obtain ⟨va, vc, rfl⟩ := hgL.slice
   refine W.again (again _ _ _ _ (by omega) ⟨i + 1, va, vc, rfl, by omega, hl1.trans hgL.hle, hgL.at.2, rfl, rfl⟩) ⟨rfl, rfl, rfl, congrArg some (inc64 (by omega)), trivial⟩ trivial
 ·have hie : i = k := by simp at e1; omega
  subst hie
  refine W.ret r rfl rfl ?_
  exact ⟨a, c, rfl, hl1, hrows⟩
end Go.Mz


set_option maxRecDepth 100000
namespace Go.Mz
open Go.Conc Go.Proofs
variable {X : Logic Tryz.prog}
theorem lPays_sp (s : Sw) (p : Wp) (wa : Option Addr) (wc : Nat) (w : List Nat) (L : LH) (hs : SwAt L s p) (hok : SOk s) (hwl : IntsAt L wa (natI w)) (hw : WnOk s w) (n1 : w.length ≤ 100) :
  Sp X 63 [swA s p, .slice wa w.length wc] L (fun v L' => v = .int .i64 (payW s w) ∧ L = L') := by
 refine Sp.enter (n := 25) Tryz.func63 rfl rfl rfl rfl fun C hX _ hL0 r => ?_
 refine W.go 99 rfl ?_
 refine W.loop (fun m E B L' => ∃ j : Nat, m = w.length - j ∧ j ≤ w.length ∧ L = L' ∧ E = [(1, .v (.slice wa w.length wc)), (2, .p 0 0), (5, .v (.int .i64 (payW s (w.take j)))), (6, .v (.int .i64 j))] ∧ B = [some ⟨cellsS (.v (swA s p)), 26⟩])
  ⟨0, rfl, by omega, rfl, rfl, rfl⟩ (by exact ⟨rfl, rfl, rfl, rfl, trivial⟩) (by exact ⟨rfl, trivial⟩) ?_
 rintro _ _ _ _ ⟨j, rfl, hj, rfl, rfl, rfl⟩ again
 refine W.go 99 rfl ?_
 refine W.split rfl rfl rfl (fun e1 => W.go 99 rfl ?_) (fun e1 => W.go 99 rfl ?_)
 ·have hjl : j < w.length := by simpa using e1
  have hwj : w[j]? = some w[j] := List.getElem?_eq_getElem hjl
  have hi := hw _ (List.mem_of_getElem? hwj)
  have htk : w.take (j + 1) = w.take j ++ [w[j]] := List.take_succ_eq_append_getElem hjl
  generalize w[j] = i at *
  have hx : s.wants[i]? = some s.wants[i] := List.getElem?_eq_getElem hi
  have hpb := pay_bd hok (w.take j)
  have hpc := pay_bd hok (w.take (j + 1))
  rw [htk, payW_snoc hx] at hpc
  simp only [List.length_append, List.length_take, List.length_singleton] at hpc
  obtain ⟨lad, rfl⟩ := hwl.addr (show j < (natI w).length by rw [natI_len]; exact hjl)
  obtain ⟨wad, hwa⟩ := hs.wt.addr hi
  have hwt := hs.wt
  rw [hwa] at hwt
  have hpy : L.cell? ((wad.add (i * 4)).add 3) = some (.int .i64 s.wants[i].pay) := by rw [add_add]; exact hwt.get hx (j := 3) rfl
  obtain ⟨qa, qb, qc, qd, qe, qf⟩ := p
  obtain rfl : qc = some wad := hwa
  refine W.drawn (by kernel_rfl) _ (Le.refl _) ?_
  refine DD.run' [0, 1, 2, 3, 4] rfl ?_
  refine DD.vf 5 rfl rfl rfl rfl rfl (Vf.idx1 rfl rfl rfl rfl rfl rfl rfl (hjl)) ?_
  refine DD.vf 6 rfl rfl rfl rfl rfl (Vf.load rfl rfl rfl (hwl.int (x := (i : Int)) (by rw [natI_get, hwj]; rfl))) ?_
  refine DD.vf 7 rfl rfl rfl rfl rfl (Vf.idx rfl rfl rfl rfl rfl rfl (hi)) ?_
  refine DD.run' [8] rfl ?_
  refine DD.vf 9 rfl rfl rfl rfl rfl (Vf.load rfl rfl rfl (hpy)) ?_
  refine DD.run' [10, 11] rfl ?_
  refine .fin rfl ?_
  refine W.go 99 rfl ?_
  exact W.again (again _ _ _ _ (by omega) ⟨j + 1, rfl, by omega, rfl, rfl, rfl⟩) (by exact ⟨rfl, rfl, congrArg some (w64 (by rw [htk, payW_snoc hx]) (by rw [htk, payW_snoc hx]; omega) (by rw [htk, payW_snoc hx]; omega)), congrArg some (inc64 (by omega)), trivial⟩) (by exact ⟨rfl, trivial⟩)
 ·have hje : j = w.length := by simp at e1; omega
  subst hje
  refine W.ret r rfl rfl ?_
  rw [List.take_length]
  exact ⟨rfl, rfl⟩
theorem ltL_cons (a b : Nat) (l k : List Nat) : ltL (a :: l) (b :: k) = if a = b then ltL l k else decide (a < b) := by
 rw [ltL]
 by_cases e : a = b
 ·subst e; simp
 ·rw [if_neg e]; simp [e]
theorem ltL_drop {l k : List Nat} {i : Nat} (h : l.take i = k.take i) (h1 : i ≤ l.length) (h2 : i ≤ k.length) : ltL l k = ltL (l.drop i) (k.drop i) := by
 induction i generalizing l k with
 | zero => rfl
 | succ i ih =>
  cases l with
  | nil => simp at h1
  | cons a l =>
   cases k with
   | nil => simp at h2
   | cons b k =>
    rw [List.take_succ_cons, List.take_succ_cons, List.cons.injEq] at h
    rw [ltL_cons, if_pos h.1, List.drop_succ_cons, List.drop_succ_cons]
    exact ih h.2 (by simpa using h1) (by simpa using h2)
theorem Before_sp (aa ba : Option Addr) (ac bc : Nat) (a b : List Nat) (L : LH) (ha : IntsAt L aa (natI a)) (hb : IntsAt L ba (natI b)) (na : a.length ≤ 1000) (nb : b.length ≤ 1000) :
  Sp X 64 [.slice aa a.length ac, .slice ba b.length bc] L (fun v L' => v = .bool (ltL a b) ∧ L = L') := by
 refine Sp.enter (n := 34) Tryz.func64 rfl rfl rfl rfl fun C hX _ hL0 r => ?_
 refine W.go 99 rfl ?_
 refine W.loop (fun m E B L' => ∃ j : Nat, m = b.length - j ∧ j ≤ b.length ∧ j ≤ a.length ∧ a.take j = b.take j ∧ L = L' ∧ E = [(0, .v (.slice aa a.length ac)), (1, .v (.slice ba b.length bc)), (5, .v (.int .i64 j))] ∧ B = [])
  ⟨0, rfl, by omega, by omega, rfl, rfl, rfl, rfl⟩ (by exact ⟨rfl, rfl, rfl, trivial⟩) trivial ?_
 rintro _ _ _ _ ⟨j, rfl, hj, hja, htk, rfl, rfl, rfl⟩ again
 refine W.go 99 rfl ?_
 refine W.split rfl rfl rfl (fun e1 => W.go 99 rfl ?_) (fun e1 => W.go 99 rfl ?_)
 ·have hjb : j < b.length := by simpa using e1
  refine W.split rfl rfl rfl (fun e2 => W.go 99 rfl ?_) (fun e2 => W.go 99 rfl ?_)
  ·have hje : j = a.length := by simp at e2; omega
   exact W.ret r rfl rfl ⟨by rw [ltL_drop htk hja hj, List.drop_of_length_le (show a.length ≤ j by omega), List.drop_eq_getElem_cons hjb]; rfl, rfl⟩
  ·have hjl : j < a.length := by have : j ≠ a.length := (by simp at e2; omega); omega
   have hxa : (natI a)[j]? = some ((a[j] : Nat) : Int) := by rw [natI_get, List.getElem?_eq_getElem hjl]; rfl
   have hxb : (natI b)[j]? = some ((b[j] : Nat) : Int) := by rw [natI_get, List.getElem?_eq_getElem hjb]; rfl
   obtain ⟨aad, rfl⟩ := ha.addr (show j < (natI a).length by rw [natI_len]; exact hjl)
   obtain ⟨bad, rfl⟩ := hb.addr (show j < (natI b).length by rw [natI_len]; exact hjb)
   have hlt : ltL a b = if a[j] = b[j] then ltL (a.drop (j + 1)) (b.drop (j + 1)) else decide (a[j] < b[j]) := by
    rw [ltL_drop htk hja hj, List.drop_eq_getElem_cons hjl, List.drop_eq_getElem_cons hjb, ltL_cons]
   have hnx : a[j] = b[j] → a.take (j + 1) = b.take (j + 1) := fun e => take_next htk hjl hjb e
   generalize a[j] = x at *
   generalize b[j] = y at *
   refine W.drawn (by kernel_rfl) _ (Le.refl _) ?_
   refine DD.run' [0, 1, 4, 5] rfl ?_
   refine DD.vf 2 rfl rfl rfl rfl rfl (Vf.idx1 rfl rfl rfl rfl rfl rfl rfl (hjl)) ?_
   refine DD.vf 3 rfl rfl rfl rfl rfl (Vf.load rfl rfl rfl (ha.int hxa)) ?_
   refine DD.vf 6 rfl rfl rfl rfl rfl (Vf.idx1 rfl rfl rfl rfl rfl rfl rfl (hjb)) ?_
   refine DD.vf 7 rfl rfl rfl rfl rfl (Vf.load rfl rfl rfl (hb.int hxb)) ?_
   refine DD.run' [8] rfl ?_
   refine .fin rfl ?_
   refine W.go 99 rfl ?_
   refine W.split rfl rfl rfl (fun e3 => W.go 99 rfl ?_) (fun e3 => W.go 99 rfl ?_)
   ·have hne : x ≠ y := by simp at e3; omega
    refine W.drawn (by kernel_rfl) _ (Le.refl _) ?_
    refine DD.run' [0, 1, 4, 5] rfl ?_
    refine DD.vf 2 rfl rfl rfl rfl rfl (Vf.idx1 rfl rfl rfl rfl rfl rfl rfl (hjl)) ?_
    refine DD.vf 3 rfl rfl rfl rfl rfl (Vf.load rfl rfl rfl (ha.int hxa)) ?_
    refine DD.vf 6 rfl rfl rfl rfl rfl (Vf.idx1 rfl rfl rfl rfl rfl rfl rfl (hjb)) ?_
    refine DD.vf 7 rfl rfl rfl rfl rfl (Vf.load rfl rfl rfl (hb.int hxb)) ?_
    refine DD.run' [8, 9] rfl ?_
    refine .fin rfl ?_
    refine W.go 99 rfl ?_
    exact W.ret r rfl rfl ⟨by rw [hlt, if_neg hne]; simp; rfl, rfl⟩
   ·have heq : x = y := by simp at e3; omega
    refine W.go 99 rfl ?_
    exact W.again (again _ _ _ _ (by omega) ⟨j + 1, rfl, by omega, by omega, hnx heq, rfl, rfl, rfl⟩) (by exact ⟨rfl, rfl, congrArg some (inc64 (by omega)), trivial⟩) trivial
 ·have hje : j = b.length := by simp at e1; omega
  exact W.ret r rfl rfl ⟨by rw [ltL_drop htk hja hj, List.drop_of_length_le (l := b) (show b.length ≤ j by omega)]; cases a.drop j <;> rfl, rfl⟩
theorem findI_lt (w : List Nat) (k : Nat) : decide (findI (natI w) k < 0) = !w.contains k := by
 unfold findI
 rw [Bool.eq_iff_iff]
 cases h : (natI w).findIdx? (· == (k : Int)) with
 | none =>
  rw [List.findIdx?_eq_none_iff] at h
  have : w.contains k = false := by
   rw [← Bool.not_eq_true, List.contains_iff_mem]
   intro hm
   have := h k (List.mem_map.2 ⟨k, hm, rfl⟩)
   simp at this
  rw [this]
  simp
 | some i =>
  obtain ⟨x, hx, he⟩ := List.findIdx?_eq_some_iff_getElem.1 h
  have hm := List.getElem_mem x
  obtain ⟨y, hy, e⟩ := List.mem_map.1 hm
  have : w.contains k = true := by
   rw [List.contains_iff_mem]
   rw [beq_iff_eq, ← e] at hx
   have : y = k := by omega
   rw [← this]; exact hy
  rw [this]
  simp
theorem subs_flat (n k : Nat) (hk : k ≤ n) (h : n ≤ 5) : ((List.range k).flatMap fun k => choL n k).length ≤ k * 10 := by
 have := flat_le (l := List.range k) (f := fun k => choL n k) (k := 10)
 induction k with
 | zero => simp
 | succ k ih =>
  rw [List.range_succ, List.flatMap_append, List.flatMap_singleton, List.length_append]
  have h1 := ih (by omega) (flat_le (l := List.range k) (f := fun k => choL n k) (k := 10))
  have h2 := (choI_tab n h k (by omega) k (Nat.le_refl _)).1
  have : (choL n k).length ≤ 10 := h2
  omega
theorem subsets_sp (n : Nat) (L : LH) (hn : n ≤ 5) : Sp X 45 [.int .i64 n] L (NewRows L ((subsW n).map natI)) := by
 refine Sp.enter (n := 16) Tryz.func45 rfl rfl rfl rfl fun C hX _ hL0 r => ?_
 refine W.go 99 rfl ?_
 refine W.loop (fun w E B L' => ∃ (k : Nat) (v : Value), w = n + 1 - k ∧ k ≤ n + 1 ∧ GrowL L 23 1 encI L' v (((List.range k).flatMap fun k => choL n k).map natI) ∧
   E = [(0, .v (.int .i64 n)), (3, .v v), (4, .v (.int .i64 k))] ∧ B = [])
  ⟨0, _, rfl, by omega, GrowL.nil (Le.refl _), rfl, rfl⟩ (by exact ⟨rfl, rfl, rfl, trivial⟩) trivial ?_
 rintro _ _ _ L1 ⟨k, v, rfl, hk, hgr, rfl, rfl⟩ again
 refine W.go 99 rfl ?_
 refine W.split rfl rfl rfl (fun e2 => W.go 99 rfl ?_) (fun e2 => W.go 99 rfl ?_)
 ·have hkn : k ≤ n := by have : (k : Int) ≤ n := (by simpa using e2); omega
  obtain ⟨J, rs, hLJ, hrs, hgo, hrk⟩ := hgr
  have hch := Choose_sp (X := C.X) n k J hn hkn
  refine W.eff rfl rfl rfl (Ef.call rfl (hch.frame hgo.1)) ?_
  rintro _ _ _ ⟨v3, rfl, rfl, J2, ⟨oa, oc, rfl, hFJ, rs2, hrs2, hsl2, hrk2⟩, hpo⟩
  rename_i L4
  have hgJ := hgo.call hpo
  have hn2 := (choI_tab n hn k hkn k (Nat.le_refl _)).1
  have hrl2 : rs2.length = ((choL n k).map natI).length := by rw [← hrs2, List.length_map]
  have hrl : rs.length ≤ k * 10 := by
   have : rs.length = (((List.range k).flatMap fun k => choL n k).map natI).length := by rw [← hrs, List.length_map]
   rw [this, List.length_map]
   exact subs_flat n k hkn hn
  have hc10 : ((choL n k).map natI).length ≤ 10 := by rw [List.length_map]; exact hn2
  obtain ⟨va, vc, rfl, _⟩ := hgJ.slice
  refine W.go 99 rfl ?_
  refine W.eff rfl rfl rfl (Ef.grow rfl rfl rfl rfl rfl rfl rfl rfl rfl encRw_len encRw_sg hgJ (ls := rs2) (.sl (hsl2.le hpo.le) encRw_len (by rw [hrl2]; rfl)) (by omega)) ?_
  rintro _ _ _ ⟨v4, rfl, rfl, hg5, _⟩
  refine W.go 99 rfl ?_
  refine W.again (again _ _ _ _ (by omega) ⟨k + 1, v4, rfl, by omega, ⟨J2, rs ++ rs2, hLJ.trans hFJ, ?_, hg5, ?_⟩, rfl, rfl⟩) (by exact ⟨rfl, rfl, congrArg some (inc64 (by omega)), trivial⟩) trivial
  ·rw [List.map_append, hrs, hrs2, List.range_succ, List.flatMap_append, List.flatMap_singleton, List.map_append]
  ·intro z hz
   rcases List.mem_append.1 hz with hz | hz
   ·exact (hrk z hz).le hFJ
   ·exact hrk2 z hz
 ·have hkn : k = n + 1 := by have : ¬ (k : Int) ≤ n := (by simpa using e2); omega
  subst hkn
  obtain ⟨va, vc, rfl⟩ := hgr.slice
  refine W.ret r rfl rfl ?_
  exact ⟨va, vc, rfl, hgr.hle, hgr.at.2⟩
end Go.Mz


namespace Go.Mz
open Go
theorem ltL_total : ∀ {a b : List Nat}, ltL a b = false → ltL b a = false → a = b
 | [], [], _, _ => rfl
 | [], _ :: _, h, _ => by cases h
 | _ :: _, [], _, h => by cases h
 | a :: l, b :: k, h1, h2 => by
  rw [ltL, Bool.or_eq_false_iff, decide_eq_false_iff_not] at h1 h2
  obtain ⟨h1, h3⟩ := h1
  obtain ⟨h2, h4⟩ := h2
  have e : a = b := by omega
  subst e
  simp only [decide_true, Bool.true_and] at h3 h4
  rw [ltL_total h3 h4]
theorem ltB_total {s : Sw} {a b : Cr} (h1 : ltB s a b = false) (h2 : ltB s b a = false) : a.w = b.w ∧ payW s a.w = payW s b.w := by
 unfold ltB at h1 h2
 by_cases e : payW s a.w ≠ payW s b.w ∨ a.c ≠ b.c
 ·rw [if_pos e] at h1
  rw [if_pos (e.imp Ne.symm Ne.symm)] at h2
  simp only [Bool.or_eq_false_iff, decide_eq_false_iff_not, Bool.and_eq_false_imp, decide_eq_true_eq] at h1 h2
  exfalso
  have := h1.1
  have := h2.1
  have hp : payW s a.w = payW s b.w := by omega
  have := h1.2 hp
  have := h2.2 hp.symm
  rcases e with e | e
  ·exact e hp
  ·omega
 ·rw [if_neg e] at h1
  rw [if_neg (fun h => e (h.imp Ne.symm Ne.symm))] at h2
  have := ltL_total h1 h2
  exact ⟨this, by rw [this]⟩
theorem ltB_pay {s : Sw} {a b : Cr} (h : ltB s a b = false) : payW s a.w ≤ payW s b.w := by
 unfold ltB at h
 split at h
 ·simp only [Bool.or_eq_false_iff, decide_eq_false_iff_not] at h
  omega
 ·rename_i e
  have : payW s a.w = payW s b.w := Decidable.byContradiction fun h' => e (.inl h')
  omega
section
variable {s : Sw} (hok : SOk s) {M : List (List Nat)} (hM : ∀ w, w ∈ M ↔ w ∈ picksW s.wants.length s.wants.length)
include hok hM
theorem served_in (c : Cr) : c ∈ M.filterMap (crushW s) ↔ c ∈ (allW s).filterMap id := by
 rw [cand_iff hok, List.mem_filterMap]
 constructor
 ·rintro ⟨w, hw, hc⟩
  have hcw := (crushW_some hc).1
  rw [hcw]
  exact ⟨(hM w).1 hw, hc⟩
 ·rintro ⟨h1, h2⟩
  exact ⟨c.w, (hM _).2 h1, h2⟩
theorem best_in {c : Cr} (h : firstBy (ltB s) (M.filterMap (crushW s)) = some c) : bestW s (fun _ => true) = some c := by
 obtain ⟨h1, h2⟩ := firstBy_min (ltB_trans s) (ltB_irr s) _ _ h
 have hne : ((allW s).filterMap id).filter (fun _ => true) ≠ [] := List.ne_nil_of_mem (List.mem_filter.2 ⟨(served_in hok hM c).1 h1, rfl⟩)
 obtain ⟨d, hd⟩ := firstBy_some (lt := ltB s) hne
 have hd' : bestW s (fun _ => true) = some d := hd
 obtain ⟨g1, g2⟩ := firstBy_min (ltB_trans s) (ltB_irr s) _ _ hd
 have g1 := (List.mem_filter.1 g1).1
 have e := (ltB_total (g2 c (List.mem_filter.2 ⟨(served_in hok hM c).1 h1, rfl⟩)) (h2 d ((served_in hok hM d).2 g1))).1
 have c1 := ((cand_iff hok c).1 ((served_in hok hM c).1 h1)).2
 have d1 := ((cand_iff hok d).1 g1).2
 rw [e, d1] at c1
 cases c1
 exact hd'
theorem best_so (so : List Nat → Bool) (h0 : so [] = true) : payW s (crWants (bestW s so)) = mostW s (M.filter fun w => srvB s w && so w) := by
 obtain ⟨c0, hc0⟩ := crush_nil hok
 have m0 : c0 ∈ ((allW s).filterMap id).filter fun c => so c.w := by
  have hw := (crushW_some hc0).1
  refine List.mem_filter.2 ⟨(cand_iff hok c0).2 ⟨by rw [hw]; exact nil_picks _ _, by rw [hw]; exact hc0⟩, by rw [hw]; exact h0⟩
 obtain ⟨d, hd⟩ := firstBy_some (lt := ltB s) (List.ne_nil_of_mem m0)
 have hd' : bestW s so = some d := hd
 obtain ⟨g1, g2⟩ := firstBy_min (ltB_trans s) (ltB_irr s) _ _ hd
 obtain ⟨g1, g3⟩ := List.mem_filter.1 g1
 obtain ⟨g4, g5⟩ := (cand_iff hok d).1 g1
 rw [hd']
 show payW s d.w = _
 have in1 : d.w ∈ M.filter fun w => srvB s w && so w := List.mem_filter.2 ⟨(hM _).2 g4, by rw [Bool.and_eq_true]; exact ⟨by unfold srvB; rw [g5]; rfl, g3⟩⟩
 have h1 := mostW_le s _ _ in1
 obtain ⟨w, hw, hp⟩ := mostW_mem hok (M.filter fun w => srvB s w && so w) (List.ne_nil_of_mem in1)
 obtain ⟨w1, w2⟩ := List.mem_filter.1 hw
 rw [Bool.and_eq_true] at w2
 unfold srvB at w2
 obtain ⟨e, he⟩ := Option.isSome_iff_exists.1 w2.1
 have ew := (crushW_some he).1
 have := ltB_pay (g2 e (List.mem_filter.2 ⟨(cand_iff hok e).2 ⟨by rw [ew]; exact (hM w).1 w1, by rw [ew]; exact he⟩, by rw [ew]; exact w2.2⟩))
 rw [ew] at this
 omega
theorem best_all : payW s (crWants (bestW s fun _ => true)) = mostW s (M.filter (srvB s)) := by
 rw [best_so hok hM (fun _ => true) rfl]
 congr 1
 exact List.filter_congr fun w _ => by simp
def topL (s : Sw) (M : List (List Nat)) : List (List Nat) := M.filter fun w => srvB s w && payW s w == payW s (crWants (bestW s fun _ => true))
omit hok in
theorem top_mem {w : List Nat} : w ∈ topL s M ↔ w ∈ picksW s.wants.length s.wants.length ∧ srvB s w = true ∧ payW s w = payW s (crWants (bestW s fun _ => true)) := by
 unfold topL
 rw [List.mem_filter, Bool.and_eq_true, beq_iff_eq, hM]
theorem top_ne : topL s M ≠ [] := by
 obtain ⟨w, hw, hp⟩ := mostW_mem hok (M.filter (srvB s)) (List.ne_nil_of_mem (a := []) (List.mem_filter.2 ⟨(hM _).2 (nil_picks _ _), by
  obtain ⟨c, hc⟩ := crush_nil hok
  unfold srvB; rw [hc]; rfl⟩))
 obtain ⟨h1, h2⟩ := List.mem_filter.1 hw
 exact List.ne_nil_of_mem ((top_mem hM).2 ⟨(hM w).1 h1, h2, by rw [hp, best_all hok hM]⟩)
theorem verd_eq (i : Nat) : verdW s i = if (topL s M).all (·.contains i) then 1 else if (topL s M).any (·.contains i) then 3 else 2 := by
 have cl : ∀ (q : List Nat → Bool), (((allW s).filterMap id).filter fun c => payW s c.w == payW s (crWants (bestW s fun _ => true))).all (fun c => q c.w) = (topL s M).all q := fun q => by
  rw [Bool.eq_iff_iff, List.all_eq_true, List.all_eq_true]
  constructor
  ·intro h w hw
   obtain ⟨h1, h2, h3⟩ := (top_mem hM).1 hw
   unfold srvB at h2
   obtain ⟨e, he⟩ := Option.isSome_iff_exists.1 h2
   have ew := (crushW_some he).1
   have := h e (List.mem_filter.2 ⟨(cand_iff hok e).2 ⟨by rw [ew]; exact h1, by rw [ew]; exact he⟩, by rw [ew, beq_iff_eq]; exact h3⟩)
   rw [ew] at this
   exact this
  ·intro h c hc
   obtain ⟨h1, h2⟩ := List.mem_filter.1 hc
   obtain ⟨h3, h4⟩ := (cand_iff hok c).1 h1
   exact h c.w ((top_mem hM).2 ⟨h3, by unfold srvB; rw [h4]; rfl, by simpa using h2⟩)
 have hne := top_ne hok hM
 unfold verdW
 simp only
 rw [cl fun w => !w.contains i, cl fun w => w.contains i]
 obtain ⟨x, t, ht⟩ := List.exists_cons_of_ne_nil hne
 by_cases h1 : (topL s M).all (·.contains i) = true
 ·rw [if_pos h1, if_neg (by
   rw [List.all_eq_true] at h1 ⊢
   intro h2
   have a1 := h1 x (by rw [ht]; exact List.mem_cons_self)
   have a2 := h2 x (by rw [ht]; exact List.mem_cons_self)
   rw [a1] at a2; cases a2), if_pos h1]
 ·rw [if_neg h1, if_neg h1]
  by_cases h2 : (topL s M).any (·.contains i) = true
  ·rw [if_pos h2, if_neg (by
    rw [List.any_eq_true] at h2
    rw [List.all_eq_true]
    intro h3
    obtain ⟨y, hy, hc⟩ := h2
    have := h3 y hy
    rw [hc] at this; cases this)]
  ·rw [if_neg h2, if_pos (by
    rw [List.all_eq_true]
    intro y hy
    rw [List.any_eq_true] at h2
    cases e : y.contains i with
    | false => rfl
    | true => exact absurd ⟨y, hy, e⟩ h2)]
theorem worth_eq (i : Nat) : worthW s i = mostW s (M.filter (srvB s)) - mostW s (M.filter fun w => srvB s w && !w.contains i) := by
 unfold worthW
 rw [best_all hok hM, best_so hok hM (fun w => !w.contains i) rfl]
theorem worth_pos (i : Nat) : 0 < worthW s i ↔ (topL s M).all (·.contains i) = true := by
 have e1 := best_all hok hM
 have hw := worth_eq hok hM i
 constructor
 ·intro h
  rw [List.all_eq_true]
  intro w hw'
  obtain ⟨h1, h2, h3⟩ := (top_mem hM).1 hw'
  cases e : w.contains i with
  | true => rfl
  | false =>
   have := mostW_le s (M.filter fun w => srvB s w && !w.contains i) w (List.mem_filter.2 ⟨(hM w).2 h1, by rw [h2, e]; rfl⟩)
   omega
 ·intro h
  rw [List.all_eq_true] at h
  obtain ⟨w, hw', hp⟩ := mostW_mem hok (M.filter fun w => srvB s w && !w.contains i) (List.ne_nil_of_mem (a := []) (List.mem_filter.2 ⟨(hM _).2 (nil_picks _ _), by
   obtain ⟨c, hc⟩ := crush_nil hok
   unfold srvB; rw [hc]; rfl⟩))
  obtain ⟨h1, h2⟩ := List.mem_filter.1 hw'
  rw [Bool.and_eq_true] at h2
  have hle := mostW_le s (M.filter (srvB s)) w (List.mem_filter.2 ⟨h1, h2.1⟩)
  rcases Int.lt_or_eq_of_le hle with hlt | heq
  ·omega
  ·have := h w ((top_mem hM).2 ⟨(hM w).1 h1, h2.1, by rw [heq, e1]⟩)
   rw [this] at h2
   cases h2.2
end
theorem split_at {w : List Nat} {i : Nat} (h : i ∈ w) : ∃ a b, w = a ++ i :: b := List.append_of_mem h
theorem pays_split (s : Sw) (a b : List Nat) {i : Nat} (hi : i < s.wants.length) : payW s (a ++ i :: b) = payW s (a ++ b) + s.wants[i].pay := by
 unfold payW
 rw [wantsOf_app, wantsOf_app, show wantsOf s (i :: b) = s.wants[i] :: wantsOf s b by unfold wantsOf; rw [List.filterMap_cons, List.getElem?_eq_getElem hi], List.map_append, List.map_append, List.map_cons, sumL_append, sumL_append, sumL_cons]
 omega
theorem worth_le {s : Sw} (hok : SOk s) {i : Nat} (hi : i < s.wants.length) : worthW s i ≤ s.wants[i].pay := by
 have hM : ∀ w, w ∈ picksW s.wants.length s.wants.length ↔ w ∈ picksW s.wants.length s.wants.length := fun w => Iff.rfl
 have hw := worth_eq hok hM i
 obtain ⟨w, hw', hp⟩ := mostW_mem hok ((picksW s.wants.length s.wants.length).filter (srvB s)) (served_ne hok)
 obtain ⟨h1, h2⟩ := List.mem_filter.1 hw'
 have hp0 := (hok.wt _ (List.getElem_mem hi)).p0
 by_cases hc : i ∈ w
 ·obtain ⟨a, b, rfl⟩ := split_at hc
  unfold srvB at h2
  obtain ⟨e, he⟩ := Option.isSome_iff_exists.1 h2
  obtain ⟨c', hc', _⟩ := fewer_crush hok hi he
  obtain ⟨g1, g2⟩ := (picksW_mem (Nat.le_refl _)).1 h1
  have ha : Asc (a ++ b) := by
   unfold Asc at g1 ⊢
   rw [List.pairwise_append] at g1 ⊢
   exact ⟨g1.1, (List.pairwise_cons.1 g1.2.1).2, fun x hx y hy => g1.2.2 x hx y (List.mem_cons_of_mem _ hy)⟩
  have hn : i ∉ a ++ b := fun hm => by
   unfold Asc at g1
   rw [List.pairwise_append] at g1
   rcases List.mem_append.1 hm with hm | hm
   ·have := g1.2.2 i hm i List.mem_cons_self; omega
   ·have := (List.pairwise_cons.1 g1.2.1).1 i hm; omega
  have hin : a ++ b ∈ picksW s.wants.length s.wants.length := (picksW_mem (Nat.le_refl _)).2 ⟨ha, fun x hx => g2 x (List.mem_append.2 ((List.mem_append.1 hx).imp id (List.mem_cons_of_mem _)))⟩
  have := mostW_le s ((picksW s.wants.length s.wants.length).filter fun w => srvB s w && !w.contains i) (a ++ b) (List.mem_filter.2 ⟨hin, by
   unfold srvB
   rw [hc', show (a ++ b).contains i = false by rw [← Bool.not_eq_true, List.contains_iff_mem]; exact hn]
   rfl⟩)
  have := pays_split s a b hi
  omega
 ·have := mostW_le s ((picksW s.wants.length s.wants.length).filter fun w => srvB s w && !w.contains i) w (List.mem_filter.2 ⟨h1, by
   rw [h2, show w.contains i = false by rw [← Bool.not_eq_true, List.contains_iff_mem]; exact hc]
   rfl⟩)
  omega
end Go.Mz


namespace Go.Mz
open Go
end Go.Mz


set_option maxRecDepth 100000
namespace Go.Mz
open Go.Conc Go.Proofs
variable {X : Logic Tryz.prog}
end Go.Mz


set_option maxRecDepth 100000
namespace Go.Mz
open Go.Conc Go.Proofs
variable {X : Logic Tryz.prog}
end Go.Mz


namespace Go.Mz
open Go
def cntAt (ms : List (List Int × Nat)) (i : Nat) : List (List Int × Nat) := ms.modify i fun x => (x.1, x.2 + 1)
def sumC (ms : List (List Int × Nat)) : Nat := (ms.map (·.2)).sum
theorem sumC_at : ∀ {ms : List (List Int × Nat)} {i : Nat}, i < ms.length → sumC (cntAt ms i) = sumC ms + 1
 | [], i, h => absurd h (Nat.not_lt_zero _)
 | x :: ms, 0, _ => by simp [sumC, cntAt]; omega
 | x :: ms, i + 1, h => by
  have ih := sumC_at (ms := ms) (i := i) (by simpa using h)
  unfold sumC cntAt at ih ⊢
  rw [List.modify_succ_cons, List.map_cons, List.map_cons, List.sum_cons, List.sum_cons, ih]; omega
theorem sumC_new (ms : List (List Int × Nat)) (k : List Int) : sumC (ms ++ [(k, 0)]) = sumC ms := by simp [sumC]
def seenC (ms : List (List Int × Nat)) (sl : List Nat) : Nat := (sl.map fun i => (ms[i]?.map (·.2)).getD 0).sum
theorem seenC_snoc (ms : List (List Int × Nat)) (sl : List Nat) {i : Nat} {x : List Int × Nat} (hx : ms[i]? = some x) : seenC ms (sl ++ [i]) = seenC ms sl + x.2 := by
 unfold seenC
 rw [List.map_append, List.sum_append, List.map_cons, List.map_nil, hx]
 simp
theorem range_sum (ms : List (List Int × Nat)) : seenC ms (List.range ms.length) = sumC ms := by
 unfold seenC sumC
 congr 1
 apply List.ext_getElem?
 intro i
 rw [List.getElem?_map, List.getElem?_map]
 rcases Nat.lt_or_ge i ms.length with h | h
 ·rw [List.getElem?_range h, List.getElem?_eq_getElem h]; simp [List.getElem?_eq_getElem h]
 ·rw [List.getElem?_eq_none (by simpa using h), List.getElem?_eq_none h]; rfl
theorem perm_sum {a b : List Nat} (h : a.Perm b) : a.sum = b.sum := by
 induction h with
 | nil => rfl
 | cons x _ ih => rw [List.sum_cons, List.sum_cons, ih]
 | swap x y l => rw [List.sum_cons, List.sum_cons, List.sum_cons, List.sum_cons]; omega
 | trans _ _ ih1 ih2 => rw [ih1, ih2]
theorem seenC_all {ms : List (List Int × Nat)} {sl : List Nat} (hn : sl.Nodup) (hm : ∀ i, i ∈ sl ↔ i < ms.length) : seenC ms sl = sumC ms := by
 rw [← range_sum]
 have hp : sl.Perm (List.range ms.length) := (List.perm_ext_iff_of_nodup hn List.nodup_range).2 fun i => by rw [hm, List.mem_range]
 unfold seenC
 exact perm_sum (hp.map _)
theorem seenC_le {ms : List (List Int × Nat)} {sl : List Nat} (hn : sl.Nodup) (hm : ∀ i ∈ sl, i < ms.length) : sl.length ≤ ms.length := by
 have := List.Nodup.length_le_of_subset hn (l₂ := List.range ms.length) fun i hi => List.mem_range.2 (hm i hi)
 simpa using this
theorem seenC_bd {ms : List (List Int × Nat)} {B : Nat} (hB : ∀ x ∈ ms, x.2 ≤ B) (sl : List Nat) : seenC ms sl ≤ sl.length * B := by
 unfold seenC
 induction sl with
 | nil => simp
 | cons i sl ih =>
  rw [List.map_cons, List.sum_cons, List.length_cons, Nat.succ_mul]
  have : (ms[i]?.map (·.2)).getD 0 ≤ B := by
   cases h : ms[i]? with
   | none => simp
   | some x => exact hB x (List.mem_of_getElem? h)
  omega
theorem verd_cnt (s : Sw) (i : Nat) : verdW s i =
  if (((allW s).filterMap id).filter fun c => payW s c.w == payW s (crWants (bestW s fun _ => true))).countP (fun c => c.w.contains i) = 0 then 2 else
  if (((allW s).filterMap id).filter fun c => payW s c.w == payW s (crWants (bestW s fun _ => true))).countP (fun c => c.w.contains i) = (((allW s).filterMap id).filter fun c => payW s c.w == payW s (crWants (bestW s fun _ => true))).length then 1 else 3 := by
 unfold verdW
 simp only
 generalize ((allW s).filterMap id).filter (fun c => payW s c.w == payW s (crWants (bestW s fun _ => true))) = l
 have e1 : (l.all fun c => !c.w.contains i) = true ↔ l.countP (fun c => c.w.contains i) = 0 := by
  rw [List.countP_eq_zero, List.all_eq_true]
  constructor
  ·intro h x hx hc
   have := h x hx
   rw [hc] at this
   cases this
  ·intro h x hx
   have := h x hx
   simpa using this
 have e2 : (l.all fun c => c.w.contains i) = true ↔ l.countP (fun c => c.w.contains i) = l.length := by
  rw [List.countP_eq_length, List.all_eq_true]
 by_cases h1 : l.countP (fun c => c.w.contains i) = 0
 ·rw [if_pos (e1.2 h1), if_pos h1]
 ·rw [if_neg (mt e1.1 h1), if_neg h1]
  by_cases h2 : l.countP (fun c => c.w.contains i) = l.length
  ·rw [if_pos (e2.2 h2), if_pos h2]
  ·rw [if_neg (mt e2.1 h2), if_neg h2]
end Go.Mz


set_option maxRecDepth 100000
namespace Go.Mz
open Go.Conc Go.Proofs
section
variable {P : Program} {C : Cx P} {E : Look} {B : List (Option Bx)} {L : LH} {dst : Option Tmp} {ty : TypeId} {pos : String} {af : Array Edge} {gd : Option (Nat × Bool)}
theorem Ef.entryNew {t kt et : TypeId} {x y : Operand} {r : Nat} {sk : SV} {kv z : Value} {es : Array MapEntry} {clk : Nat} (hx : evS E x = some (.v (.map (some r)))) (hy : evS E y = some sk) (dk : den nm0 sk = some kv) (hu : P.underlying t = some (.map kt et)) (hz : (P.info? et).bind (·.zero) = some z) (hL : L r = some (.map es clk, true))
  (hc : ∀ (e : Bool) (Q : Unit → LH → Prop) (H : Value → LH → Prop) (R : LH), wpS P Q H (Instr.checkKey e 10000 kt kv) R = Q () R) (hf : ∀ (Q : Option (Nat × Value) → LH → Prop) (H : Value → LH → Prop) (R : LH), wpS P Q H (Instr.findKey kt kv es.toList) R = Q none R) :
  Ef C ⟨dst, .mapEntry t x y, ty, pos, af, gd⟩ E B L (fun sv B' L' => sv = .v (.tuple #[z, .int .i64 clk]) ∧ B' = B ∧ L' = L.put r (.map (es.push { key := kv, val := z, born := clk }) (clk + 1))) := by
 intro T R β hE hH
 have ex := (Option.some.inj (hE.val hx)).symm
 have ey : ev T y = kv := Option.some.inj ((hE.val hy).symm.trans (den_nil dk β))
 refine ⟨rfl, ?_⟩
 simp only [execOp, ex, ey]
 rw [wpS_bind]
 unfold Instr.mapEntry
 rw [wpS_bind, wpS_underlying hu]
 simp only
 rw [wpS_bind, wpS_getMap (hH.le _ _ hL)]
 simp only
 rw [wpS_bind, hc, wpS_bind, hf]
 simp only
 rw [wpS_bind, wpS_zeroValue hz, wpS_bind, wpS_setObj (hH.le _ _ hL) rfl rfl]
 exact ⟨_, B, _, ⟨rfl, rfl, rfl⟩, rfl, hH.setF hL (put_same _ _ _) (fun b' hb' => put_ne R _ hb'), fun _ _ => rfl⟩
theorem Ef.entryOld {t kt et : TypeId} {x y : Operand} {r i : Nat} {sk : SV} {kv v : Value} {es : Array MapEntry} {clk : Nat} {e : MapEntry} (hx : evS E x = some (.v (.map (some r)))) (hy : evS E y = some sk) (dk : den nm0 sk = some kv) (hu : P.underlying t = some (.map kt et)) (hL : L r = some (.map es clk, true)) (he : es[i]? = some e) (hk : e.key = kv) (hsb : Instr.sameBits 10000 kv kv = true)
  (hc : ∀ (e : Bool) (Q : Unit → LH → Prop) (H : Value → LH → Prop) (R : LH), wpS P Q H (Instr.checkKey e 10000 kt kv) R = Q () R) (hf : ∀ (Q : Option (Nat × Value) → LH → Prop) (H : Value → LH → Prop) (R : LH), wpS P Q H (Instr.findKey kt kv es.toList) R = Q (some (i, v)) R) :
  Ef C ⟨dst, .mapEntry t x y, ty, pos, af, gd⟩ E B L (fun sv B' L' => sv = .v (.tuple #[v, .int .i64 e.born]) ∧ B' = B ∧ L' = L.put r (.map es clk)) := by
 intro T R β hE hH
 have ex := (Option.some.inj (hE.val hx)).symm
 have ey : ev T y = kv := Option.some.inj ((hE.val hy).symm.trans (den_nil dk β))
 refine ⟨rfl, ?_⟩
 simp only [execOp, ex, ey]
 rw [wpS_bind]
 unfold Instr.mapEntry
 rw [wpS_bind, wpS_underlying hu]
 simp only
 rw [wpS_bind, wpS_getMap (hH.le _ _ hL)]
 simp only
 rw [wpS_bind, hc, wpS_bind, hf]
 simp only [he, Option.map_some, Option.getD_some, hk]
 unfold Instr.keyThatStays
 rw [if_pos hsb, wpS_bind, wpS_pure]
 have em : es.modify i (fun e => { e with key := kv }) = es := by
  apply Array.ext_getElem?
  intro j
  rw [Array.getElem?_modify]
  split
  ·rename_i hij
   subst hij
   rw [he]
   cases e
   simp only at hk
   subst hk
   rfl
  ·rfl
 rw [em, wpS_bind, wpS_setObj (hH.le _ _ hL) rfl rfl]
 exact ⟨_, B, _, ⟨rfl, rfl, rfl⟩, rfl, hH.setF hL (put_same _ _ _) (fun b' hb' => put_ne R _ hb'), fun _ _ => rfl⟩
theorem Ef.entryStore {t : TypeId} {x y u : Operand} {r i : Nat} {j : Int} {k : IntKind} {su : SV} {uv : Value} {es : Array MapEntry} {clk : Nat} (hx : evS E x = some (.v (.map (some r)))) (hy : evS E y = some (.v (.int k j))) (hw : evS E u = some su) (du : den nm0 su = some uv) (hL : L r = some (.map es clk, true)) (hi : es.findIdx? (fun e => (e.born : Int) == j) = some i) :
  Ef C ⟨dst, .entryStore t x y u, ty, pos, af, gd⟩ E B L (StoQ (L.put r (.map (es.modify i fun e => { e with val := uv }) clk)) B) := by
 intro T R β hE hH
 have ex := (Option.some.inj (hE.val hx)).symm
 have ey : ev T y = .int k j := (Option.some.inj (hE.val hy)).symm
 have eu : ev T u = uv := Option.some.inj ((hE.val hw).symm.trans (den_nil du β))
 refine ⟨rfl, ?_⟩
 simp only [execOp, ex, ey, eu]
 rw [wpS_bind]
 unfold Instr.entryStore
 simp only
 rw [wpS_bind, wpS_getMap (hH.le _ _ hL)]
 simp only
 rw [wpS_bind]
 show wpS P _ _ (match es.findIdx? (fun e => (e.born : Int) == j) with | some i => _ | none => _) R
 rw [hi]
 simp only
 rw [wpS_setObj (hH.le _ _ hL) rfl rfl]
 exact ⟨.v undef, B, _, ⟨rfl, rfl, rfl⟩, rfl, hH.setF hL (put_same _ _ _) (fun b' hb' => put_ne R _ hb'), fun _ _ => rfl⟩
theorem Ef.range {t kt et : TypeId} {x : Operand} {r : Nat} {es : Array MapEntry} {clk : Nat} {wr : Bool} (hx : evS E x = some (.v (.map (some r)))) (hu : P.underlying t = some (.map kt et)) (hL : L r = some (.map es clk, wr)) :
  Ef C ⟨dst, .range t x, ty, pos, af, gd⟩ E B L (fun sv B' L' => ∃ b, sv = .v (.pointer (some ⟨b, 0, none⟩)) ∧ B' = B ∧ L b = none ∧ L' = L.put b (.mapIter (some r) clk #[] clk)) := by
 intro T R β hE hH
 have ex := (Option.some.inj (hE.val hx)).symm
 refine ⟨rfl, ?_⟩
 simp only [execOp, ex]
 rw [wpS_bind]
 unfold Instr.range
 rw [wpS_bind, wpS_underlying hu]
 simp only
 rw [wpS_bind, wpS_getMap (hH.le _ _ hL)]
 simp only
 rw [wpS_bind, wpS_pure, wpS_bind, wpS_newObj]
 intro b hb
 exact ⟨_, B, _, ⟨b, rfl, rfl, (hH.free hb).1, rfl⟩, rfl, hH.newF hb _, fun _ _ => rfl⟩
theorem Ef.next {y : Operand} {q r since last : Nat} {es : Array MapEntry} {clk : Nat} {seen : Array Nat} {wr : Bool} (hy : evS E y = some (.v (.pointer (some ⟨q, 0, none⟩)))) (hq : L q = some (.mapIter (some r) since seen last, true)) (hL : L r = some (.map es clk, wr)) (hb : ∀ e ∈ es, e.born < since ∧ e.born < last) :
  Ef C ⟨dst, .next y false, ty, pos, af, gd⟩ E B L (fun sv B' L' => B' = B ∧ ((sv = .v (.tuple #[.bool false]) ∧ (∀ e ∈ es, seen.contains e.born = true) ∧ L' = L) ∨ ∃ e ∈ es, seen.contains e.born = false ∧ sv = .v (.tuple #[.bool true, e.key, e.val]) ∧ L' = L.put q (.mapIter (some r) since (seen.push e.born) clk))) := by
 intro T R β hE hH
 have ey := (Option.some.inj (hE.val hy)).symm
 refine ⟨rfl, ?_⟩
 simp only [execOp, ey]
 rw [wpS_bind]
 unfold Instr.next
 simp only
 rw [wpS_bind]
 show wpS P _ _ (.getObj q .pure) R
 unfold wpS
 rw [hH.le _ _ hq]
 simp only [special, Bool.false_eq_true, if_false]
 show wpS P _ _ (getObj r >>= _) R
 rw [wpS_bind, wpS_getMap (hH.le _ _ hL)]
 simp only
 have h1 : (!seen.isEmpty && !es.isEmpty && es.all (fun e => decide (e.born ≥ last))) = false := by
  cases he : es.all (fun e => decide (e.born ≥ last)) with
  | false => rw [Bool.and_false]
  | true =>
   have : es = #[] := by
    apply Array.eq_empty_of_size_eq_zero
    rcases Nat.eq_zero_or_pos es.size with h | h
    ·exact h
    ·have h2 := Array.all_eq_true.1 he 0 h
     have h3 := (hb _ (Array.getElem_mem h)).2
     simp at h2
     omega
   subst this
   rw [show (#[] : Array MapEntry).isEmpty = true from rfl]
   cases seen.isEmpty <;> rfl
 rw [h1]
 simp only [Bool.false_eq_true, if_false]
 have hold : (es.filter fun e => !seen.contains e.born).filter (fun e => decide (e.born < since)) = es.filter fun e => !seen.contains e.born := by
  rw [Array.filter_eq_self]
  intro e he
  have := (hb e (Array.mem_filter.1 he).1).1
  simpa using this
 have hnew : (es.filter fun e => !seen.contains e.born).filter (fun e => decide (e.born ≥ since)) = #[] := by
  rw [Array.filter_eq_empty_iff]
  intro e he
  have := (hb e (Array.mem_filter.1 he).1).1
  simp
  omega
 rw [hold, hnew, Array.append_empty]
 have hmem : ∀ e, e ∈ (es.filter fun e => !seen.contains e.born) ↔ e ∈ es ∧ seen.contains e.born = false := fun e => by rw [Array.mem_filter]; simp
 generalize (es.filter fun e => !seen.contains e.born) = lf at hmem
 rw [wpS_bind, wpS_choose]
 intro n hn
 have done : ∀ {K : Value → LH → Prop}, K (.tuple #[.bool false]) R → wpS P K (fun _ _ => False) (pure (.tuple #[.bool false]) : Sem Value) R := fun h => h
 cases hl : lf.isEmpty with
 | true =>
  have h0 : lf = #[] := by rw [Array.isEmpty_iff] at hl; exact hl
  subst h0
  simp only [if_true, Array.map_empty, Array.append_empty]
  have hn0 : n = 0 := by
   unfold Answers at hn
   rw [if_pos (by simp [Question.forced])] at hn
   exact hn
  subst hn0
  refine ⟨_, B, L, ⟨rfl, .inl ⟨rfl, fun e he => ?_, rfl⟩⟩, rfl, hH, fun _ _ => rfl⟩
  cases hs : seen.contains e.born with
  | true => rfl
  | false => have := (hmem e).2 ⟨he, hs⟩; simp at this
 | false =>
  simp only [Bool.false_eq_true, if_false, Array.empty_append]
  have hpos : 0 < lf.size := by
   rcases Nat.eq_zero_or_pos lf.size with h | h
   ·rw [Array.isEmpty] at hl; simp [h] at hl
   ·exact h
  have hlt : n < lf.size := by
   rw [hl] at hn
   simp only [Bool.false_eq_true, if_false, Array.empty_append, Array.size_map] at hn
   unfold Answers at hn
   split at hn
   ·omega
   ·obtain ⟨t, rfl⟩ := hn
    exact Nat.mod_lt _ hpos
  rw [Array.getElem?_map, Array.getElem?_eq_getElem hlt]
  simp only [Option.map_some]
  obtain ⟨g1, g2⟩ := (hmem _).1 (Array.getElem_mem hlt)
  rw [wpS_bind, wpS_setObj (hH.le _ _ hq) rfl rfl]
  exact ⟨_, B, _, ⟨rfl, .inr ⟨lf[n], g1, g2, rfl, rfl⟩⟩, rfl, hH.setF hq (put_same _ _ _) (fun b' hb' => put_ne R _ hb'), fun _ _ => rfl⟩
theorem Vf.entry {y : Operand} {q r since : Nat} {es : Array MapEntry} {clk : Nat} {seen : Array Nat} {wr wr' : Bool} {e : MapEntry} (hy : evS E y = some (.v (.pointer (some ⟨q, 0, none⟩)))) (hq : L q = some (.mapIter (some r) since seen clk, wr)) (hL : L r = some (.map es clk, wr')) (hb : seen.back? = some e.born) (he : es.find? (·.born == e.born) = some e) :
  Vf P (.entry y) E B L (.v (.tuple #[e.key, e.val])) := fun T R β hE _ hR => by
 have ey := (Option.some.inj (hE.val hy)).symm
 refine ⟨_, rfl, fun ty dst pos af gd Q H hq' => ?_⟩
 simp only [execOp, ey]
 rw [wpS_bind]
 unfold Instr.entry
 simp only
 rw [wpS_bind]
 show wpS P _ _ (.getObj q .pure) R
 unfold wpS
 rw [hR _ _ hq]
 simp only [special, Bool.false_eq_true, if_false]
 show wpS P _ _ (match seen.back? with | some stamp => _ | _ => _) R
 rw [hb]
 simp only
 show wpS P _ _ (getObj r >>= _) R
 rw [wpS_bind, wpS_getMap (hR _ _ hL)]
 simp only [bne_self_eq_false, Bool.false_eq_true, if_false]
 show wpS P _ _ (match es.find? (·.born == e.born) with | some e => _ | none => _) R
 rw [he]
 exact hq'
theorem Vf.lookup1 {t kt et : TypeId} {x y : Operand} {r : Nat} {sk : SV} {kv z : Value} {es : Array MapEntry} {clk : Nat} {wr : Bool} {res : Option (Nat × Value)} (hx : evS E x = some (.v (.map (some r)))) (hy : evS E y = some sk) (dk : den nm0 sk = some kv) (hu : P.underlying t = some (.map kt et)) (hL : L r = some (.map es clk, wr)) (hz : (P.info? et).bind (·.zero) = some z)
  (hc : ∀ (e : Bool) (Q : Unit → LH → Prop) (H : Value → LH → Prop) (R : LH), wpS P Q H (Instr.checkKey e 10000 kt kv) R = Q () R) (hf : ∀ (Q : Option (Nat × Value) → LH → Prop) (H : Value → LH → Prop) (R : LH), wpS P Q H (Instr.findKey kt kv es.toList) R = Q res R) :
  Vf P (.lookup t x y false) E B L (.v ((res.map (·.2)).getD z)) := fun T R β hE _ hR => by
 have ex := (Option.some.inj (hE.val hx)).symm
 have ey : ev T y = kv := Option.some.inj ((hE.val hy).symm.trans (den_nil dk β))
 refine ⟨_, rfl, fun ty dst pos af gd Q H hq => ?_⟩
 simp only [execOp, ex, ey]
 rw [wpS_bind]
 unfold Instr.lookup
 rw [wpS_bind, wpS_underlying hu]
 simp only
 rw [wpS_bind, wpS_getMap (hR _ _ hL)]
 show wpS P _ H (Instr.checkKey es.isEmpty 10000 kt kv >>= _) R
 rw [wpS_bind, hc, wpS_bind, hf]
 cases res with
 | none => simp only; rw [wpS_bind, wpS_zeroValue hz]; exact hq
 | some p => exact hq
end
end Go.Mz


set_option maxRecDepth 100000
namespace Go.Mz
open Go.Conc Go.Proofs
theorem eq99 {a b c a' b' c' : Int} {n : Nat} {Q : Bool → LH → Prop} {H : Value → LH → Prop} {L : LH} : wpS Tryz.prog Q H (Op.equalIn (n + 3) 99 (intsV [a, b, c]) (intsV [a', b', c'])) L = Q ((a == a') && ((b == b') && (c == c'))) L := by
 unfold intsV
 rw [Op.equalIn, wpS_bind, wpS_underlying Tryz.underlying99, wpS_bind, wpS_sizeOf size3, wpS_bind]
 simp only [Std.Legacy.Range.forIn_eq_forIn_range', Std.Legacy.Range.size, Nat.sub_zero, Nat.add_sub_cancel, Nat.div_one, List.range'_succ, List.range'_zero, List.forIn_cons, List.forIn_nil]
 rw [wpS_bind, wpS_bind, wpS_part1 (v := .int .i64 a) agg3 rfl, wpS_bind, wpS_part1 (v := .int .i64 a') agg3 rfl, wpS_bind, eqIn_int Tryz.underlying3]
 cases e1 : (a == a')
 ·rfl
 rw [Bool.true_and]
 show wpS Tryz.prog _ H (_ >>= _) L = _
 rw [wpS_bind, wpS_bind, wpS_part1 (v := .int .i64 b) agg3 rfl, wpS_bind, wpS_part1 (v := .int .i64 b') agg3 rfl, wpS_bind, eqIn_int Tryz.underlying3]
 cases e2 : (b == b')
 ·rfl
 rw [Bool.true_and]
 show wpS Tryz.prog _ H (_ >>= _) L = _
 rw [wpS_bind, wpS_bind, wpS_part1 (v := .int .i64 c) agg3 rfl, wpS_bind, wpS_part1 (v := .int .i64 c') agg3 rfl, wpS_bind, eqIn_int Tryz.underlying3]
 cases e3 : (c == c')
 ·rfl
 ·rfl
theorem key99 {a b c : Int} (em : Bool) (Q : Unit → LH → Prop) (H : Value → LH → Prop) (R : LH) : wpS Tryz.prog Q H (Instr.checkKey em 10000 99 (intsV [a, b, c])) R = Q () R := by
 kernel_rfl
theorem bits99 (a b c : Int) : Instr.sameBits 10000 (intsV [a, b, c]) (intsV [a, b, c]) = true := by
 show Instr.sameBits (9998 + 2) _ _ = true
 simp [intsV, Instr.sameBits]
theorem ints3 {k : List Int} (h : k.length = 3) : ∃ a b c, k = [a, b, c] := list3 h
def mapL : List (List Int × Nat) → Nat → List MapEntry
 | [], _ => []
 | x :: t, i => { key := intsV x.1, val := .int .i64 x.2, born := i } :: mapL t (i + 1)
theorem mapL_get : ∀ (ms : List (List Int × Nat)) (j i : Nat), (mapL ms j)[i]? = ms[i]?.map fun x => { key := intsV x.1, val := .int .i64 x.2, born := j + i }
 | [], j, i => by simp [mapL]
 | x :: ms, j, 0 => by simp [mapL]
 | x :: ms, j, i + 1 => by
  rw [mapL, List.getElem?_cons_succ, mapL_get ms (j + 1) i, List.getElem?_cons_succ]
  congr 1
  funext y
  congr 1
  omega
theorem mapL_len (ms : List (List Int × Nat)) (j : Nat) : (mapL ms j).length = ms.length := by
 induction ms generalizing j with
 | nil => rfl
 | cons x ms ih => rw [mapL, List.length_cons, List.length_cons, ih]
theorem mapL_snoc (ms : List (List Int × Nat)) (x : List Int × Nat) (j : Nat) : mapL (ms ++ [x]) j = mapL ms j ++ [{ key := intsV x.1, val := .int .i64 x.2, born := j + ms.length }] := by
 induction ms generalizing j with
 | nil => rfl
 | cons y ms ih =>
  rw [List.cons_append, mapL, ih, mapL, List.cons_append, List.length_cons]
  congr 4
  omega
theorem mapL_set (ms : List (List Int × Nat)) (i c : Nat) : (mapL ms 0).modify i (fun e => { e with val := .int .i64 c }) = mapL (ms.modify i fun x => (x.1, c)) 0 := by
 apply List.ext_getElem?
 intro j
 rw [List.getElem?_modify, mapL_get, mapL_get, List.getElem?_modify]
 cases ms[j]? with
 | none => rfl
 | some x =>
  simp only [Option.map_some, Option.map_eq_map]
  split <;> rfl
def mapE (ms : List (List Int × Nat)) : Array MapEntry := (mapL ms 0).toArray
theorem mapE_get {ms : List (List Int × Nat)} {i : Nat} {x : List Int × Nat} (h : ms[i]? = some x) : (mapE ms)[i]? = some { key := intsV x.1, val := .int .i64 x.2, born := i } := by
 unfold mapE
 rw [List.getElem?_toArray, mapL_get, h]
 simp
theorem mapE_push (ms : List (List Int × Nat)) (k : List Int) : (mapE ms).push { key := intsV k, val := .int .i64 0, born := ms.length } = mapE (ms ++ [(k, 0)]) := by
 unfold mapE
 rw [mapL_snoc, List.push_toArray]
 simp
theorem mapE_set (ms : List (List Int × Nat)) (i c : Nat) : (mapE ms).modify i (fun e => { e with val := .int .i64 c }) = mapE (ms.modify i fun x => (x.1, c)) := by
 unfold mapE
 rw [← mapL_set]
 apply Array.ext_getElem?
 intro j
 rw [Array.getElem?_modify, List.getElem?_toArray, List.getElem?_toArray, List.getElem?_modify]
 split
 ·rename_i h; subst h; simp
 ·rename_i h
  cases (mapL ms 0)[j]? <;> rfl
theorem mapE_born {ms : List (List Int × Nat)} {i : Nat} (h : i < ms.length) : (mapE ms).findIdx? (fun e => (e.born : Int) == (i : Int)) = some i := by
 unfold mapE
 rw [List.findIdx?_toArray, List.findIdx?_eq_some_iff_getElem]
 have hg : ∀ (j : Nat) (hj : j < (mapL ms 0).length), (mapL ms 0)[j].born = j := fun j hj => by
  have := mapL_get ms 0 j
  rw [List.getElem?_eq_getElem hj, List.getElem?_eq_getElem (by rw [mapL_len] at hj; exact hj)] at this
  have := Option.some.inj this
  rw [this]
  simp
 refine ⟨by rw [mapL_len]; exact h, by rw [hg]; simp, fun j hj => ?_⟩
 rw [hg]
 simp
 omega
theorem mapE_mem {ms : List (List Int × Nat)} {e : MapEntry} (h : e ∈ mapE ms) : ∃ x, ms[e.born]? = some x ∧ e.val = .int .i64 x.2 ∧ (mapE ms).find? (·.born == e.born) = some e := by
 unfold mapE at h ⊢
 rw [List.mem_toArray] at h
 obtain ⟨i, hi⟩ := List.mem_iff_getElem?.1 h
 have hi' := hi
 rw [mapL_get] at hi
 rw [Option.map_eq_some_iff] at hi
 obtain ⟨x, hx, rfl⟩ := hi
 simp only [Nat.zero_add] at hi' ⊢
 refine ⟨x, hx, rfl, ?_⟩
 rw [List.find?_toArray, List.find?_eq_some_iff_getElem]
 refine ⟨by simp, i, by rw [mapL_len]; exact (List.getElem?_eq_some_iff.1 hx).1, ?_, fun j hj => ?_⟩
 ·have := (List.getElem?_eq_some_iff.1 hi').2
  exact this
 ·have hjl : j < (mapL ms 0).length := by rw [mapL_len]; have := (List.getElem?_eq_some_iff.1 hx).1; omega
  have := mapL_get ms 0 j
  rw [List.getElem?_eq_getElem hjl, List.getElem?_eq_getElem (by rw [mapL_len] at hjl; exact hjl)] at this
  have := Option.some.inj this
  rw [this]
  simp
  omega
def fndK (k : List Int) : List (List Int × Nat) → Nat → Option (Nat × Value)
 | [], _ => none
 | x :: t, i => if k = x.1 then some (i, .int .i64 x.2) else fndK k t (i + 1)
theorem fndK_some {k : List Int} : ∀ {ms : List (List Int × Nat)} {i n : Nat} {v : Value}, fndK k ms i = some (n, v) → ∃ x, i ≤ n ∧ ms[n - i]? = some x ∧ x.1 = k ∧ v = .int .i64 x.2
 | [], i, n, v, h => by cases h
 | x :: ms, i, n, v, h => by
  rw [fndK] at h
  split at h
  ·rename_i e
   cases h
   exact ⟨x, Nat.le_refl _, by simp, e.symm, rfl⟩
  ·obtain ⟨y, h1, h2, h3, h4⟩ := fndK_some h
   refine ⟨y, by omega, ?_, h3, h4⟩
   rw [show n - i = (n - (i + 1)) + 1 by omega, List.getElem?_cons_succ]
   exact h2
theorem findA {k : List Int} (hk : k.length = 3) : ∀ (ms : List (List Int × Nat)) (j i : Nat), (∀ x ∈ ms, x.1.length = 3) → ∀ (Q : Option (Nat × Value) → LH → Prop) (H : Value → LH → Prop) (R : LH), wpS Tryz.prog Q H (Instr.findAsking 99 (intsV k) (mapL ms j) i) R = Q (fndK k ms i) R
 | [], j, i, _, Q, H, R => rfl
 | x :: ms, j, i, h, Q, H, R => by
  have ih := findA hk ms (j + 1) (i + 1) (fun y hy => h y (List.mem_cons_of_mem _ hy)) Q H R
  obtain ⟨a, b, c, rfl⟩ := ints3 hk
  obtain ⟨a', b', c', e⟩ := ints3 (h x List.mem_cons_self)
  rw [mapL, Instr.findAsking, wpS_bind, e]
  show wpS Tryz.prog _ H (Op.equalIn (9997 + 3) 99 _ _) R = _
  rw [eq99, fndK, e]
  by_cases hq : ([a, b, c] : List Int) = [a', b', c']
  ·rw [if_pos hq]
   simp only [List.cons.injEq, and_true] at hq
   obtain ⟨rfl, rfl, rfl⟩ := hq
   simp only [BEq.rfl, Bool.and_self, if_true]
   rfl
  ·rw [if_neg hq, ← ih]
   have : ((a == a') && ((b == b') && (c == c'))) = false := by
    rw [← Bool.not_eq_true]
    intro hh
    simp only [Bool.and_eq_true, beq_iff_eq] at hh
    exact hq (by rw [hh.1, hh.2.1, hh.2.2])
   rw [this]
   simp only [Bool.false_eq_true, if_false]
theorem findM {k : List Int} (hk : k.length = 3) (ms : List (List Int × Nat)) (h : ∀ x ∈ ms, x.1.length = 3) (Q : Option (Nat × Value) → LH → Prop) (H : Value → LH → Prop) (R : LH) : wpS Tryz.prog Q H (Instr.findKey 99 (intsV k) (mapE ms).toList) R = Q (fndK k ms 0) R := by
 unfold Instr.findKey mapE
 rw [wpS_bind, wpS_underlying Tryz.underlying99]
 cases ms with
 | nil => rfl
 | cons x ms => exact findA hk (x :: ms) 0 0 h Q H R
end Go.Mz


set_option maxRecDepth 100000
namespace Go.Mz
open Go.Conc Go.Proofs
variable {Post : Value → World → Prop} {W0 : World}
def candU (s : Sw) (k : Nat) : List Cr := ((firstsW s k).filterMap id).filter fun c => payW s c.w == payW s (crWants (bestW s fun _ => true))
theorem candU_none {s : Sw} {k : Nat} (h : crushW s (bits5 k) = none) : candU s (k + 1) = candU s k := by
 unfold candU; rw [firstsW_succ, h, List.filterMap_append]; simp
theorem candU_no {s : Sw} {k : Nat} {c : Cr} (h : crushW s (bits5 k) = some c) (hp : payW s c.w ≠ payW s (crWants (bestW s fun _ => true))) : candU s (k + 1) = candU s k := by
 unfold candU; rw [firstsW_succ, h, List.filterMap_append, List.filter_append]; simp [hp]
theorem candU_yes {s : Sw} {k : Nat} {c : Cr} (h : crushW s (bits5 k) = some c) (hp : payW s c.w = payW s (crWants (bestW s fun _ => true))) : candU s (k + 1) = candU s k ++ [c] := by
 unfold candU; rw [firstsW_succ, h, List.filterMap_append, List.filter_append]; simp [hp]
theorem candU_len (s : Sw) (k : Nat) : (candU s k).length ≤ k := by
 unfold candU
 refine Nat.le_trans (List.length_filter_le _ _) (Nat.le_trans (List.length_filterMap_le _ _) ?_)
 unfold firstsW
 simp
structure CntM (s : Sw) (i k : Nat) (ms : List (List Int × Nat)) : Prop where
 k3 : ∀ x ∈ ms, x.1.length = 3
 ln : ms.length ≤ k
 sm : sumC ms = (candU s k).countP fun c => c.w.contains i
theorem sumC_le {ms : List (List Int × Nat)} {i : Nat} {x : List Int × Nat} (h : ms[i]? = some x) : x.2 ≤ sumC ms := by
 have hm := List.mem_of_getElem? h
 unfold sumC
 have : ∀ (l : List Nat) (y : Nat), y ∈ l → y ≤ l.sum := fun l y hy => by
  induction l with
  | nil => cases hy
  | cons z l ih =>
   rw [List.sum_cons]
   rcases List.mem_cons.1 hy with rfl | hy
   ·omega
   ·have := ih hy; omega
 exact this _ _ (List.mem_map.2 ⟨x, hm, rfl⟩)
theorem CntM.le {s : Sw} {i k : Nat} {ms : List (List Int × Nat)} (h : CntM s i k ms) : sumC ms ≤ k := by
 rw [h.sm]
 exact Nat.le_trans List.countP_le_length (candU_len s k)
theorem CntM.old {s : Sw} {i k n : Nat} {ms : List (List Int × Nat)} (h : CntM s i k ms) {c : Cr} (hc : candU s (k + 1) = candU s k ++ [c]) (hi : c.w.contains i = true) (hn : n < ms.length) : CntM s i (k + 1) (ms.modify n fun x => (x.1, x.2 + 1)) := by
 refine ⟨fun x hx => ?_, by rw [List.length_modify]; have := h.ln; omega, ?_⟩
 ·obtain ⟨j, hj, rfl⟩ := List.getElem_of_mem hx
  rw [List.length_modify] at hj
  rw [List.getElem_modify]
  have := h.k3 _ (List.getElem_mem hj)
  split <;> exact this
 ·have := sumC_at hn
  unfold cntAt at this
  rw [this, h.sm, hc, List.countP_append, List.countP_singleton, if_pos hi]
theorem CntM.new {s : Sw} {i k : Nat} {ms : List (List Int × Nat)} (h : CntM s i k ms) {c : Cr} (hc : candU s (k + 1) = candU s k ++ [c]) (hi : c.w.contains i = true) {q : List Int} (hq : q.length = 3) : CntM s i (k + 1) ((ms ++ [(q, 0)]).modify ms.length fun x => (x.1, x.2 + 1)) := by
 refine ⟨fun x hx => ?_, by rw [List.length_modify, List.length_append, List.length_singleton]; have := h.ln; omega, ?_⟩
 ·obtain ⟨j, hj, rfl⟩ := List.getElem_of_mem hx
  rw [List.length_modify] at hj
  rw [List.getElem_modify]
  have : ((ms ++ [(q, 0)])[j]).1.length = 3 := by
   rcases List.mem_append.1 (List.getElem_mem hj) with hm | hm
   ·exact h.k3 _ hm
   ·rw [List.mem_singleton.1 hm]; exact hq
  split <;> exact this
 ·have := sumC_at (ms := ms ++ [(q, 0)]) (i := ms.length) (by simp)
  unfold cntAt at this
  rw [this, sumC_new, h.sm, hc, List.countP_append, List.countP_singleton, if_pos hi]
theorem CntM.no {s : Sw} {i k : Nat} {ms : List (List Int × Nat)} (h : CntM s i k ms) {c : Cr} (hc : candU s (k + 1) = candU s k ++ [c]) (hi : c.w.contains i = false) : CntM s i (k + 1) ms :=
 ⟨h.k3, Nat.le_succ_of_le h.ln, by rw [h.sm, hc, List.countP_append, List.countP_singleton, if_neg (by rw [hi]; decide)]; omega⟩
theorem fndK_new {k : List Int} : ∀ {ms : List (List Int × Nat)} {i : Nat}, fndK k ms i = none → fndK k (ms ++ [(k, 0)]) i = some (i + ms.length, .int .i64 0)
 | [], i, _ => by simp [fndK]
 | x :: ms, i, h => by
  rw [fndK] at h
  split at h
  ·cases h
  ·rename_i hne
   rw [List.cons_append, fndK, if_neg hne, fndK_new h, List.length_cons]
   congr 2
   omega
theorem modify_at {ms : List (List Int × Nat)} {n : Nat} {x : List Int × Nat} (h : ms[n]? = some x) : (ms.modify n fun y => (y.1, x.2 + 1)) = ms.modify n fun y => (y.1, y.2 + 1) := by
 apply List.ext_getElem?
 intro j
 rw [List.getElem?_modify, List.getElem?_modify]
 by_cases e : n = j
 ·subst e; rw [h]; simp
 ·simp [e]
theorem Verdict_sp (s : Sw) (p : Wp) (n : Int) (L : LH) (h : SwAt L s p) (hn : Sm s) : Sp (LFGo Tryz.prog Post W0) 59 [swA s p, .int .i64 n] L (fun v L' => v = .tuple #[.int .i64 (VerdW s n).1, .int .i64 (VerdW s n).2] ∧ Dim L L') := by
 refine Sp.enter (n := 80) Tryz.func59 rfl rfl rfl rfl fun C hX _ hL0 r => ?_
 refine W.go 99 rfl ?_
 refine W.pub 19 (.inr ⟨_, _, _, rfl⟩) rfl rfl ?_
 intro b12 hb12 _
 have f1 := Le.put hb12 (.cells #[.int .i64 n] 3)
 have g1 := put_same L b12 (.cells #[.int .i64 n] 3)
 change W _ _ _ _ _ _ (L.put b12 (.cells #[.int .i64 n] 3))
 generalize L.put b12 (.cells #[.int .i64 n] 3) = L1 at f1 g1 ⊢
 refine W.eff rfl rfl rfl (Ef.call rfl (open_sp s p none (some ⟨b12, 0, none⟩) 0 1 [] [n] L1 (h.le f1) hn SlAt.empty (ints1 g1) (by simp) (by simp))) ?_
 rintro _ _ _ ⟨v0, rfl, rfl, hle, hq⟩
 rename_i L2
 have hl2 := f1.trans hle
 rcases hq with ⟨he, rfl⟩ | ⟨he, rfl⟩
 ·refine W.go 99 rfl ?_
  refine W.split rfl rfl rfl (fun e1 => W.go 99 rfl ?_) (fun e1 => W.go 99 rfl ?_)
  ·refine W.ret r rfl rfl ?_
   have : VerdW s n = (0, openW s [] [n]) := by unfold VerdW; rw [if_pos he]
   rw [this]
   exact ⟨rfl, Dim.of_le hl2⟩
  ·simp at e1; exact absurd e1 he
 have hSE : VerdW s n = (verdW s n.toNat, 0) := by unfold VerdW; rw [if_neg (by simp [he])]
 rw [hSE] at r
 obtain ⟨h0, _, hk⟩ := openW_0 he
 have hok := sawE_0 h0
 have hk := hk n (by simp)
 have hw5 := hok.w5
 have h5 := pow5 hok
 obtain ⟨i, rfl⟩ : ∃ i : Nat, n = (i : Int) := ⟨n.toNat, by omega⟩
 have hi : i < s.wants.length := by omega
 rw [Int.toNat_natCast] at r
 refine W.go 99 rfl ?_
 refine W.split rfl rfl rfl (fun e1 => ?_) (fun e1 => ?_)
 ·simp at e1
 refine W.weak (E' := [(1, .v (.int .i64 i)), (6, .p 2 0), (24, .lit false)]) (B' := [some ⟨cellsS (.v (swA s p)), 26⟩, none, some ⟨cellsS (.v (swA s p)), 83⟩]) (by exact ⟨rfl, rfl, rfl, trivial⟩) (by exact ⟨rfl, rfl, rfl, trivial⟩) ?_
 refine W.go 99 rfl ?_
 refine W.drawn (by kernel_rfl) LH.nil (fun _ _ h => by cases h) ?_
 refine DD.run' [0, 1] rfl ?_
 have hb2 := best0_sp (Post := Post) (W0 := W0) s p L2 (h.le hl2) hok
 rw [← hX] at hb2
 refine DD.act 2 rfl rfl rfl rfl rfl (Ef.call rfl (hb2)) ((by rintro _ _ _ ⟨_, rfl, rfl, _, _, _, rfl, _⟩; exact ⟨(fun _ _ h => by cases h), rfl, .inl rfl⟩)) ?_
 rintro _ _ _ ⟨v2, rfl, rfl, gv2, y2, sm2, rfl, hbe2, hd2⟩
 have hyw2 := hbe2.wn hok
 have hd3 := (Dim.of_le hl2).trans hd2
 refine DD.vf 3 rfl rfl rfl rfl rfl (Vf.fieldN (cs := fsF gv2 :: (encC y2 ++ [Value.bool sm2])) (ds := encC y2) rfl rfl Tryz.underlying112 rfl agg101 size101 rfl) ?_
 refine DD.vf 4 rfl rfl rfl rfl rfl (Vf.field1 (cs := encC y2) rfl rfl Tryz.underlying101 rfl agg95 rfl) ?_
 refine DD.act 5 rfl rfl rfl rfl rfl (Ef.call rfl (pay_sp s p y2.w _ (hd3.sw h) hok hyw2.1 hyw2.2)) ((by rintro _ _ _ ⟨_, rfl, rfl, rfl, hl⟩; exact ⟨(fun _ _ h => by cases h), rfl, .inl rfl⟩)) ?_
 rintro _ _ _ ⟨v3, rfl, rfl, rfl, hl6⟩
 refine DD.run' [6] rfl ?_
 refine .fin rfl ?_
 refine W.go 99 rfl ?_
 rename_i L4
 have hd4 := hd3.trans (Dim.of_le hl6)
 have hmw : payW s (bits5 y2.w) = payW s (crWants (bestW s fun _ => true)) := by rw [hbe2.wants]
 rw [hmw]
 refine W.eff rfl rfl rfl (Ef.makeMap) ?_
 rintro _ _ _ ⟨r0, rfl, rfl, hr0, rfl⟩
 have hmr0 : ∀ o, Le L4 ((L4.put r0 o).less [r0]) := fun o b x hx => by
  have hb : b ≠ r0 := fun e => by subst e; rw [hr0] at hx; cases hx
  rw [less_get (by simpa using hb), put_ne _ _ hb]; exact hx
 have hal := (all_sp (Post := Post) (W0 := W0) s p ((L4.put r0 (.map #[] 0)).less [r0]) ((hd4.sw h).le (hmr0 _)) hok).frame (less_le (L4.put r0 (.map #[] 0)) [r0])
 rw [← hX] at hal
 refine W.go 99 rfl ?_
 refine W.eff rfl rfl rfl (Ef.call rfl (hal)) ?_
 rintro _ _ _ ⟨v1, rfl, rfl, L5, ⟨bn, rfl, ho, hd5⟩, hpo⟩
 rename_i L6
 have hmr : L6 r0 = some (.map #[] 0, true) := hpo.keep r0 _ (by unfold LH.less; rw [if_pos (by simp)]) (put_same _ _ _)
 have h5r : L5 r0 = none := by
  cases hx : L5 r0 with
  | none => rfl
  | some x =>
   rcases hpo.fresh r0 (by rw [hx]; simp) with e | e
   ·exact absurd (by unfold LH.less; rw [if_pos (by simp)]) e
   ·rw [put_same] at e; cases e
 have hd5 : Dim L L5 := hd4.trans ((Dim.of_le (hmr0 _)).trans hd5)
 have hs5 := hd5.sw h
 clear hal hb2
 generalize hM : payW s (crWants (bestW s fun _ => true)) = M
 have hcn := fun k => candU_none (s := s) (k := k)
 refine W.go 99 rfl ?_
 refine W.loop (fun m E B L' => ∃ (k : Nat) (ms : List (List Int × Nat)), m = 2 ^ s.wants.length - k ∧ k ≤ 2 ^ s.wants.length ∧ CntM s i k ms ∧ Le L5 L' ∧ L' r0 = some (.map (mapE ms) ms.length, true) ∧
   E = [(1, .v (.int .i64 i)), (6, .p 2 0), (8, .v (.int .i64 M)), (9, .v (.map (some r0))), (10, .v (.int .i64 ((candU s k).length : Nat))), (11, .v (.int .i64 0)), (34, .v (.slice (some ⟨bn, 0, none⟩) (2 ^ s.wants.length) (2 ^ s.wants.length))), (35, .v (.int .i64 ((2 ^ s.wants.length : Nat) : Int))), (36, .v (.int .i64 k))] ∧ B = [some ⟨cellsS (.v (swA s p)), 26⟩, none, some ⟨cellsS (.v (swA s p)), 83⟩])
  ⟨0, [], rfl, Nat.zero_le _, ⟨(fun x hx => by cases hx), Nat.le_refl _, rfl⟩, hpo.le, hmr, rfl, rfl⟩ (by exact ⟨rfl, rfl, rfl, rfl, rfl, rfl, rfl, rfl, rfl, trivial⟩) (by exact ⟨rfl, rfl, rfl, trivial⟩) ?_
 rintro _ _ _ L7 ⟨k, ms, rfl, hk8, hcm, hl7, hr7, rfl, rfl⟩ again
 have hcl := candU_len s k
 refine W.go 99 rfl ?_
 refine W.split rfl rfl rfl (fun e2 => W.go 99 rfl ?_) (fun e2 => W.go 99 rfl ?_)
 ·have hk2 : k < 2 ^ s.wants.length := Int.ofNat_lt.1 (of_decide_eq_true e2)
  have hgk : (outs s)[k]? = some (found s k) := by unfold outs; rw [List.getElem?_map, List.getElem?_range hk2]; rfl
  refine W.vf rfl rfl rfl rfl (Vf.idx rfl rfl rfl rfl rfl rfl (hk2)) ?_
  cases hc : crushW s (bits5 k) with
  | none =>
   have hfe : found s k = ⟨k, 0, 0, 0, 0, 0, false⟩ := by unfold found; rw [hc]; rfl
   rw [hfe] at hgk
   refine W.vf rfl rfl rfl rfl (Vf.loadN rfl rfl rfl ((ho.le hl7).whole hgk rfl)) ?_
   refine W.go 99 rfl ?_
   refine W.asLit 43 (p := true) rfl rfl ?_
   refine W.go 99 rfl ?_
   exact W.again (again _ _ _ _ (by omega) ⟨k + 1, ms, rfl, by omega, ⟨hcm.k3, Nat.le_succ_of_le hcm.ln, by rw [hcn _ hc]; exact hcm.sm⟩, hl7, hr7, by rw [hcn _ hc], rfl⟩) (by exact ⟨rfl, rfl, rfl, rfl, rfl, rfl, rfl, rfl, congrArg some (inc64 (by omega)), trivial⟩) (by exact ⟨rfl, rfl, rfl, trivial⟩)
  | some c =>
   have hcw := (crushW_some hc).1
   rw [found_some hc] at hgk
   refine W.vf rfl rfl rfl rfl (Vf.loadN rfl rfl rfl ((ho.le hl7).whole hgk rfl)) ?_
   refine W.go 99 rfl ?_
   refine W.asLit 43 (p := false) rfl rfl ?_
   refine W.go 99 rfl ?_
   have hpk := pay_sp (X := C.X) s p k L7 (hs5.le hl7) hok (by omega) (bits_wn hk2)
   refine W.eff rfl rfl rfl (Ef.call rfl (hpk)) ?_
   rintro _ _ _ ⟨_, rfl, rfl, rfl, hl8⟩
   rename_i L8
   have hr8 := hl8 _ _ hr7
   have hl58 := hl7.trans hl8
   refine W.go 99 rfl ?_
   refine W.split rfl rfl rfl (fun e3 => W.go 99 rfl ?_) (fun e3 => W.go 99 rfl ?_)
   ·have hne : payW s c.w ≠ payW s (crWants (bestW s fun _ => true)) := by rw [hM, hcw]; simpa using e3
    have hno := candU_no hc hne
    exact W.again (again _ _ _ _ (by omega) ⟨k + 1, ms, rfl, by omega, ⟨hcm.k3, Nat.le_succ_of_le hcm.ln, by rw [hno]; exact hcm.sm⟩, hl58, hr8, by rw [hno], rfl⟩) (by exact ⟨rfl, rfl, rfl, rfl, rfl, rfl, rfl, rfl, congrArg some (inc64 (by omega)), trivial⟩) (by exact ⟨rfl, rfl, rfl, trivial⟩)
   have heq : payW s c.w = payW s (crWants (bestW s fun _ => true)) := by rw [hM, hcw]; simpa using e3
   have hyes := candU_yes hc heq
   refine W.eff rfl rfl rfl (Ef.call rfl (has_sp k i (by omega) (by omega) L8)) ?_
   rintro _ _ _ ⟨_, rfl, rfl, rfl, rfl⟩
   refine W.go 99 rfl ?_
   have hin : (bits5 k).contains i = k.testBit i := contains_bits k i (by omega)
   refine W.split rfl rfl rfl (fun e4 => ?_) (fun e4 => ?_)
   ·have hci : c.w.contains i = true := by rw [hcw, hin]; exact e4
    have hput : ∀ o, Le L5 (L8.put r0 o) := fun o b x hx => by
     rw [put_ne _ _ (fun e => by subst e; rw [h5r] at hx; cases hx)]; exact hl58 _ _ hx
    have hfm := findM (k := [c.l.getD 0 0, c.l.getD 1 0, c.l.getD 2 0]) rfl ms hcm.k3
    have hmle := hcm.le
    refine W.go 99 rfl ?_
    refine W.drawn (by kernel_rfl) L5 hl58 ?_
    refine DD.run' [0, 1, 2] rfl ?_
    have hput2 : ∀ o o', Le L5 ((L8.put r0 o).put r0 o') := fun o o' b x hx => by
     rw [put_ne _ _ (fun e => by subst e; rw [h5r] at hx; cases hx)]; exact hput o _ _ hx
    have hput3 : ∀ o o' o'', Le L5 (((L8.put r0 o).put r0 o').put r0 o'') := fun o o' o'' b x hx => by
     rw [put_ne _ _ (fun e => by subst e; rw [h5r] at hx; cases hx)]; exact hput2 o o' _ _ hx
    cases hres : fndK [c.l.getD 0 0, c.l.getD 1 0, c.l.getD 2 0] ms 0 with
    | none =>
     rw [hres] at hfm
     have hnew := hcm.new hyes hci (q := [c.l.getD 0 0, c.l.getD 1 0, c.l.getD 2 0]) rfl
     have hms1 : ∀ x ∈ ms ++ [([c.l.getD 0 0, c.l.getD 1 0, c.l.getD 2 0], 0)], x.1.length = 3 := fun x hx => by
      rcases List.mem_append.1 hx with hx | hx
      ·exact hcm.k3 x hx
      ·rw [List.mem_singleton.1 hx]; rfl
     have hfm1 := findM (k := [c.l.getD 0 0, c.l.getD 1 0, c.l.getD 2 0]) rfl (ms ++ [([c.l.getD 0 0, c.l.getD 1 0, c.l.getD 2 0], 0)]) hms1
     rw [fndK_new hres, Nat.zero_add] at hfm1
     have hx1 : (ms ++ [([c.l.getD 0 0, c.l.getD 1 0, c.l.getD 2 0], 0)])[ms.length]? = some ([c.l.getD 0 0, c.l.getD 1 0, c.l.getD 2 0], 0) := by simp
     have hlen : ms.length < (ms ++ [([c.l.getD 0 0, c.l.getD 1 0, c.l.getD 2 0], 0)]).length := by simp
     have hbn := mapE_born hlen
     have hmd := modify_at hx1
     have hl1 : (ms ++ [([c.l.getD 0 0, c.l.getD 1 0, c.l.getD 2 0], 0)]).length = ms.length + 1 := by simp
     have hl2 : ((ms ++ [([c.l.getD 0 0, c.l.getD 1 0, c.l.getD 2 0], 0)]).modify ms.length fun y => (y.1, y.2 + 1)).length = ms.length + 1 := by simp
     refine DD.act2 3 5 rfl rfl rfl rfl rfl rfl rfl rfl (Ef.val rfl (Vf.lookup1 (kv := intsV [c.l.getD 0 0, c.l.getD 1 0, c.l.getD 2 0]) rfl rfl rfl Tryz.underlying131 hr8 zero3 (key99 (a := c.l.getD 0 0) (b := c.l.getD 1 0) (c := c.l.getD 2 0)) hfm)) (Ef.entryNew (kv := intsV [c.l.getD 0 0, c.l.getD 1 0, c.l.getD 2 0]) rfl rfl rfl Tryz.underlying131 zero3 hr8 (key99 (a := c.l.getD 0 0) (b := c.l.getD 1 0) (c := c.l.getD 2 0)) hfm) (by rintro _ _ _ ⟨rfl, rfl, rfl⟩; exact ⟨hl58, rfl, .inl rfl⟩) (by rintro _ _ _ ⟨rfl, rfl, rfl⟩; exact ⟨hput _, rfl, .inl rfl⟩) ?_ ?_
     ·rintro _ _ _ ⟨rfl, rfl, rfl⟩
      refine DD.run' [4] rfl ?_
      refine DD.act 5 rfl rfl rfl rfl rfl (Ef.entryNew (kv := intsV [c.l.getD 0 0, c.l.getD 1 0, c.l.getD 2 0]) rfl rfl rfl Tryz.underlying131 zero3 hr8 (key99 (a := c.l.getD 0 0) (b := c.l.getD 1 0) (c := c.l.getD 2 0)) hfm) ((by rintro _ _ _ ⟨rfl, rfl, rfl⟩; exact ⟨hput _, rfl, .inl rfl⟩)) ?_
      rintro _ _ _ ⟨rfl, rfl, rfl⟩
      rw [mapE_push]
      refine DD.run' [6] rfl ?_
      refine DD.act 7 rfl rfl rfl rfl rfl (Ef.entryStore rfl rfl rfl rfl (put_same _ _ _) hbn) ((by rintro _ _ _ ⟨rfl, rfl, rfl⟩; exact ⟨hput2 _ _, rfl, .inl rfl⟩)) ?_
      rintro _ _ _ ⟨rfl, rfl, rfl⟩
      refine .fin rfl ?_
      refine W.go 99 rfl ?_
      exact W.again (again _ _ _ _ (by omega) ⟨k + 1, _, rfl, by omega, hnew, hput2 _ _, (by rw [put_same, hl2, ← hmd, ← mapE_set]; rfl), by rw [hyes, List.length_append, List.length_singleton], rfl⟩) (by exact ⟨rfl, rfl, rfl, rfl, congrArg some (inc64 (by omega)), rfl, rfl, rfl, congrArg some (inc64 (by omega)), trivial⟩) (by exact ⟨rfl, rfl, rfl, trivial⟩)
     ·rintro _ _ _ ⟨rfl, rfl, rfl⟩
      rw [mapE_push]
      refine DD.run' [6] rfl ?_
      refine DD.act 3 rfl rfl rfl rfl rfl (Ef.val rfl (Vf.lookup1 (kv := intsV [c.l.getD 0 0, c.l.getD 1 0, c.l.getD 2 0]) rfl rfl rfl Tryz.underlying131 (put_same _ _ _) zero3 (key99 (a := c.l.getD 0 0) (b := c.l.getD 1 0) (c := c.l.getD 2 0)) hfm1)) (by rintro _ _ _ ⟨rfl, rfl, rfl⟩; exact ⟨hput _, rfl, .inl rfl⟩) ?_
      rintro _ _ _ ⟨rfl, rfl, rfl⟩
      refine DD.run' [4] rfl ?_
      refine DD.act 7 rfl rfl rfl rfl rfl (Ef.entryStore rfl rfl rfl rfl (put_same _ _ _) hbn) ((by rintro _ _ _ ⟨rfl, rfl, rfl⟩; exact ⟨hput2 _ _, rfl, .inl rfl⟩)) ?_
      rintro _ _ _ ⟨rfl, rfl, rfl⟩
      refine .fin rfl ?_
      refine W.go 99 rfl ?_
      exact W.again (again _ _ _ _ (by omega) ⟨k + 1, _, rfl, by omega, hnew, hput2 _ _, (by rw [put_same, hl2, ← hmd, ← mapE_set]; rfl), by rw [hyes, List.length_append, List.length_singleton], rfl⟩) (by exact ⟨rfl, rfl, rfl, rfl, congrArg some (inc64 (by omega)), rfl, rfl, rfl, congrArg some (inc64 (by omega)), trivial⟩) (by exact ⟨rfl, rfl, rfl, trivial⟩)
    | some q =>
     obtain ⟨n, v⟩ := q
     rw [hres] at hfm
     obtain ⟨x, _, hx, hxk, rfl⟩ := fndK_some hres
     rw [Nat.sub_zero] at hx
     have hnl : n < ms.length := (List.getElem?_eq_some_iff.1 hx).1
     have hold := hcm.old hyes hci hnl
     have hxs := sumC_le hx
     have hbn := mapE_born hnl
     have hmd := modify_at hx
     have hl2 : (ms.modify n fun y => (y.1, y.2 + 1)).length = ms.length := by simp
     have hge := mapE_get hx
     have hkk : ({ key := intsV x.1, val := .int .i64 x.2, born := n } : MapEntry).key = intsV [c.l.getD 0 0, c.l.getD 1 0, c.l.getD 2 0] := by rw [hxk]
     refine DD.act2 3 5 rfl rfl rfl rfl rfl rfl rfl rfl (Ef.val rfl (Vf.lookup1 (kv := intsV [c.l.getD 0 0, c.l.getD 1 0, c.l.getD 2 0]) rfl rfl rfl Tryz.underlying131 hr8 zero3 (key99 (a := c.l.getD 0 0) (b := c.l.getD 1 0) (c := c.l.getD 2 0)) hfm)) (Ef.entryOld (kv := intsV [c.l.getD 0 0, c.l.getD 1 0, c.l.getD 2 0]) rfl rfl rfl Tryz.underlying131 hr8 hge hkk (bits99 _ _ _) (key99 (a := c.l.getD 0 0) (b := c.l.getD 1 0) (c := c.l.getD 2 0)) hfm) (by rintro _ _ _ ⟨rfl, rfl, rfl⟩; exact ⟨hl58, rfl, .inl rfl⟩) (by rintro _ _ _ ⟨rfl, rfl, rfl⟩; exact ⟨hput _, rfl, .inl rfl⟩) ?_ ?_
     ·rintro _ _ _ ⟨rfl, rfl, rfl⟩
      refine DD.run' [4] rfl ?_
      refine DD.act 5 rfl rfl rfl rfl rfl (Ef.entryOld (kv := intsV [c.l.getD 0 0, c.l.getD 1 0, c.l.getD 2 0]) rfl rfl rfl Tryz.underlying131 hr8 hge hkk (bits99 _ _ _) (key99 (a := c.l.getD 0 0) (b := c.l.getD 1 0) (c := c.l.getD 2 0)) hfm) ((by rintro _ _ _ ⟨rfl, rfl, rfl⟩; exact ⟨hput _, rfl, .inl rfl⟩)) ?_
      rintro _ _ _ ⟨rfl, rfl, rfl⟩
      refine DD.run' [6] rfl ?_
      refine DD.act 7 rfl rfl rfl rfl rfl (Ef.entryStore rfl rfl rfl rfl (put_same _ _ _) hbn) ((by rintro _ _ _ ⟨rfl, rfl, rfl⟩; exact ⟨hput2 _ _, rfl, .inl rfl⟩)) ?_
      rintro _ _ _ ⟨rfl, rfl, rfl⟩
      refine .fin rfl ?_
      refine W.go 99 rfl ?_
      exact W.again (again _ _ _ _ (by omega) ⟨k + 1, _, rfl, by omega, hold, hput2 _ _, (by rw [put_same, hl2, ← hmd, ← mapE_set]; exact congrArg (fun z => some (Obj.map ((mapE ms).modify n fun e => { e with val := .int .i64 z }) ms.length, true)) (nat1 (by omega))), by rw [hyes, List.length_append, List.length_singleton], rfl⟩) (by exact ⟨rfl, rfl, rfl, rfl, congrArg some (inc64 (by omega)), rfl, rfl, rfl, congrArg some (inc64 (by omega)), trivial⟩) (by exact ⟨rfl, rfl, rfl, trivial⟩)
     ·rintro _ _ _ ⟨rfl, rfl, rfl⟩
      refine DD.run' [6] rfl ?_
      refine DD.act 3 rfl rfl rfl rfl rfl (Ef.val rfl (Vf.lookup1 (kv := intsV [c.l.getD 0 0, c.l.getD 1 0, c.l.getD 2 0]) rfl rfl rfl Tryz.underlying131 (put_same _ _ _) zero3 (key99 (a := c.l.getD 0 0) (b := c.l.getD 1 0) (c := c.l.getD 2 0)) hfm)) (by rintro _ _ _ ⟨rfl, rfl, rfl⟩; exact ⟨hput _, rfl, .inl rfl⟩) ?_
      rintro _ _ _ ⟨rfl, rfl, rfl⟩
      refine DD.run' [4] rfl ?_
      refine DD.act 7 rfl rfl rfl rfl rfl (Ef.entryStore rfl rfl rfl rfl (put_same _ _ _) hbn) ((by rintro _ _ _ ⟨rfl, rfl, rfl⟩; exact ⟨hput2 _ _, rfl, .inl rfl⟩)) ?_
      rintro _ _ _ ⟨rfl, rfl, rfl⟩
      refine .fin rfl ?_
      refine W.go 99 rfl ?_
      exact W.again (again _ _ _ _ (by omega) ⟨k + 1, _, rfl, by omega, hold, hput2 _ _, (by rw [put_same, hl2, ← hmd, ← mapE_set]; exact congrArg (fun z => some (Obj.map ((mapE ms).modify n fun e => { e with val := .int .i64 z }) ms.length, true)) (nat1 (by omega))), by rw [hyes, List.length_append, List.length_singleton], rfl⟩) (by exact ⟨rfl, rfl, rfl, rfl, congrArg some (inc64 (by omega)), rfl, rfl, rfl, congrArg some (inc64 (by omega)), trivial⟩) (by exact ⟨rfl, rfl, rfl, trivial⟩)
   ·have hci : c.w.contains i = false := by rw [hcw, hin]; exact e4
    refine W.go 99 rfl ?_
    exact W.again (again _ _ _ _ (by omega) ⟨k + 1, ms, rfl, by omega, hcm.no hyes hci, hl58, hr8, by rw [hyes, List.length_append, List.length_singleton], rfl⟩) (by exact ⟨rfl, rfl, rfl, rfl, congrArg some (inc64 (by omega)), rfl, rfl, rfl, congrArg some (inc64 (by omega)), trivial⟩) (by exact ⟨rfl, rfl, rfl, trivial⟩)
 ·have hke : k = 2 ^ s.wants.length := by
   have : ¬ (k : Int) < ((2 ^ s.wants.length : Nat) : Int) := of_decide_eq_false e2
   have := mt Int.ofNat_lt.2 this
   omega
  subst hke
  have hcand : candU s (2 ^ s.wants.length) = ((allW s).filterMap id).filter fun c => payW s c.w == payW s (crWants (bestW s fun _ => true)) := rfl
  have hv := verd_cnt s i
  rw [← hcand, ← hcm.sm] at hv
  have hmle := hcm.le
  clear hcand again hcn
  refine W.eff rfl rfl rfl (Ef.range rfl Tryz.underlying131 hr7) ?_
  rintro _ _ _ ⟨q0, rfl, rfl, hq0, rfl⟩
  have hqr : r0 ≠ q0 := fun e => by subst e; rw [hr7] at hq0; cases hq0
  have h5q : L5 q0 = none := by
   cases hx : L5 q0 with
   | none => rfl
   | some x => rw [hl7 _ _ hx] at hq0; cases hq0
  have hput : ∀ {L' : LH} o, Le L5 L' → Le L5 (L'.put q0 o) := fun {L'} o hL b x hx => by
   rw [put_ne _ _ (fun e => by subst e; rw [h5q] at hx; cases hx)]; exact hL _ _ hx
  refine W.go 99 rfl ?_
  refine W.loop (fun m E B L' => ∃ (seen : Array Nat), m = ms.length - seen.size ∧ seen.toList.Nodup ∧ (∀ j ∈ seen.toList, j < ms.length) ∧ Le L5 L' ∧ L' r0 = some (.map (mapE ms) ms.length, true) ∧ L' q0 = some (.mapIter (some r0) ms.length seen ms.length, true) ∧
    E = [(10, .v (.int .i64 ((candU s (2 ^ s.wants.length)).length : Nat))), (11, .v (.int .i64 (seenC ms seen.toList : Nat))), (66, .v (.pointer (some ⟨q0, 0, none⟩)))] ∧ B = [])
   ⟨#[], rfl, by simp, (fun j hj => by simp at hj), hput _ hl7, by rw [put_ne _ _ hqr]; exact hr7, put_same _ _ _, rfl, rfl⟩ (by exact ⟨rfl, rfl, rfl, trivial⟩) (by exact trivial) ?_
  rintro _ _ _ L8 ⟨seen, rfl, hnd, hlt, hl8, hr8, hq8, rfl, rfl⟩ again
  have hborn : ∀ e ∈ mapE ms, e.born < ms.length ∧ e.born < ms.length := fun e he => by
   obtain ⟨x, hx, _⟩ := mapE_mem he
   have := (List.getElem?_eq_some_iff.1 hx).1
   exact ⟨this, this⟩
  refine W.go 99 rfl ?_
  refine W.eff rfl rfl rfl (Ef.next rfl hq8 hr8 hborn) ?_
  rintro _ _ _ ⟨rfl, hcase⟩
  rcases hcase with ⟨rfl, hall, rfl⟩ | ⟨e, he, hns, rfl, rfl⟩
  ·have hsum : seenC ms seen.toList = sumC ms := seenC_all hnd fun j => by
    refine ⟨hlt j, fun hj => ?_⟩
    have hm : (mapE ms)[j]? = some _ := mapE_get (List.getElem?_eq_getElem hj)
    have := hall _ (Array.mem_of_getElem? hm)
    simpa using this
   rw [hsum]
   refine W.go 99 rfl ?_
   refine W.split rfl rfl rfl (fun c => absurd c (by decide)) (fun c => ?_)
   refine W.go 99 rfl ?_
   refine W.split rfl rfl rfl (fun e3 => W.go 99 rfl ?_) (fun e3 => W.go 99 rfl ?_)
   ·have h0 : sumC ms = 0 := by have : ((sumC ms : Nat) : Int) = 0 := (by simpa using e3); omega
    refine W.ret r rfl rfl ?_
    rw [hv, if_pos h0]
    exact ⟨rfl, hd5.trans (Dim.of_le hl8)⟩
   have h0 : ¬ sumC ms = 0 := by have : ¬ ((sumC ms : Nat) : Int) = 0 := (by simpa using e3); omega
   rw [if_neg h0] at hv
   refine W.split rfl rfl rfl (fun e4 => W.go 99 rfl ?_) (fun e4 => W.go 99 rfl ?_)
   ·have h1 : sumC ms = (candU s (2 ^ s.wants.length)).length := by have : ((sumC ms : Nat) : Int) = ((candU s (2 ^ s.wants.length)).length : Nat) := (by simpa using e4); omega
    refine W.ret r rfl rfl ?_
    rw [hv, if_pos h1]
    exact ⟨rfl, hd5.trans (Dim.of_le hl8)⟩
   have h1 : ¬ sumC ms = (candU s (2 ^ s.wants.length)).length := by have : ¬ ((sumC ms : Nat) : Int) = ((candU s (2 ^ s.wants.length)).length : Nat) := (by simpa using e4); omega
   refine W.ret r rfl rfl ?_
   rw [hv, if_neg h1]
   exact ⟨rfl, hd5.trans (Dim.of_le hl8)⟩
  ·obtain ⟨x, hx, hxv, hfe⟩ := mapE_mem he
   obtain ⟨ek, ev, eb⟩ := e
   obtain rfl : ev = .int .i64 x.2 := hxv
   dsimp only at hx hfe hns
   have hxl := (List.getElem?_eq_some_iff.1 hx).1
   have hnew : eb ∉ seen.toList := fun hm => by
    have : seen.contains eb = true := by simpa using hm
    rw [this] at hns; cases hns
   have hnd2 : (seen.push eb).toList.Nodup := by
    rw [Array.toList_push, List.nodup_append]
    exact ⟨hnd, by simp, fun a ha b hb => by rw [List.mem_singleton.1 hb]; exact fun e => hnew (e ▸ ha)⟩
   have hlt2 : ∀ j ∈ (seen.push eb).toList, j < ms.length := fun j hj => by
    rw [Array.toList_push] at hj
    rcases List.mem_append.1 hj with h | h
    ·exact hlt j h
    ·rw [List.mem_singleton.1 h]; exact hxl
   have hsz := seenC_le hnd2 hlt2
   rw [Array.toList_push, List.length_append, List.length_singleton, Array.length_toList] at hsz
   have hle1 := seenC_bd (ms := ms) (B := 32) (fun y hy => by obtain ⟨j, hj⟩ := List.mem_iff_getElem?.1 hy; have := sumC_le hj; omega) seen.toList
   have hxs := sumC_le hx
   have hln := hcm.ln
   rw [Array.length_toList] at hle1
   have hle3 : seen.size * 32 ≤ 32 * 32 := Nat.mul_le_mul_right _ (by omega)
   refine W.go 99 rfl ?_
   refine W.split rfl rfl rfl (fun c => ?_) (fun c => absurd c (by decide))
   refine W.go 99 rfl ?_
   refine W.vf rfl rfl rfl rfl (Vf.entry (e := ⟨ek, .int .i64 x.2, eb⟩) rfl (put_same _ _ _) (by rw [put_ne _ _ hqr]; exact hr8) (by simp) hfe) ?_
   refine W.go 99 rfl ?_
   have hwr : IntKind.i64.wrap (((seenC ms seen.toList : Nat) : Int) + ((x.2 : Nat) : Int)) = ((seenC ms (seen.push eb).toList : Nat) : Int) := by
    rw [Array.toList_push, seenC_snoc _ _ hx, wrap64_in _ (by omega) (by omega)]; omega
   exact W.again (again _ _ _ _ (by rw [Array.size_push]; omega) ⟨seen.push eb, rfl, hnd2, hlt2, hput _ hl8, by rw [put_ne _ _ hqr]; exact hr8, put_same _ _ _, rfl, rfl⟩) (by exact ⟨rfl, congrArg (fun z => some (SV.v (Value.int .i64 z))) hwr, rfl, trivial⟩) (by exact trivial)
end Go.Mz


set_option maxRecDepth 100000
namespace Go.Mz
open Go.Conc Go.Proofs
variable {X : Logic Tryz.prog}
end Go.Mz


set_option maxRecDepth 100000
namespace Go.Mz
open Go.Conc Go.Proofs
variable {X : Logic Tryz.prog}
theorem most_bd {s : Sw} (hok : SOk s) (l : List (List Nat)) (h : ∀ w ∈ l, WnOk s w ∧ w.length ≤ 5) : 0 ≤ mostW s l ∧ mostW s l ≤ 1000 := by
 induction l using snoc_ind with
 | h0 => exact ⟨Int.le_refl 0, by show (0 : Int) ≤ 1000; decide⟩
 | h1 l w ih =>
  rw [mostW_snoc]
  have h1 := ih fun w hw => h w (List.mem_append_left _ hw)
  have h2 := (h w (List.mem_append_right _ List.mem_cons_self)).2
  have := pay_bd hok w
  omega
end Go.Mz

