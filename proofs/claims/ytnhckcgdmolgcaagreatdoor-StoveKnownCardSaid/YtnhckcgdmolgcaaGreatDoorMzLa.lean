/- Lemmas on which the claim leans. -/
import Derived.Test.YtnhckcgdmolgcaaGreatDoorMzAv
set_option maxRecDepth 100000
namespace Go.Mz
open Go.Conc Go.Proofs
variable {X : Logic Tryz.prog}
def q0 : Nat → Nat → Nat → Bool := fun _ _ _ => false
theorem putRow_all {c : Array Value} {vs : List Value} (h : c.size = vs.length) : putRow c 0 vs = vs.toArray := by
 apply Array.toList_inj.1
 apply List.ext_getElem?
 intro j
 rw [Array.getElem?_toList, putRow_get, if_neg (Nat.not_lt_zero _)]
 show _ = vs[j]?
 split
 ·rename_i h1
  exact (List.getElem?_eq_getElem (show j < vs.length by have := h1.1; omega)).symm
 ·rename_i h1
  rw [Array.getElem?_eq_none (by omega), List.getElem?_eq_none (by omega)]
theorem caught_sp (bq be : Nat) (q : Nat → Nat → Nat → Bool) (e e0 : Int) (hne : be ≠ bq) (L : LH) (hq : L bq = some (.cells (encQ q).toArray 148 (0, 0), true)) (he : L be = some (.cells #[.int .i64 e0] 44 (0, 0), true)) :
  SpD X 141 [.pointer (some ⟨bq, 0, none⟩), .pointer (some ⟨be, 0, none⟩)] (.panicking [pe1 (badV e)]) L (fun md L' => md = .returning ∧ L' = (L.put bq (.cells (encQ q0).toArray 148)).put be (.cells #[.int .i64 e] 44)) := by
 refine SpD.enter (n := 13) Tryz.func141 rfl rfl rfl rfl fun C hX _ hL0 r => ?_
 refine W.go 99 rfl ?_
 refine W.recoverP (sv := .v (badV e)) r rfl rfl rfl rfl fun C' hX' _ _ _ r => ?_
 refine W.go 99 rfl ?_
 refine W.split rfl rfl rfl (fun _ => W.go 99 rfl ?_) (fun h => absurd h (by simp))
 refine W.drawn (by kernel_rfl) noL (noL_le _) ?_
 refine DD.run' [0, 1, 2] rfl ?_
 refine DD.act 3 rfl rfl rfl rfl rfl (Ef.stoF rfl ⟨_, rfl, rfl⟩ rfl hq rfl (by rw [List.size_toArray, encQ_len]; exact Nat.le_refl _) (singles rfl)) (by rintro _ _ _ ⟨rfl, rfl, rfl⟩; exact ⟨noL_le _, rfl, .inl rfl⟩) ?_
 rintro _ _ _ ⟨rfl, rfl, rfl⟩
 refine DD.act 4 rfl rfl rfl rfl rfl (Ef.stoF rfl ⟨_, rfl, rfl⟩ rfl ((put_ne _ _ hne).trans he) rfl (Nat.le_refl _) (singles rfl)) (by rintro _ _ _ ⟨rfl, rfl, rfl⟩; exact ⟨noL_le _, rfl, .inl rfl⟩) ?_
 rintro _ _ _ ⟨rfl, rfl, rfl⟩
 refine .fin rfl ?_
 refine W.go 99 rfl ?_
 refine W.retD r rfl (.inl rfl) ⟨rfl, ?_⟩
 rw [putRow_all (c := (encQ q).toArray) (by rw [List.size_toArray, encQ_len]; rfl)]
 rfl
theorem calm_sp (bq be : Nat) (L : LH) :
  SpD X 141 [.pointer (some ⟨bq, 0, none⟩), .pointer (some ⟨be, 0, none⟩)] .returning L (fun md L' => md = .returning ∧ L' = L) := by
 refine SpD.enter (n := 13) Tryz.func141 rfl rfl rfl rfl fun C hX _ hL0 r => ?_
 refine W.go 99 rfl ?_
 refine W.recoverN r rfl rfl rfl ?_
 refine W.go 99 rfl ?_
 refine W.split rfl rfl rfl (fun h => absurd h (by simp)) (fun _ => W.go 99 rfl ?_)
 exact W.retD r rfl (.inl rfl) ⟨rfl, rfl⟩
theorem qOf_put {s : St} {hs : List Int} (hhk : HOk s hs) {l : List Stand} {c : Cone} {a : Stand} (hc : s.cones[l.length]? = some c) (h0 : putE s hs c a = 0) :
  (if a.shelf = -1 then qOf s hs l else qUp (qOf s hs l) a.shelf.toNat l.length a.day.toNat ((fateS s hs c a).2 + 1).toNat) = qOf s hs (l ++ [a]) := by
 by_cases e : a.shelf = -1
 ·rw [if_pos e]
  have : a.day = 0 := by
   unfold putE at h0
   rw [if_pos e] at h0
   split at h0
   ·assumption
   ·cases h0
  obtain ⟨a1, a2⟩ := a
  subst e; subst this
  exact (qOf_none s hs l).symm
 ·rw [if_neg e]
  have hst : isStand s a = true := by
   unfold putE at h0
   rw [if_neg e] at h0
   split at h0
   ·cases h0
   ·rename_i h; simpa using h
  obtain ⟨k, d0, rfl, hk, hd⟩ := stand_nat hhk hst
  have hfd := fate_day (s := s) (c := c) (k := k) (d := d0) (hs := hs) (by have := hhk.len; omega)
  simp only [Int.toNat_natCast]
  exact qOf_add s hs l hc (by omega)
theorem placed_sp (b : Nat) (s : St) (p : Pt) (ha la : Option Addr) (hc lc : Nat) (hs : List Int) (t0 t1 t2 mv : Value) (l : List Stand) (L : LH) (h : SvAt L b s p ha hc hs t0 t1 t2 mv) (hg : GlOk L) (hl : SlAt L la 2 encSt l) (hn : l.length ≤ 140737488355328) :
  Sp X 116 [.pointer (some ⟨b, 0, none⟩), .slice la l.length lc] L (fun v L' => v = .tuple #[.agg (encQ (if planE s hs l = 0 then qOf s hs l else q0)).toArray, .int .i64 (planE s hs l)] ∧ Le L L') := by
 have hc3 := h.ok.c3
 refine Sp.enter (n := 46) Tryz.func116 rfl rfl rfl rfl fun C hX _ hL0 r => ?_
 refine W.go 99 rfl ?_
 refine W.drawn (by kernel_rfl) _ (Le.refl _) ?_
 refine DD.run' [0, 1, 2, 3, 4, 5] rfl ?_
 refine DD.vf 6 rfl rfl rfl rfl rfl (Vf.load rfl rfl rfl (h.cell 1 rfl)) ?_
 refine DD.run' [7, 8, 9, 10, 11] rfl ?_
 refine DD.vf 12 rfl rfl rfl rfl rfl (Vf.load rfl rfl rfl (h.cell 1 rfl)) ?_
 refine DD.run' [13] rfl ?_
 refine DD.act 14 rfl rfl rfl rfl rfl (Ef.call rfl (sized_sp _ _ _ _)) (by rintro _ _ _ ⟨_, rfl, rfl, rfl, rfl⟩; exact ⟨Le.refl _, rfl, .inl rfl⟩) ?_
 rintro _ _ _ ⟨_, rfl, rfl, rfl, rfl⟩
 refine DD.run' [15] rfl ?_
 refine .fin rfl ?_
 refine W.go 99 rfl ?_
 refine W.split rfl rfl rfl (fun e1 => W.go 99 rfl ?_) (fun e1 => W.go 99 rfl ?_)
 ·refine W.ret r rfl rfl ?_
  have e2 : sizedE l.length s.cones.length s.cones.length ≠ 0 := by simpa using e1
  have e3 : planE s hs l = sizedE l.length s.cones.length s.cones.length := by unfold planE; rw [if_pos e2]
  rw [e3, if_neg e2]
  exact ⟨rfl, Le.refl _⟩
 have e2 : sizedE l.length s.cones.length s.cones.length = 0 := by simpa using e1
 have hln : l.length = s.cones.length := by rw [sizedE_0] at e2; omega
 have hpE : planE s hs l = if putsE s hs s.cones l ≠ 0 then putsE s hs s.cones l else if fitsS s hs l then 0 else 6 := by
  unfold planE
  rw [e2]; simp
 refine W.pub 4 (.inl ⟨_, rfl⟩) rfl rfl ?_
 intro bq hbq _
 refine W.pub 5 (.inl ⟨_, rfl⟩) rfl rfl ?_
 intro be hbe _
 have hbe' : be ≠ bq := fun e => by subst e; rw [put_same] at hbe; cases hbe
 have hbeL : L be = none := by rw [put_ne _ _ hbe'] at hbe; exact hbe
 refine W.go 99 rfl ?_
 refine W.deferV r.ro rfl rfl rfl rfl ?_
 change W C _ _ _ _ _ ((L.put bq (.cells (encQ q0).toArray 148)).put be (.cells #[.int .i64 0] 44))
 have hle1 : Le L ((L.put bq (.cells (encQ q0).toArray 148)).put be (.cells #[.int .i64 0] 44)) := le_put_none (Le.put hbq _) hbeL _
 have hq1 : ((L.put bq (.cells (encQ q0).toArray 148)).put be (.cells #[.int .i64 0] 44)) bq = some (.cells (encQ q0).toArray 148 (0, 0), true) := (put_ne _ _ hbe'.symm).trans (put_same _ _ _)
 have he1 : ((L.put bq (.cells (encQ q0).toArray 148)).put be (.cells #[.int .i64 0] 44)) be = some (.cells #[.int .i64 0] 44 (0, 0), true) := put_same _ _ _
 generalize (L.put bq (.cells (encQ q0).toArray 148)).put be (.cells #[.int .i64 0] 44) = L1 at hle1 hq1 he1 ⊢
 have bad : ∀ {E : Env} {B : List (Option Bx)} {L2 : LH} {q : Nat → Nat → Nat → Bool} (e : Int), get E 4 = some (.v (pt bq)) → get E 5 = some (.v (pt be)) → planE s hs l = e → e ≠ 0 → Le L L2 → L2 bq = some (.cells (encQ q).toArray 148 (0, 0), true) → L2 be = some (.cells #[.int .i64 0] 44 (0, 0), true) →
   WM C 46 [⟨.fn (.func 141) #[pt bq, pt be], #[]⟩] (.panicking [pe1 (badV e)]) E B L2 := by
  intro E B L2 q e h4 h5 hp h0 hl2 hq he
  refine WM.deferred rfl rfl (caught_sp bq be q e 0 hbe' L2 hq he) ?_
  rintro _ _ ⟨rfl, rfl⟩
  refine WM.ret2 r rfl h4 h5 (loadNF rfl rfl (cellsAt_n ((put_ne _ _ hbe'.symm).trans (put_same _ _ _)) (encQ_len _))) (load1F rfl (cell_of (put_same _ _ _) rfl)) ⟨?_, le_put_none (le_put_none hl2 hbq _) hbeL _⟩
  rw [hp, if_neg h0]; rfl
 refine W.go 99 rfl ?_
 refine W.loop (fun m E B L' => ∃ i : Nat, m = l.length - i ∧ i ≤ l.length ∧ Le L L' ∧ L' bq = some (.cells (encQ (qOf s hs (l.take i))).toArray 148 (0, 0), true) ∧ L' be = some (.cells #[.int .i64 0] 44 (0, 0), true) ∧ putsE s hs (s.cones.drop i) (l.drop i) = putsE s hs s.cones l ∧
   E = [(0, .v (pt b)), (4, .v (pt bq)), (5, .v (pt be)), (29, .v (.slice la l.length lc)), (30, .v (.int .i64 l.length)), (31, .v (.int .i64 i))] ∧ B = [])
  ⟨0, rfl, by omega, hle1, by rw [List.take_zero, qOf_nil]; exact hq1, he1, by simp, rfl, rfl⟩ (by exact ⟨rfl, rfl, rfl, rfl, rfl, rfl, trivial⟩) (by exact trivial) ?_
 rintro _ _ _ L2 ⟨i, rfl, h1, hle2, hq2, he2, hpp, rfl, rfl⟩ again
 refine W.go 99 rfl ?_
 refine W.split rfl rfl rfl (fun d1 => W.go 99 rfl ?_) (fun d1 => W.go 99 rfl ?_)
 ·have hi : i < l.length := by simpa using d1
  have hic : i < s.cones.length := by omega
  have hge := List.getElem?_eq_getElem hi
  have hcc : s.cones[(l.take i).length]? = some s.cones[i] := by rw [List.length_take, Nat.min_eq_left (by omega)]; exact List.getElem?_eq_getElem hic
  obtain ⟨lad, rfl⟩ := hl.addr hi
  rw [List.drop_eq_getElem_cons hi, List.drop_eq_getElem_cons hic, putsE] at hpp
  refine W.vf rfl rfl rfl rfl (Vf.idx rfl rfl rfl rfl rfl rfl (hi)) ?_
  refine W.go 99 rfl ?_
  refine W.vf rfl rfl rfl rfl (Vf.loadN rfl rfl rfl ((hl.le hle2).whole hge rfl)) ?_
  refine W.go 99 rfl ?_
  have hput := put_sp (X := C.X) b bq s p ha hc hs t0 t1 t2 mv s.cones[i] i l[i] (qOf s hs (l.take i)) (List.getElem?_eq_getElem hic) L2 (h.le hle2) (hg.le hle2) hq2
  refine W.callP rfl rfl rfl rfl (hput) ?_ ?_
  ·rintro _ L3 ⟨hp0, rfl, hq3, hk3⟩
   have hle3 : Le L L3 := fun b' x hx => hk3 b' x (fun e => by subst e; rw [hbq] at hx; cases hx) (hle2 _ _ hx)
   have hq4 := qOf_put h.hok hcc hp0
   rw [List.length_take, Nat.min_eq_left (by omega)] at hq4
   rw [hq4, show l.take i ++ [l[i]] = l.take (i + 1) by rw [List.take_add_one, hge]; rfl] at hq3
   refine W.go 99 rfl ?_
   exact W.again (again _ _ _ _ (by omega) ⟨i + 1, rfl, by omega, hle3, hq3, hk3 _ _ hbe' he2, by rw [← hpp, if_neg (by rw [hp0]; simp)], rfl, rfl⟩) (by exact ⟨rfl, rfl, rfl, rfl, rfl, congrArg some (inc64 (by omega)), trivial⟩) (by exact trivial)
  ·rintro ch L3 ⟨hp0, rfl, hle3⟩
   have hpu : putsE s hs s.cones l = putE s hs s.cones[i] l[i] := by rw [← hpp, if_pos hp0]
   exact bad _ rfl rfl (by rw [hpE, hpu, if_pos hp0]) hp0 (hle2.trans hle3) (hle3 _ _ hq2) (hle3 _ _ he2)
 ·have hie : i = l.length := by simp at d1; omega
  subst hie
  rw [List.take_length] at hq2
  have hp0 : putsE s hs s.cones l = 0 := by rw [← hpp, List.drop_length, hln, List.drop_length]; rfl
  rw [hp0] at hpE
  have hpE : planE s hs l = if fitsS s hs l then 0 else 6 := by simpa using hpE
  refine W.vf rfl rfl rfl rfl (Vf.loadN rfl rfl rfl (cellsAt_n hq2 (encQ_len _))) ?_
  refine W.go 99 rfl ?_
  have hr := room_sp (X := C.X) b s p ha hc hs t0 t1 t2 mv (qOf s hs l) L2 (h.le hle2)
  rw [roomB_fits hc3] at hr
  refine W.eff rfl rfl rfl (Ef.call rfl (hr)) ?_
  rintro _ _ _ ⟨_, rfl, rfl, rfl, hle3⟩
  rename_i L3
  cases hf : fitsS s hs l with
  | false =>
   rw [if_neg (by rw [hf]; simp)] at hpE
   refine W.go 99 rfl ?_
   refine W.callP rfl rfl rfl rfl (must_no _ _) ?_ ?_
   ·exact fun _ _ h => h.elim
   ·rintro _ _ ⟨rfl, rfl⟩
    exact bad 6 rfl rfl hpE (by decide) (hle2.trans hle3) (hle3 _ _ hq2) (hle3 _ _ he2)
  | true =>
   rw [if_pos hf] at hpE
   refine W.go 99 rfl ?_
   refine W.eff rfl rfl rfl (Ef.call rfl (must_ok _ _)) ?_
   rintro _ _ _ ⟨_, rfl, rfl, rfl, rfl⟩
   refine W.go 99 rfl ?_
   refine W.vf rfl rfl rfl rfl (Vf.loadN rfl rfl rfl (cellsAt_n (hle3 _ _ hq2) (encQ_len _))) ?_
   refine W.go 99 rfl ?_
   refine W.eff0 rfl rfl (Ef.stoF rfl ⟨_, rfl, rfl⟩ rfl (hle3 _ _ hq2) rfl (by rw [List.size_toArray, encQ_len]; exact Nat.le_refl _) (singles rfl)) ?_
   rintro _ _ _ ⟨rfl, rfl, rfl⟩
   refine W.go 99 rfl ?_
   refine W.eff0 rfl rfl (Ef.stoF rfl ⟨_, rfl, rfl⟩ rfl ((put_ne _ _ hbe').trans (hle3 _ _ he2)) rfl (Nat.le_refl _) (singles rfl)) ?_
   rintro _ _ _ ⟨rfl, rfl, rfl⟩
   refine W.go 99 rfl ?_
   have hrow : putRow (encQ (qOf s hs l)).toArray 0 (Value.agg (encQ (qOf s hs l)).toArray).cells.toList = (encQ (qOf s hs l)).toArray := by
    rw [putRow_all (by rw [List.size_toArray, encQ_len]; rfl)]
    rfl
   refine W.out r.ro (.inr .ret) ?_
   refine WM.deferred rfl rfl (calm_sp bq be _) ?_
   rintro _ _ ⟨rfl, rfl⟩
   refine WM.ret2 r rfl rfl rfl (loadNF rfl rfl (cellsAt_n (vs := encQ (qOf s hs l)) (e := 148) (fz := (0, 0)) (wr := true) ?_ (encQ_len _))) (load1F rfl (cell_of (put_same _ _ _) rfl)) ⟨?_, le_put_none (le_put_none (hle2.trans hle3) hbq _) hbeL _⟩
   ·rw [put_ne _ _ hbe'.symm, put_same, hrow]
   ·rw [hpE]; rfl
end Go.Mz


set_option maxRecDepth 100000
namespace Go.Mz
open Go Go.Conc Go.Proofs
def plansG (s : St) (hs : List Int) (each : Bool) (b : List Stand) : List (List Stand) := if fitsS s hs b then grow (fitsS s hs) ((optsS s hs allC each).drop b.length) b else []
section
variable {s : St} {hs : List Int} {each : Bool} {b : List Stand}
end
def heatsG (s : St) (b : List Int) : List (List Int) := (heatsAll s.top s.rise (s.days.toNat - b.length) (b.getLast?.getD s.now)).map (b ++ ·)
section
variable {s : St} {b : List Int}
end
def fireStep (s : St) (b : Option (List Int)) (x : List Int) : Option (List Int) := if canS s x then takeLess sumL b x else b
end Go.Mz


set_option maxRecDepth 100000
namespace Go.Mz
open Go
section
variable {s : St} {hs : List Int}
end
def pickL (n : Nat) : Nat → Nat → List (List Nat)
 | 0, _ => [[]]
 | m + 1, first => (List.range' first (n - first)).flatMap fun i => (pickL n m (i + 1)).map (i :: ·)
end Go.Mz


namespace Go.Mz
open Go
theorem mem_grow {fit : List Stand → Bool} : ∀ {os : List (List Stand)} {b x : List Stand}, x ∈ grow fit os b ↔ ∃ t, x = b ++ t ∧ t.length = os.length ∧ (∀ (i : Nat) (o : List Stand) (a : Stand), os[i]? = some o → t[i]? = some a → a ∈ o) ∧ ∀ i, i < t.length → fit (b ++ t.take (i + 1)) = true
 | [], b, x => by
  simp only [grow, List.mem_singleton]
  constructor
  ·rintro rfl; exact ⟨[], by simp, rfl, fun i o a h => by simp at h, fun i h => by simp at h⟩
  ·rintro ⟨t, rfl, h, _⟩
   obtain rfl := List.length_eq_zero_iff.1 h
   simp
 | o :: os, b, x => by
  simp only [grow, List.mem_flatMap]
  constructor
  ·rintro ⟨a, ha, hx⟩
   by_cases hf : fit (b ++ [a]) = true
   ·rw [if_pos hf] at hx
    obtain ⟨t, rfl, h1, h2, h3⟩ := mem_grow.1 hx
    refine ⟨a :: t, by simp, by simp [h1], fun i o' a' ho ha' => ?_, fun i hi => ?_⟩
    ·cases i with
     | zero => simp at ho ha'; subst ho; subst ha'; exact ha
     | succ i => exact h2 i o' a' (by simpa using ho) (by simpa using ha')
    ·cases i with
     | zero => simpa using hf
     | succ i => have := h3 i (by simpa using hi); simpa using this
   ·rw [if_neg hf] at hx; cases hx
  ·rintro ⟨t, rfl, h1, h2, h3⟩
   cases t with
   | nil => simp at h1
   | cons a t =>
    have hf : fit (b ++ [a]) = true := by have := h3 0 (by simp); simpa using this
    refine ⟨a, h2 0 o a rfl rfl, ?_⟩
    rw [if_pos hf]
    refine mem_grow.2 ⟨t, by simp, by simpa using h1, fun i o' a' ho ha' => h2 (i + 1) o' a' (by simpa using ho) (by simpa using ha'), fun i hi => ?_⟩
    have := h3 (i + 1) (by simpa using hi)
    simpa using this
theorem filter_le {α : Type} {p q : α → Bool} {l : List α} (h : ∀ x ∈ l, p x = true → q x = true) : (l.filter p).length ≤ (l.filter q).length := by
 rw [← List.countP_eq_length_filter, ← List.countP_eq_length_filter]
 exact List.countP_mono_left h
theorem fits_iff {s : St} {hs : List Int} {l : List Stand} : fitsS s hs l = true ↔ ∀ k, k < s.shelves.length → ∀ d, d < s.days.toNat → ((onS s hs l k d).length : Int) ≤ roomOf s k := by
 unfold fitsS
 simp only [List.all_eq_true, List.mem_range, decide_eq_true_eq]
theorem on_mono {s : St} {hs : List Int} {l m : List Stand} {k d : Nat} : (onS s hs l k d).length ≤ (onS s hs (l ++ m) k d).length := by
 unfold onS
 refine filter_le fun i _ h => ?_
 unfold onB at h ⊢
 cases hl : l[i]? with
 | none => rw [hl] at h; cases h
 | some a =>
  have : (l ++ m)[i]? = some a := by rw [List.getElem?_append_left (List.getElem?_eq_some_iff.1 hl).1]; exact hl
  rw [hl] at h
  rw [this]
  exact h
theorem fits_pre {s : St} {hs : List Int} {l m : List Stand} (h : fitsS s hs (l ++ m) = true) : fitsS s hs l = true := by
 rw [fits_iff] at h ⊢
 intro k hk d hd
 have h1 := h k hk d hd
 have h2 := on_mono (s := s) (hs := hs) (l := l) (m := m) (k := k) (d := d)
 omega
theorem mem_plans {s : St} (h : Ok s) {hs : List Int} {so : Nat → Bool} {each : Bool} {x : List Stand} :
  x ∈ plansS s hs so each ↔ x.length = s.cones.length ∧ (∀ (i : Nat) (c : Cone) (a : Stand), s.cones[i]? = some c → x[i]? = some a → a ∈ optS s hs (so i) each c) ∧ fitsS s hs x = true := by
 unfold plansS
 rw [mem_grow]
 constructor
 ·rintro ⟨t, ht, h1, h2, h3⟩
  have ht : x = t := by simpa using ht
  subst ht
  rw [opts_len] at h1
  refine ⟨h1, fun i c a hc ha => h2 i _ a (opts_get hc) ha, ?_⟩
  cases ht : x.length with
  | zero =>
   obtain rfl := List.length_eq_zero_iff.1 ht
   exact fits_nil h hs
  | succ m =>
   have := h3 m (by omega)
   rw [List.take_of_length_le (by omega)] at this
   exact this
 ·rintro ⟨h1, h2, h3⟩
  refine ⟨x, rfl, by rw [opts_len]; exact h1, fun i o a ho ha => ?_, fun i hi => ?_⟩
  ·have hi : i < s.cones.length := by
    have := (List.getElem?_eq_some_iff.1 ho).1
    rw [opts_len] at this; exact this
   have hc : s.cones[i]? = some s.cones[i] := List.getElem?_eq_getElem hi
   rw [opts_get hc] at ho
   cases ho
   exact h2 i _ a hc ha
  ·refine fits_pre (m := x.drop (i + 1)) ?_
   rw [List.nil_append, List.take_append_drop]
   exact h3
theorem most_mem {s : St} (h : Ok s) (hs : List Int) : mostS s hs ∈ plansS s hs allC false := by
 obtain ⟨y, hy⟩ := firstMin_some (f := fun p => - cnt p) (plans_ne h hs allC)
 unfold mostS
 rw [hy]
 exact firstMin_mem hy
theorem most_max {s : St} (h : Ok s) {hs : List Int} {x : List Stand} (hx : x ∈ plansS s hs allC false) : cnt x ≤ cnt (mostS s hs) := by
 obtain ⟨y, hy⟩ := firstMin_some (f := fun p => - cnt p) (plans_ne h hs allC)
 have := firstMin_le hy x hx
 unfold mostS
 rw [hy]
 simp only [Option.getD_some]
 omega
end Go.Mz


namespace Go.Mz
open Go
structure Harder (c c' : Cone) : Prop where
 cold : c.cold ≤ c'.cold
 jump : c.jump ≤ c'.jump
 most : c.most ≤ c'.most
 wet : c'.wet ≤ c.wet
theorem Harder.refl (c : Cone) : Harder c c := ⟨Int.le_refl _, Int.le_refl _, Int.le_refl _, Int.le_refl _⟩
structure Wider (s s' : St) : Prop where
 sh : s'.shelves.length = s.shelves.length
 lift : ∀ k, liftOf s' k = liftOf s k
 room : ∀ k, k < s.shelves.length → roomOf s k ≤ roomOf s' k
 days : s'.days = s.days
 len : s'.cones.length = s.cones.length
 co : ∀ (i : Nat) c c', s.cones[i]? = some c → s'.cones[i]? = some c' → Harder c c'
theorem opt_dry {s : St} {hs : List Int} {so each : Bool} {c : Cone} {a : Stand} (h : a ∈ optS s hs so each c) : a = none1 ∨ (a ∈ grid s ∧ (fateS s hs c a).1 = 0) := by
 unfold optS at h
 rcases List.mem_append.1 h with h | h
 ·left
  split at h
  ·exact List.mem_singleton.1 h
  ·cases h
 ·right
  split at h
  ·have := List.mem_filter.1 h; exact ⟨this.1, by simpa using this.2⟩
  ·cases h
end Go.Mz


namespace Go.Mz
open Go
structure Renum (s s' : St) (σ : Nat → Nat) : Prop where
 sh : s'.shelves.length = s.shelves.length
 rng : ∀ k, k < s.shelves.length → σ k < s.shelves.length
 inj : ∀ j k, j < s.shelves.length → k < s.shelves.length → σ j = σ k → j = k
 sur : ∀ k, k < s.shelves.length → ∃ j, j < s.shelves.length ∧ σ j = k
 get : ∀ k, k < s.shelves.length → s'.shelves[σ k]? = s.shelves[k]?
 days : s'.days = s.days
 cones : s'.cones = s.cones
def mapSt (σ : Nat → Nat) (a : Stand) : Stand := if a.shelf < 0 then a else ⟨(σ a.shelf.toNat : Nat), a.day⟩
theorem map_none (σ : Nat → Nat) : mapSt σ none1 = none1 := rfl
theorem mem_grid {s : St} {a : Stand} : a ∈ grid s ↔ ∃ k d : Nat, k < s.shelves.length ∧ d < s.days.toNat ∧ a = ⟨k, d⟩ := by
 unfold grid
 simp only [List.mem_flatMap, List.mem_map, List.mem_range]
 constructor
 ·rintro ⟨k, hk, d, hd, rfl⟩; exact ⟨k, d, hk, hd, rfl⟩
 ·rintro ⟨k, d, hk, hd, rfl⟩; exact ⟨k, hk, d, hd, rfl⟩
theorem map_grid (σ : Nat → Nat) (k d : Nat) : mapSt σ ⟨k, d⟩ = ⟨(σ k : Nat), d⟩ := by
 unfold mapSt
 rw [if_neg (by simp only; omega)]
 simp
theorem Renum.lift {s s' : St} {σ : Nat → Nat} (r : Renum s s' σ) {k : Nat} (hk : k < s.shelves.length) : liftOf s' (σ k : Nat) = liftOf s (k : Nat) := by
 unfold liftOf
 simp only [Int.toNat_natCast]
 rw [r.get k hk]
theorem Renum.fate {s s' : St} {σ : Nat → Nat} (r : Renum s s' σ) {k : Nat} (hk : k < s.shelves.length) (hs : List Int) (c : Cone) (d : Nat) : fateS s' hs c ⟨(σ k : Nat), d⟩ = fateS s hs c ⟨k, d⟩ := by
 unfold fateS
 simp only
 rw [r.lift hk]
theorem Renum.plans {s s' : St} {σ : Nat → Nat} (r : Renum s s' σ) (h : Ok s) (h' : Ok s') {hs : List Int} {so : Nat → Bool} {each : Bool} {x : List Stand} (hx : x ∈ plansS s hs so each) : x.map (mapSt σ) ∈ plansS s' hs so each := by
 obtain ⟨h1, h2, h3⟩ := (mem_plans h).1 hx
 refine (mem_plans h').2 ⟨by rw [r.cones]; simpa using h1, fun i c a hc ha => ?_, ?_⟩
 ·rw [r.cones] at hc
  rw [List.getElem?_map] at ha
  obtain ⟨a0, ha0, rfl⟩ := Option.map_eq_some_iff.1 ha
  have := h2 i c a0 hc ha0
  unfold optS at this ⊢
  rcases List.mem_append.1 this with this | this
  ·refine List.mem_append_left _ ?_
   split at this
   ·rename_i hh
    rw [if_pos hh]
    rw [List.mem_singleton.1 this]
    exact List.mem_singleton.2 rfl
   ·cases this
  ·refine List.mem_append_right _ ?_
   split at this
   ·rename_i hso
    rw [if_pos hso]
    obtain ⟨g1, g2⟩ := List.mem_filter.1 this
    obtain ⟨k, d, hk, hd, rfl⟩ := mem_grid.1 g1
    rw [map_grid]
    refine List.mem_filter.2 ⟨mem_grid.2 ⟨σ k, d, by rw [r.sh]; exact r.rng k hk, by rw [r.days]; exact hd, rfl⟩, ?_⟩
    rw [r.fate hk]
    exact g2
   ·cases this
 ·rw [fits_iff] at h3 ⊢
  intro k' hk' d hd
  rw [r.sh] at hk'
  rw [r.days] at hd
  obtain ⟨k, hk, rfl⟩ := r.sur k' hk'
  have hon : onS s' hs (x.map (mapSt σ)) (σ k) d = onS s hs x k d := by
   unfold onS
   rw [r.cones]
   refine List.filter_congr fun i hi => ?_
   have hi := List.mem_range.1 hi
   have hc : s.cones[i]? = some s.cones[i] := List.getElem?_eq_getElem hi
   unfold onB
   rw [r.cones, hc, List.getElem?_map]
   cases ha : x[i]? with
   | none => rfl
   | some a =>
    simp only [Option.map_some]
    rcases opt_dry (h2 i _ a hc ha) with rfl | ⟨hg, _⟩
    ·have e1 : ((mapSt σ none1).shelf == ((σ k : Nat) : Int)) = false := by rw [map_none]; simp [none1]
     have e2 : (none1.shelf == ((k : Nat) : Int)) = false := by simp [none1]
     rw [e1, e2]; simp
    ·obtain ⟨j, e, hj, he, rfl⟩ := mem_grid.1 hg
     rw [map_grid, r.fate hj]
     have e1 : (((σ j : Nat) : Int) == ((σ k : Nat) : Int)) = ((j : Int) == (k : Int)) := by
      by_cases e : j = k
      ·subst e; simp
      ·have : σ j ≠ σ k := fun g => e (r.inj j k hj hk g)
       rw [beq_eq_false_iff_ne.2 (by omega), beq_eq_false_iff_ne.2 (by omega)]
     rw [e1]
  have hr : roomOf s' (σ k) = roomOf s k := by unfold roomOf; rw [r.get k hk]
  rw [hon, hr]
  exact h3 k hk d hd
theorem cnt_map {s : St} (h : Ok s) {hs : List Int} {so : Nat → Bool} {each : Bool} {x : List Stand} (hx : x ∈ plansS s hs so each) (σ : Nat → Nat) : cnt (x.map (mapSt σ)) = cnt x := by
 unfold cnt
 rw [List.countP_map]
 congr 1
 refine List.countP_congr fun a ha => ?_
 simp only [Function.comp, decide_eq_true_eq]
 unfold mapSt
 split
 ·rfl
 ·rename_i hh
  constructor
  ·intro _; omega
  ·intro _; simp only; omega
theorem Renum.inv {s s' : St} {σ : Nat → Nat} (r : Renum s s' σ) : ∃ τ, Renum s' s τ := by
 classical
 have hc : ∀ k, ∃ j, k < s.shelves.length → j < s.shelves.length ∧ σ j = k := fun k => by
  by_cases hk : k < s.shelves.length
  ·obtain ⟨j, hj⟩ := r.sur k hk; exact ⟨j, fun _ => hj⟩
  ·exact ⟨0, fun h => absurd h hk⟩
 obtain ⟨τ, hτ⟩ := Classical.axiomOfChoice hc
 refine ⟨τ, r.sh.symm, fun k hk => ?_, fun j k hj hk e => ?_, fun k hk => ?_, fun k hk => ?_, r.days.symm, r.cones.symm⟩
 ·rw [r.sh] at hk ⊢; exact (hτ k hk).1
 ·rw [r.sh] at hj hk; rw [← (hτ j hj).2, ← (hτ k hk).2, e]
 ·rw [r.sh] at hk ⊢
  exact ⟨σ k, r.rng k hk, r.inj _ _ (hτ _ (r.rng k hk)).1 hk (hτ _ (r.rng k hk)).2⟩
 ·rw [r.sh] at hk
  have := r.get (τ k) (hτ k hk).1
  rw [(hτ k hk).2] at this
  exact this.symm
theorem Renum.most {s s' : St} {σ : Nat → Nat} (r : Renum s s' σ) (h : Ok s) (h' : Ok s') (hs : List Int) : cnt (mostS s hs) = cnt (mostS s' hs) := by
 have key : ∀ {s s' : St} {σ : Nat → Nat}, Renum s s' σ → Ok s → Ok s' → cnt (mostS s hs) ≤ cnt (mostS s' hs) := fun {s s' σ} r h h' => by
  have h1 := most_mem h hs
  rw [← cnt_map h h1 σ]
  exact most_max h' (r.plans h h' h1)
 obtain ⟨τ, rτ⟩ := r.inv
 have h1 := key r h h'
 have h2 := key rτ h' h
 omega
theorem Renum.can {s s' : St} {σ : Nat → Nat} (r : Renum s s' σ) (h : Ok s) (h' : Ok s') (hs : List Int) : canS s hs = canS s' hs := by
 have key : ∀ {s s' : St} {σ : Nat → Nat}, Renum s s' σ → Ok s → Ok s' → canS s hs = true → canS s' hs = true := fun {s s' σ} r h h' hc => by
  unfold canS at hc ⊢
  cases hp : plansS s hs allC true with
  | nil => rw [hp] at hc; simp at hc
  | cons x l =>
   have hx : x ∈ plansS s hs allC true := by rw [hp]; exact List.mem_cons_self ..
   have := r.plans h h' hx
   cases hp' : plansS s' hs allC true with
   | nil => rw [hp'] at this; cases this
   | cons _ _ => rfl
 obtain ⟨τ, rτ⟩ := r.inv
 cases h1 : canS s hs with
 | true => exact (key r h h' h1).symm
 | false =>
  cases h2 : canS s' hs with
  | false => rfl
  | true => rw [key rτ h' h h2] at h1; cases h1
theorem Renum.fire {s s' : St} {σ : Nat → Nat} (r : Renum s s' σ) (h : Ok s) (h' : Ok s') (e : s'.top = s.top ∧ s'.rise = s.rise ∧ s'.now = s.now) : fireS s' = fireS s := by
 unfold fireS heatsS
 rw [e.1, e.2.1, e.2.2, r.days]
 congr 1
 exact List.filter_congr fun x _ => (r.can h h' x).symm
end Go.Mz


set_option maxRecDepth 100000
namespace Go.Mz
open Go.Conc Go.Proofs
abbrev Rw (α : Type) := Rf × List α
def encRw {α : Type} (x : Rw α) : List Value := [slV x.1]
theorem encRw_len {α : Type} (x : Rw α) : (encRw x).length = 1 := rfl
theorem encRw_sg {α : Type} (x : Rw α) : ∀ u ∈ encRw x, single u = true := fun u hu => by rw [List.mem_singleton.1 hu]; rfl
structure RwOk {α : Type} (L : LH) (k : Nat) (enc : α → List Value) (x : Rw α) : Prop where
 sl : SlAt L x.1.1 k enc x.2
 len : x.1.2.1 = x.2.length
theorem RwOk.le {α : Type} {L L' : LH} {k : Nat} {enc : α → List Value} {x : Rw α} (h : RwOk L k enc x) (hl : Le L L') : RwOk L' k enc x := ⟨h.sl.le hl, h.len⟩
def RowsAt {α : Type} (L : LH) (ad : Option Addr) (k : Nat) (enc : α → List Value) (ls : List (List α)) : Prop := ∃ rs : List (Rw α), rs.map Prod.snd = ls ∧ SlAt L ad 1 encRw rs ∧ ∀ x ∈ rs, RwOk L k enc x
def GrowL {α : Type} (I : LH) (e k : Nat) (enc : α → List Value) (L : LH) (v : Value) (ls : List (List α)) : Prop := ∃ J, ∃ rs : List (Rw α), Le I J ∧ rs.map Prod.snd = ls ∧ Grow J 1 e encRw L v rs ∧ ∀ x ∈ rs, RwOk J k enc x
section
variable {β : Type} {F F' I L L' L2 : LH} {e k : Nat} {enc : β → List Value} {v : Value} {l : List β}
theorem Grow.foot {ad : Option Addr} {len cap : Nat} (h : Grow I k e enc L (.slice ad len cap) l) (hk : ∀ x, (enc x).length = k) (hF : Le F I) : ∃ F', Le F F' ∧ Le F' L ∧ SlAt F' ad k enc l ∧ ∀ b, F' b ≠ none → F b ≠ none ∨ I b = none := by
 obtain ⟨hI, ob, ho, hn⟩ := h
 obtain ⟨ad', cap', e1, -⟩ := ho.slice
 cases e1
 classical
 refine ⟨fun b => if ob = some b then L b else F b, fun b x hx => ?_, fun b x hx => ?_, (ho.keep (L' := fun b => if ob = some b then L b else F b) fun b hb => ?_).at hk, fun b hb => ?_⟩
 ·simp only
  split
  ·rename_i e2; have := hF _ _ hx; rw [hn b e2] at this; cases this
  ·exact hx
 ·simp only at hx
  split at hx
  ·exact hx
  ·exact hI _ _ (hF _ _ hx)
 ·rw [if_pos hb]
 ·simp only at hb
  split at hb
  ·rename_i e2; exact .inr (hn b e2)
  ·exact .inl hb
theorem Own.some_blk {v : Value} {n : Nat} {cs : List Value} {ob : Option Nat} (h : Own L k e v n cs ob) {b : Nat} (hb : ob = some b) : L b ≠ none := by subst hb; exact h.blk
theorem Grow.rebase (h : Grow F k e enc L v l) (hl : Le L L') (hF : Le F' L') (hn : ∀ b, F' b ≠ none → F b ≠ none ∨ L b = none) : Grow F' k e enc L' v l := by
 obtain ⟨_, ob, ho, hf⟩ := h
 refine ⟨hF, ob, ho.le hl, fun b hb => ?_⟩
 cases hx : F' b with
 | none => rfl
 | some y =>
  rcases hn b (by rw [hx]; simp) with e1 | e1
  ·exact absurd (hf b hb) e1
  ·exact absurd e1 (ho.some_blk hb)
theorem Grow.call (h : Grow F k e enc L v l) (p : Post F L F' L2) : Grow F' k e enc L2 v l := by
 obtain ⟨_, ob, ho, hf⟩ := h
 refine ⟨p.le, ob, ho.keep fun b hb => ?_, fun b hb => ?_⟩
 ·cases hx : L b with
  | none => exact absurd hx (ho.some_blk hb)
  | some y => exact p.keep b y (hf b hb) hx
 ·cases hx : F' b with
  | none => rfl
  | some y =>
   rcases p.fresh b (by rw [hx]; simp) with e1 | e1
   ·exact absurd (hf b hb) e1
   ·exact absurd e1 (ho.some_blk hb)
end
section
variable {α : Type} {I L L' : LH} {e k : Nat} {enc : α → List Value} {v : Value} {ls : List (List α)}
theorem GrowL.hle (h : GrowL I e k enc L v ls) : Le I L := let ⟨_, _, h1, _, h, _⟩ := h; h1.trans h.1
theorem GrowL.le (h : GrowL I e k enc L v ls) (hl : Le L L') : GrowL I e k enc L' v ls := let ⟨J, rs, h0, h1, h2, h3⟩ := h; ⟨J, rs, h0, h1, h2.le hl, h3⟩
theorem GrowL.less {I' : LH} (h : GrowL I e k enc L v ls) (hl : Le I' I) : GrowL I' e k enc L v ls := let ⟨J, rs, h0, h1, h2, h3⟩ := h; ⟨J, rs, hl.trans h0, h1, h2, h3⟩
theorem GrowL.nil (h : Le I L) : GrowL I e k enc L (.slice none 0 0) ([] : List (List α)) := ⟨L, [], h, rfl, Grow.nil (Le.refl _), fun x hx => by cases hx⟩
theorem GrowL.slice (h : GrowL I e k enc L v ls) : ∃ ad cap, v = .slice ad ls.length cap := by
 obtain ⟨J, rs, _, rfl, h2, _⟩ := h
 obtain ⟨ad, cap, rfl, -⟩ := h2.slice
 exact ⟨ad, cap, by rw [List.length_map]⟩
theorem GrowL.at {ad : Option Addr} {len cap : Nat} (h : GrowL I e k enc L (.slice ad len cap) ls) : len = ls.length ∧ RowsAt L ad k enc ls := by
 obtain ⟨J, rs, _, rfl, h2, h3⟩ := h
 obtain ⟨rfl, h4⟩ := h2.at encRw_len
 exact ⟨(List.length_map ..).symm, rs, rfl, h4, fun x hx => (h3 x hx).le h2.1⟩
theorem RowsAt.le {ad : Option Addr} (h : RowsAt L ad k enc ls) (hl : Le L L') : RowsAt L' ad k enc ls := let ⟨rs, h1, h2, h3⟩ := h; ⟨rs, h1, h2.le hl, fun x hx => (h3 x hx).le hl⟩
theorem RowsAt.addr {ad : Option Addr} (h : RowsAt L ad k enc ls) {i : Nat} (hi : i < ls.length) : ∃ a, ad = some a := by
 obtain ⟨rs, rfl, h2, _⟩ := h
 exact h2.addr (by simpa using hi)
theorem RowsAt.row {ad : Addr} (h : RowsAt L (some ad) k enc ls) {i : Nat} {l : List α} (hl : ls[i]? = some l) : ∃ a c, L.cell? (ad.add i) = some (.slice a l.length c) ∧ SlAt L a k enc l := by
 obtain ⟨rs, rfl, h2, h3⟩ := h
 rw [List.getElem?_map] at hl
 obtain ⟨⟨⟨a, n, c⟩, l'⟩, hx, rfl⟩ := Option.map_eq_some_iff.1 hl
 have hk := h3 _ (List.mem_of_getElem? hx)
 have hn : n = l'.length := hk.len
 subst hn
 refine ⟨a, c, ?_, hk.sl⟩
 have := h2.get hx (j := 0) (v := slV (a, l'.length, c)) rfl
 simpa using this
theorem Grow.lit {β : Type} {encB : β → List Value} {l : List β} {b : Nat} (hk : ∀ x, (encB x).length = k) (h : Le I L) (hb : L b = some (.cells (l.flatMap encB).toArray e (0, 0), true)) (hn : I b = none) : Grow I k e encB L (.slice (some ⟨b, 0, none⟩) l.length l.length) l :=
 ⟨h, some b, ⟨l.length, (l.flatMap encB).toArray, rfl, hb, by simp [flat_len hk], Nat.le_refl _, flat_len hk l, fun i x hx => by simpa using hx⟩, fun b' hb' => by cases hb'; exact hn⟩
theorem GrowL.one {b : Nat} {a : Option Addr} {c : Nat} {l : List α} (hl : SlAt I a k enc l) (hI : Le I L) (hb : L b = some (.cells #[.slice a l.length c] e (0, 0), true)) (hn : I b = none) : GrowL I e k enc L (.slice (some ⟨b, 0, none⟩) 1 1) [l] :=
 ⟨I, [((a, l.length, c), l)], Le.refl _, rfl, Grow.lit (l := [((a, l.length, c), l)]) encRw_len hI hb hn, fun x hx => by rw [List.mem_singleton.1 hx]; exact ⟨hl, rfl⟩⟩
end
section
variable {X : Logic Tryz.prog}
end
end Go.Mz


set_option maxRecDepth 100000
namespace Go.Mz
open Go.Conc Go.Proofs
variable {X : Logic Tryz.prog}
def Got {α : Type} (L : LH) (k : Nat) (enc : α → List Value) (l : List α) (v : Value) (L' : LH) : Prop := ∃ ad cap, v = .slice ad l.length cap ∧ Le L L' ∧ SlAt L' ad k enc l
theorem Got.nil {α : Type} {L L' : LH} {k : Nat} {enc : α → List Value} (h : Le L L') : Got L k enc ([] : List α) (.slice none 0 0) L' := ⟨none, 0, rfl, h, SlAt.empty⟩
theorem open_ask0 (s : St) (hs : List Int) : openE s hs [] [] = askE s hs := by
 rw [open_ask]
 split
 ·rfl
 ·rename_i h; simp at h; simp [h]
end Go.Mz


set_option maxRecDepth 100000
namespace Go.Mz
open Go.Conc Go.Proofs
variable {X : Logic Tryz.prog}
theorem listG_sp (m : Nat) (hm : m < 8) (L : LH) : Sp X 106 [.int .u8 m] L (fun v L' => Grow L 1 3 encI L' v (natI (bitsL m))) := by
 refine Sp.enter (n := 20) Tryz.func106 rfl rfl rfl rfl fun C hX _ hL0 r => ?_
 refine W.go 99 rfl ?_
 refine W.loop (fun n E B L' => ∃ (i : Nat) (v : Value), n = 3 - i ∧ i ≤ 3 ∧ Grow L 1 3 encI L' v (natI ((List.range i).filter (m.testBit ·))) ∧ E = [(3, .v v), (4, .f (.func 134) [.v (.int .u8 m)] []), (8, .v (.int .i64 i))] ∧ B = [])
  ⟨0, _, rfl, by omega, Grow.nil (Le.refl _), rfl, rfl⟩ ⟨rfl, rfl, rfl, trivial⟩ trivial ?_
 rintro _ _ _ L1 ⟨i, v, rfl, h1, hg, rfl, rfl⟩ again
 refine W.go 99 rfl ?_
 refine W.split rfl rfl rfl (fun c1 => W.go 99 rfl ?_) (fun c1 => W.go 99 rfl ?_)
 ·have hi : i < 3 := by simp at c1; omega
  have hb := range_filter (m.testBit ·) i
  refine W.eff rfl rfl rfl (Ef.callS rfl rfl rfl (Sp.toV (f1 := [.int .u8 m]) (f2 := []) (has_sp m i hm hi L1))) ?_
  rintro _ _ _ ⟨_, rfl, rfl, rfl, rfl⟩
  refine W.go 99 rfl ?_
  refine W.split rfl rfl rfl (fun c2 => W.go 99 rfl ?_) (fun c2 => W.go 99 rfl ?_)
  ·refine W.eff rfl rfl rfl (Ef.grow rfl rfl rfl rfl rfl rfl rfl rfl rfl encI_len encI_sg hg (ls := [(i : Int)]) (.own rfl rfl rfl rfl) (by have := natI_flt (m.testBit ·) i; simp only [List.length_singleton]; omega)) ?_
   rintro _ _ _ ⟨v', rfl, rfl, hg', _⟩
   refine W.go 99 rfl ?_
   exact W.again (again _ _ _ _ (by omega) ⟨i + 1, v', rfl, by omega, by rw [hb, if_pos c2, natI_snoc]; exact hg', rfl, rfl⟩) ⟨rfl, rfl, congrArg some (inc64 (by omega)), trivial⟩ trivial
  ·exact W.again (again _ _ _ _ (by omega) ⟨i + 1, v, rfl, by omega, by rw [hb]; simpa [c2] using hg, rfl, rfl⟩) ⟨rfl, rfl, congrArg some (inc64 (by omega)), trivial⟩ trivial
 ·have hi : i = 3 := by simp at c1; omega
  subst hi
  refine W.ret r rfl rfl ?_
  exact hg
theorem Right_sp (s : St) (p : Pt) (ha la : Option Addr) (hc lc : Nat) (hs : List Int) (l : List Stand) (L : LH) (h : AskAt L s p ha hs) (hl : SlAt L la 2 encSt l) (hn : l.length ≤ 140737488355328) :
  Sp X 66 [stA s p, .slice ha hs.length hc, .slice la l.length lc] L (fun v L' => v = .int .i64 (RightE s hs l) ∧ Le L L') := by
 refine Sp.enter (n := 25) Tryz.func66 rfl rfl rfl rfl fun C hX _ hL0 r => ?_
 refine W.go 99 rfl ?_
 have hr := open_sp (X := C.X) s p ha none none hc 0 0 hs [] [] L h ints0 ints0 (by simp) (by simp)
 rw [open_ask0] at hr
 refine W.eff rfl rfl rfl (Ef.call rfl (hr)) ?_
 rintro _ _ _ ⟨_, rfl, rfl, hq⟩
 rcases hq with ⟨h0, rfl, hle⟩ | ⟨h0, u, rfl, z, mr, F, rfl, rfl, rfl, hmv, hLF, hFL, hFm, hsv, hmr⟩
 ·refine W.go 99 rfl ?_
  refine W.split rfl rfl rfl (fun _ => W.go 99 rfl ?_) (fun h => absurd h (by simpa using h0))
  refine W.ret r rfl rfl ?_
  exact ⟨by unfold RightE; rw [if_pos h0]; rfl, hle⟩
 ·rename_i L2
  refine W.go 99 rfl ?_
  refine W.split rfl rfl rfl (fun h => absurd h (by simp)) (fun _ => W.go 99 rfl ?_)
  refine W.eff rfl rfl rfl (Ef.call rfl (placed_sp z.b z.s z.p z.ha la z.hc lc z.hs z.t0 z.t1 z.t2 z.mv l L2 (hsv.le hFL).sv (hsv.le hFL).gl (hl.le (hLF.trans hFL)) hn)) ?_
  rintro _ _ _ ⟨_, rfl, rfl, rfl, hle⟩
  refine W.go 99 rfl ?_
  refine W.ret r rfl rfl ?_
  refine ⟨?_, (hLF.trans hFL).trans hle⟩
  unfold RightE
  rw [if_neg (by rw [h0]; simp)]
  rfl
def rowsP (s : St) (hs : List Int) (l : List Stand) (d : Nat) (n : Nat) : List (List Int) := (List.range n).map fun k => natI (onS s hs l k d)
def PlacesE (s : St) (hs : List Int) (l : List Stand) (d : Int) : List (List Int) × Int := if RightE s hs l ≠ 0 then ([], RightE s hs l) else if inB d 0 (s.days - 1) then (rowsP s hs l d.toNat s.shelves.length, 0) else ([], 3)
def NewRows (L : LH) (ls : List (List Int)) (u : Value) (L' : LH) : Prop := ∃ a c, u = .slice a ls.length c ∧ Le L L' ∧ RowsAt L' a 1 encI ls
theorem NewRows.nil {L L' : LH} (h : Le L L') : NewRows L [] (.slice none 0 0) L' := ⟨none, 0, rfl, h, [], rfl, SlAt.empty, fun x hx => by cases hx⟩
theorem bits_on {s : St} (h3 : s.cones.length ≤ 3) (hs : List Int) (l : List Stand) (k d : Nat) : bitsL (bm (qOf s hs l k d)) = onS s hs l k d := by
 rw [bits_bm]
 unfold onS
 show (List.range 3).filter (onB s hs l k d) = _
 obtain ⟨m, hm⟩ : ∃ m, 3 = s.cones.length + m := ⟨3 - s.cones.length, by omega⟩
 have e : ((List.range m).map (s.cones.length + ·)).filter (onB s hs l k d) = [] := List.filter_eq_nil_iff.2 fun x hx => by
  obtain ⟨y, _, rfl⟩ := List.mem_map.1 hx
  rw [onB_out (by omega)]; simp
 rw [hm, List.range_add, List.filter_append, e, List.append_nil]
theorem Places_sp (s : St) (p : Pt) (ha la : Option Addr) (hc lc : Nat) (hs : List Int) (l : List Stand) (d : Int) (L : LH) (h : AskAt L s p ha hs) (hl : SlAt L la 2 encSt l) (hn : l.length ≤ 140737488355328) :
  Sp X 64 [stA s p, .slice ha hs.length hc, .slice la l.length lc, .int .i64 d] L (fun v L' => ∃ u, v = .tuple #[u, .int .i64 (PlacesE s hs l d).2] ∧ NewRows L (PlacesE s hs l d).1 u L') := by
 obtain ⟨p1, p2, n1, n2⟩ := p
 refine Sp.enter (n := 56) Tryz.func64 rfl rfl rfl rfl fun C hX _ hL0 r => ?_
 refine W.go 99 rfl ?_
 have hr := open_sp (X := C.X) s ⟨p1, p2, n1, n2⟩ ha none none hc 0 0 hs [] [] L h ints0 ints0 (by simp) (by simp)
 rw [open_ask0] at hr
 refine W.eff rfl rfl rfl (Ef.call rfl (hr)) ?_
 rintro _ _ _ ⟨_, rfl, rfl, hq⟩
 rcases hq with ⟨h0, rfl, hle⟩ | ⟨h0, u, rfl, z, mr, F, rfl, e2, e3, hmv, hLF, hFL, hFm, hsv, hmr⟩
 ·refine W.go 99 rfl ?_
  refine W.split rfl rfl rfl (fun _ => W.go 99 rfl ?_) (fun h => absurd h (by simpa using h0))
  refine W.ret r rfl rfl ?_
  have e1 : PlacesE s hs l d = ([], askE s hs) := by
   have : RightE s hs l = askE s hs := by unfold RightE; rw [if_pos h0]
   unfold PlacesE
   rw [this, if_pos h0]
  rw [e1]
  exact ⟨_, rfl, NewRows.nil hle⟩
 rename_i L2
 have hR : RightE s hs l = planE s hs l := by unfold RightE; rw [if_neg (by rw [h0]; simp)]
 obtain ⟨hok, hhk⟩ := ask_ok h0
 have hpl := placed_sp (X := C.X) z.b z.s z.p z.ha la z.hc lc z.hs z.t0 z.t1 z.t2 z.mv l L2 (hsv.le hFL).sv (hsv.le hFL).gl (hl.le (hLF.trans hFL)) hn
 rw [e2, e3] at hpl
 refine W.go 99 rfl ?_
 refine W.split rfl rfl rfl (fun h => absurd h (by simp)) (fun _ => W.go 99 rfl ?_)
 refine W.eff rfl rfl rfl (Ef.call rfl (hpl)) ?_
 rintro _ _ _ ⟨_, rfl, rfl, rfl, hle⟩
 refine W.go 99 rfl ?_
 rename_i L3
 have hl3 := (hLF.trans hFL).trans hle
 refine W.split rfl rfl rfl (fun c1 => W.go 99 rfl ?_) (fun c1 => W.go 99 rfl ?_)
 ·have h1 : planE s hs l ≠ 0 := by simpa using c1
  refine W.ret r rfl rfl ?_
  unfold PlacesE
  rw [hR, if_pos h1]
  exact ⟨_, rfl, NewRows.nil hl3⟩
 have h1 : planE s hs l = 0 := by simpa using c1
 rw [if_pos h1]
 have hd4 := hok.d4
 have hd1 := hok.d1
 have hs3 := hok.s3
 have hc3 := hok.c3
 refine W.go 99 rfl ?_
 rw [wrap64_in _ (by omega) (by omega)]
 refine W.eff rfl rfl rfl (Ef.call rfl (within_sp _ _ _ _)) ?_
 rintro _ _ _ ⟨_, rfl, rfl, rfl, rfl⟩
 refine W.go 99 rfl ?_
 have hPE : PlacesE s hs l d = if inB d 0 (s.days - 1) then (rowsP s hs l d.toNat s.shelves.length, 0) else ([], 3) := by
  unfold PlacesE
  rw [hR, if_neg (by rw [h1]; simp)]
 refine W.split rfl rfl rfl (fun c2 => W.go 99 rfl ?_) (fun c2 => W.go 99 rfl ?_)
 ·refine W.ret r rfl rfl ?_
  rw [hPE, if_neg (by simpa using c2)]
  exact ⟨_, rfl, NewRows.nil hl3⟩
 have hin : inB d 0 (s.days - 1) = true := by simpa using c2
 rw [if_pos hin] at hPE
 rw [inB_iff] at hin
 obtain ⟨d, rfl⟩ : ∃ n : Nat, d = n := ⟨d.toNat, by omega⟩
 have hdn : d < s.days.toNat := by omega
 clear hpl hr
 refine W.loop (fun w E B L' => ∃ (i : Nat) (v : Value) (F : LH) (rs : List (Rw Int)), w = s.shelves.length - i ∧ i ≤ s.shelves.length ∧ Le L3 F ∧ rs.map Prod.snd = rowsP s hs l d i ∧ rs.length = i ∧ Grow F 1 28 encRw L' v rs ∧ (∀ x ∈ rs, RwOk F 1 encI x) ∧
   E = [(3, .v (.int .i64 d)), (12, .p 1 0), (13, .v v), (41, .v (.int .i64 s.shelves.length)), (42, .v (.int .i64 i))] ∧ B = [some ⟨cellsS (.v (stA s ⟨p1, p2, n1, n2⟩)), 25⟩, some ⟨cellsS (.v (.agg (encQ (qOf s hs l)).toArray)), 148⟩])
  ⟨0, _, L3, [], rfl, by omega, Le.refl _, rfl, rfl, Grow.nil (Le.refl _), (fun x hx => by cases hx), rfl, rfl⟩ (by exact ⟨rfl, rfl, rfl, rfl, rfl, trivial⟩) (by exact ⟨rfl, rfl, trivial⟩) ?_
 rintro _ _ _ L4 ⟨i, v, F4, rs, rfl, hi, hLF4, hrs, hrl, hgr, hrk, rfl, rfl⟩ again
 refine W.go 99 rfl ?_
 refine W.split rfl rfl rfl (fun d1 => W.go 99 rfl ?_) (fun d1 => W.go 99 rfl ?_)
 ·have hil : i < s.shelves.length := by simpa using d1
  have hi3 : i < 3 := by omega
  have hd' : d < 4 := by omega
  have hnth : nth (cellsS (.v (.agg (encQ (qOf s hs l)).toArray))) (0 + i * 4 + d * 1) = some (.v (.int .u8 (bm (qOf s hs l i d)))) := by
   show nth ((encQ (qOf s hs l)).map SV.v) _ = _
   rw [nth_map_v, show 0 + i * 4 + d * 1 = i * 4 + d by omega, encQ_get _ hi3 hd']; rfl
  refine W.vf rfl rfl rfl rfl (Vf.idxA rfl rfl rfl rfl rfl rfl hi3) ?_
  refine W.vf rfl rfl rfl rfl (Vf.idxA rfl rfl rfl rfl rfl rfl hd') ?_
  refine W.vf rfl rfl rfl rfl (Vf.loadA rfl rfl rfl rfl hnth) ?_
  refine W.go 99 rfl ?_
  refine W.eff rfl rfl rfl (Ef.call rfl (listG_sp _ (bm_lt _) _)) ?_
  rintro _ _ _ ⟨_, rfl, rfl, hg1⟩
  rename_i L5 _
  rw [bits_on hc3] at hg1
  obtain ⟨wa, wc, rfl, -⟩ := hg1.slice
  obtain ⟨F5, hFF5, hF5L, hw5, hf5⟩ := hg1.foot encI_len hgr.1
  have hgr5 : Grow F5 1 28 encRw L5 v rs := hgr.rebase hg1.1 hF5L hf5
  refine W.go 99 rfl ?_
  refine W.eff rfl rfl rfl (Ef.grow rfl rfl rfl rfl rfl rfl rfl rfl rfl encRw_len encRw_sg hgr5 (ls := [((wa, (natI (onS s hs l i d)).length, wc), natI (onS s hs l i d))]) (.own rfl rfl rfl rfl) (by simp; omega)) ?_
  rintro _ _ _ ⟨v2, rfl, rfl, hg6, -⟩
  refine W.go 99 rfl ?_
  refine W.again (again _ _ _ _ (by omega) ⟨i + 1, v2, F5, _, rfl, by omega, hLF4.trans hFF5, ?_, by simp; omega, hg6, ?_, rfl, rfl⟩) ⟨rfl, rfl, rfl, rfl, congrArg some (inc64 (by omega)), trivial⟩ ⟨rfl, rfl, trivial⟩
  ·rw [List.map_append, hrs, rowsP, rowsP, List.range_succ, List.map_append]; rfl
  ·intro y hy
   rcases List.mem_append.1 hy with hy | hy
   ·exact (hrk y hy).le hFF5
   ·rw [List.mem_singleton.1 hy]; exact ⟨hw5, rfl⟩
 ·have hie : i = s.shelves.length := by simp at d1; omega
  subst hie
  have hgL : GrowL L3 28 1 encI L4 v (rowsP s hs l d s.shelves.length) := ⟨F4, rs, hLF4, hrs, hgr, hrk⟩
  obtain ⟨va, vc, rfl⟩ := hgL.slice
  refine W.ret r rfl rfl ?_
  rw [hPE]
  exact ⟨_, rfl, va, vc, rfl, hl3.trans hgL.hle, hgL.at.2⟩
end Go.Mz


set_option maxRecDepth 100000
namespace Go.Mz
open Go.Conc Go.Proofs
variable {X : Logic Tryz.prog}
end Go.Mz


namespace Go.Mz
open Go.Conc
end Go.Mz


set_option maxRecDepth 100000
namespace Go.Mz
open Go.Conc Go.Proofs
variable {X : Logic Tryz.prog}
end Go.Mz


set_option maxRecDepth 100000
namespace Go.Mz
open Go.Conc Go.Proofs
variable {X : Logic Tryz.prog}
def BestAt (L : LH) (o : Option (List Int)) (v : Value) : Prop := match o with
 | none => v = .slice none 0 0
 | some y => ∃ a c, v = .slice a y.length c ∧ IntsAt L a y
theorem BestAt.le {L L' : LH} {o : Option (List Int)} {v : Value} (h : BestAt L o v) (hl : Le L L') : BestAt L' o v := by
 cases o with
 | none => exact h
 | some y => obtain ⟨a, c, h1, h2⟩ := h; exact ⟨a, c, h1, h2.le hl⟩
end Go.Mz


set_option maxRecDepth 100000
namespace Go.Mz
open Go.Conc Go.Proofs
variable {X : Logic Tryz.prog}
def zS : St := ⟨[], [], 0, 0, 0, 0⟩
def AddE (s : St) (c : Cone) : St × Int :=
 if checkE s ≠ 0 then (zS, checkE s) else if s.cones.length = 3 then (zS, 6) else if coneE c ≠ 0 then (zS, coneE c) else
 if (fireS s).isSome && !(fireS (moreS s c)).isSome then (zS, 9) else (moreS s c, 0)
theorem zS_at (L : LH) : StAt L zS ⟨none, none, 0, 0⟩ := ⟨SlAt.empty, SlAt.empty, by simp [zS], by simp [zS]⟩
theorem more_ok {s : St} {c : Cone} (h : Ok s) (h3 : s.cones.length ≠ 3) (hc : coneE c = 0) : Ok (moreS s c) :=
  { h with
    c3 := by have := h.c3; show (s.cones ++ [c]).length ≤ 3; simp; omega
    co := fun x hx => by
      rcases List.mem_append.1 (show x ∈ s.cones ++ [c] from hx) with hx | hx
      · exact h.co x hx
      · rw [List.mem_singleton.1 hx]; exact coneE_0.1 hc }
end Go.Mz

