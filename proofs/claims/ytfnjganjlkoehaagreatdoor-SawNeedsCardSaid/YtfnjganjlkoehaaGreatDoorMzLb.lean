/- Lemmas on which the claim leans. -/
import Derived.Test.YtfnjganjlkoehaaGreatDoorMzLa
set_option maxRecDepth 100000
namespace Go.Mz
open Go.Conc Go.Proofs
variable {X : Logic Tryz.prog}
theorem has_loaf {s : Sw} {p : Wp} {L : LH} (hs : SwAt L s p) {k : Nat} (hk : k < s.loaves.length) : ∃ la a c, p.la = some la ∧ L.cell? (la.add k) = some (.slice a s.loaves[k].length c) ∧ IntsAt L a s.loaves[k] ∧ s.loaves[k].length ≤ c := by
 have hl : s.loaves[k]? = some s.loaves[k] := List.getElem?_eq_getElem hk
 obtain ⟨la, hla⟩ := hs.lo.addr hk
 have hlo := hs.lo
 rw [hla] at hlo
 obtain ⟨a, c, hc, hsl, hcp⟩ := hlo.row hl
 exact ⟨la, a, c, hla, hc, hsl, hcp⟩
theorem rBelow_sp (s : Sw) (p : Wp) (x : Want) (L : LH) (hs : SwAt L s p) (hok : SOk s) (hx : WtOk s.loaves x) (h2 : x.sort = 2) : Sp X 162 [swA s p, .int .i64 x.kind, .int .i64 x.amount] L (fun v L' => v = .int .i64 (restW s x) ∧ L = L') := by
 have hk0 := hx.k0
 have hk1 := hx.k1
 have ha0 := hx.a0
 have ha1 := hx.a1
 simp [wKd, wLo, wHi, h2] at hk0 ha0 ha1
 have hki : x.kind.toNat < s.loaves.length := by omega
 obtain ⟨la, a, c, hla, hc, hsl, hcp⟩ := has_loaf hs hki
 have hlf := hok.lf _ (List.getElem_mem hki)
 have hl4 := hlf.l4
 have hgd : loafAt s x.kind = s.loaves[x.kind.toNat] := loafAt0 (List.getElem?_eq_getElem hki)
 rw [List.getElem?_eq_getElem hki, Option.getD_some] at ha1
 have hr : restW s x = max 0 (sumL (s.loaves[x.kind.toNat].take (s.loaves[x.kind.toNat].length - x.amount.toNat)) - s.kerf) := by unfold restW; rw [hgd]
 rw [hr]
 generalize s.loaves[x.kind.toNat] = lf at *
 have k0 := hok.k0
 have k3 := hok.k3
 have hsm := sumL_bk 4000 (lf.take (lf.length - x.amount.toNat)) fun y hy => by have := hlf.r y (List.mem_of_mem_take hy); omega
 have hlt : (lf.take (lf.length - x.amount.toNat)).length = lf.length - x.amount.toNat := by rw [List.length_take]; omega
 rw [hlt] at hsm
 obtain ⟨qa, qb, qc, qd, qe, qf⟩ := p
 obtain rfl : qa = some la := hla
 refine Sp.enter (n := 24) Tryz.func162 rfl rfl rfl rfl fun C hX _ hL0 r => ?_
 refine W.go 99 rfl ?_
 refine W.vf rfl rfl rfl rfl (Vf.idx1 rfl rfl rfl rfl rfl rfl (show x.kind = ((x.kind.toNat : Nat) : Int) by omega) hki) ?_
 refine W.go 99 rfl ?_
 refine W.vf rfl rfl rfl rfl (Vf.load rfl rfl rfl (hc)) ?_
 refine W.go 99 rfl ?_
 refine W.drawn (by kernel_rfl) _ (Le.refl _) ?_
 refine DD.run' [0, 1, 2, 3, 4, 7, 8] rfl ?_
 have hw : IntKind.i64.wrap ((lf.length : Int) - x.amount) = ((lf.length - x.amount.toNat : Nat) : Int) := by rw [wrap64_in _ (by omega) (by omega)]; omega
 rw [hw]
 refine DD.vf 5 rfl rfl rfl rfl rfl (Vf.sliceT rfl rfl Tryz.underlying23 size3 (show lf.length - x.amount.toNat ≤ c by omega)) ?_
 have htot := rTotal_sp (X := C.X) a c (lf.take (lf.length - x.amount.toNat)) L (hsl.take _) (by omega) fun y hy => by have := hlf.r y (List.mem_of_mem_take hy); omega
 rw [hlt] at htot
 refine DD.act 6 rfl rfl rfl rfl rfl (Ef.call rfl (htot)) (by rintro _ _ _ ⟨_, rfl, rfl, rfl, rfl⟩; exact ⟨Le.refl _, rfl, .inl rfl⟩) ?_
 rintro _ _ _ ⟨_, rfl, rfl, rfl, rfl⟩
 refine DD.run' [9, 10, 11] rfl ?_
 refine .fin rfl ?_
 refine W.go 99 rfl ?_
 generalize sumL (lf.take (lf.length - x.amount.toNat)) = S at *
 rw [wrap64_in (S - s.kerf) (by omega) (by omega)]
 refine W.ret r rfl rfl ?_
 refine ⟨?_, rfl⟩
 show Value.int .i64 (if S - s.kerf > 0 then S - s.kerf else 0) = _
 congr 1
 split <;> omega
def isTks (k : Int) (x : Want) : Bool := x.sort == 1 && (decide (k < 0) || x.kind == k)
def tksN (k : Int) (xs : List Want) : Int := sumL ((xs.filter (isTks k)).map (·.amount))
theorem sumL_append (a b : List Int) : sumL (a ++ b) = sumL a + sumL b := by
 induction a with
 | nil => rw [List.nil_append, sumL_nil]; omega
 | cons x a ih => rw [List.cons_append, sumL_cons, sumL_cons, ih]; omega
theorem tksN_snoc (k : Int) (xs : List Want) (x : Want) : tksN k (xs ++ [x]) = tksN k xs + if isTks k x then x.amount else 0 := by
 unfold tksN
 rw [List.filter_append, List.map_append, sumL_append]
 by_cases h : isTks k x = true
 ·simp [h, sumL]
 ·simp [h, sumL]
theorem tkN_snoc (xs : List Want) (x : Want) (k : Nat) : tkN (xs ++ [x]) k = tkN xs k + if isTk k x then 1 else 0 := by
 unfold tkN
 rw [List.countP_append, List.countP_singleton]
 split <;> simp
theorem suN_snoc (s : Sw) (xs : List Want) (x : Want) (k : Nat) : suN s (xs ++ [x]) k = suN s xs k + if isTp k x then restW s x else 0 := by
 unfold suN
 rw [List.filter_append, List.map_append, sumL_append]
 by_cases h : isTp k x = true
 ·simp [h, sumL]
 ·simp [h, sumL]
theorem tksN_bd {s : Sw} (hok : SOk s) (k : Int) (w : List Nat) : 0 ≤ tksN k (wantsOf s w) ∧ tksN k (wantsOf s w) ≤ 60 * w.length := by
 have h := sumL_bk 60 (((wantsOf s w).filter (isTks k)).map (·.amount)) fun y hy => by
  obtain ⟨x, hx, rfl⟩ := List.mem_map.1 hy
  obtain ⟨hx1, hx2⟩ := List.mem_filter.1 hx
  unfold wantsOf at hx1
  obtain ⟨i, _, hi⟩ := List.mem_filterMap.1 hx1
  have hw := hok.wt x (List.mem_of_getElem? hi)
  have hs1 : x.sort = 1 := by simp [isTks] at hx2; exact hx2.1
  have ha0 := hw.a0
  have ha1 := hw.a1
  simp [wLo, wHi, hs1] at ha0 ha1
  omega
 rw [List.length_map] at h
 have h1 := List.length_filter_le (isTks k) (wantsOf s w)
 have h2 : (wantsOf s w).length ≤ w.length := List.length_filterMap_le ..
 unfold tksN
 omega
theorem wants_take {s : Sw} {w : List Nat} (hw : WnOk s w) {j : Nat} (hj : j < w.length) : ∃ (i : Nat) (hi : i < s.wants.length), w[j]? = some i ∧ wantsOf s (w.take (j + 1)) = wantsOf s (w.take j) ++ [s.wants[i]] := by
 have hwj : w[j]? = some w[j] := List.getElem?_eq_getElem hj
 have hi := hw _ (List.mem_of_getElem? hwj)
 exact ⟨w[j], hi, hwj, by rw [List.take_succ_eq_append_getElem hj]; exact wantsOf_snoc (List.getElem?_eq_getElem hi)⟩
theorem rTakes_sp (s : Sw) (p : Wp) (wa : Option Addr) (wc : Nat) (w : List Nat) (k : Int) (L : LH) (hs : SwAt L s p) (hok : SOk s) (hwl : IntsAt L wa (natI w)) (hw : WnOk s w) (n1 : w.length ≤ 1000) :
  Sp X 137 [swA s p, .slice wa w.length wc, .int .i64 k] L (fun v L' => v = .int .i64 (tksN k (wantsOf s w)) ∧ L = L') := by
 refine Sp.enter (n := 42) Tryz.func137 rfl rfl rfl rfl fun C hX _ hL0 r => ?_
 refine W.go 99 rfl ?_
 refine W.loop (fun m E B L' => ∃ j : Nat, m = w.length - j ∧ j ≤ w.length ∧ L = L' ∧ E = [(1, .v (.slice wa w.length wc)), (2, .v (.int .i64 k)), (3, .p 0 0), (7, .v (.int .i64 (tksN k (wantsOf s (w.take j))))), (8, .v (.int .i64 j))] ∧ B = [some ⟨cellsS (.v (swA s p)), 26⟩])
  ⟨0, rfl, by omega, rfl, rfl, rfl⟩ (by exact ⟨rfl, rfl, rfl, rfl, rfl, trivial⟩) (by exact ⟨rfl, trivial⟩) ?_
 rintro _ _ _ _ ⟨j, rfl, hj, rfl, rfl, rfl⟩ again
 refine W.go 99 rfl ?_
 refine W.split rfl rfl rfl (fun e1 => W.go 99 rfl ?_) (fun e1 => W.go 99 rfl ?_)
 ·have hjl : j < w.length := by simpa using e1
  obtain ⟨i, hi, hwj, htk⟩ := wants_take hw hjl
  have hxm := hok.wt _ (List.getElem_mem hi)
  obtain ⟨lad, rfl⟩ := hwl.addr (show j < (natI w).length by rw [natI_len]; exact hjl)
  obtain ⟨wad, hwa⟩ := hs.wt.addr hi
  have hwt := hs.wt
  rw [hwa] at hwt
  have hb := tksN_bd hok k (w.take (j + 1))
  have hb0 := tksN_bd hok k (w.take j)
  rw [htk, tksN_snoc] at hb
  simp only [List.length_take] at hb hb0
  have hst : wantsOf s (w.take (j + 1)) = wantsOf s (w.take j) ++ [s.wants[i]] := htk
  obtain ⟨qa, qb, qc, qd, qe, qf⟩ := p
  obtain rfl : qc = some wad := hwa
  refine W.drawn (by kernel_rfl) _ (Le.refl _) ?_
  refine DD.run' [0, 1, 2, 3, 8] rfl ?_
  refine DD.vf 4 rfl rfl rfl rfl rfl (Vf.idx1 rfl rfl rfl rfl rfl rfl rfl (hjl)) ?_
  refine DD.vf 5 rfl rfl rfl rfl rfl (Vf.load rfl rfl rfl (hwl.int (x := (i : Int)) (by rw [natI_get, hwj]; rfl))) ?_
  refine DD.vf 6 rfl rfl rfl rfl rfl (Vf.idx rfl rfl rfl rfl rfl rfl (hi)) ?_
  refine DD.vf 7 rfl rfl rfl rfl rfl (Vf.loadN rfl rfl rfl (hwt.whole (List.getElem?_eq_getElem hi) rfl)) ?_
  refine DD.act 9 rfl rfl rfl rfl rfl (Ef.sto rfl) (by rintro _ _ _ ⟨rfl, rfl, rfl⟩; exact ⟨Le.refl _, rfl, .inr rfl⟩) ?_
  rintro _ _ L1 ⟨rfl, rfl, rfl⟩
  refine .fin rfl ?_
  generalize s.wants[i] = x at *
  refine W.weak (E' := [(1, .v (.slice (some lad) w.length wc)), (2, .v (.int .i64 k)), (3, .p 0 0), (7, .v (.int .i64 (tksN k (wantsOf s (w.take j))))), (8, .v (.int .i64 j)), (9, .p 1 0)]) (B' := [some ⟨cellsS (.v (swA s ⟨qa, qb, some wad, qd, qe, qf⟩)), 26⟩, some ⟨cellsS (.v (.agg (encWt x).toArray)), 28⟩]) (by exact ⟨rfl, rfl, rfl, rfl, rfl, rfl, trivial⟩) (by exact ⟨rfl, rfl, trivial⟩) ?_
  have hin : isTks k x = true → IntKind.i64.wrap (tksN k (wantsOf s (w.take j)) + x.amount) = tksN k (wantsOf s (w.take (j + 1))) := fun h => by
   rw [if_pos h] at hb
   rw [htk, tksN_snoc, if_pos h, wrap64_in _ (by omega) (by omega)]
  have hout : isTks k x = false → tksN k (wantsOf s (w.take j)) = tksN k (wantsOf s (w.take (j + 1))) := fun h => by
   rw [htk, tksN_snoc, if_neg (by rw [h]; decide), Int.add_zero]
  refine W.go 99 rfl ?_
  refine W.split rfl rfl rfl (fun e2 => ?_) (fun e2 => ?_)
  ·have e2' : x.sort = 1 := by simpa using e2
   refine W.go 99 rfl ?_
   refine W.split rfl rfl rfl (fun e3 => ?_) (fun e3 => ?_)
   ·have h : isTks k x = true := by simp [isTks, e2']; left; simpa using e3
    refine W.go 99 rfl ?_
    exact W.again (again _ _ _ _ (by omega) ⟨j + 1, rfl, by omega, rfl, rfl, rfl⟩) (by exact ⟨rfl, rfl, rfl, congrArg (fun z => some (SV.v (Value.int .i64 z))) (hin h), congrArg some (inc64 (by omega)), trivial⟩) (by exact ⟨rfl, trivial⟩)
   ·have e3' : ¬ k < 0 := by simpa using e3
    refine W.go 99 rfl ?_
    refine W.split rfl rfl rfl (fun e4 => ?_) (fun e4 => ?_)
    ·have h : isTks k x = true := by simp [isTks, e2']; right; simpa using e4
     refine W.go 99 rfl ?_
     exact W.again (again _ _ _ _ (by omega) ⟨j + 1, rfl, by omega, rfl, rfl, rfl⟩) (by exact ⟨rfl, rfl, rfl, congrArg (fun z => some (SV.v (Value.int .i64 z))) (hin h), congrArg some (inc64 (by omega)), trivial⟩) (by exact ⟨rfl, trivial⟩)
    ·have h : isTks k x = false := by
      have e4' : ¬ x.kind = k := by simpa using e4
      simp [isTks, e2', e4']; omega
     refine W.go 99 rfl ?_
     exact W.again (again _ _ _ _ (by omega) ⟨j + 1, rfl, by omega, rfl, rfl, rfl⟩) (by exact ⟨rfl, rfl, rfl, congrArg (fun z => some (SV.v (Value.int .i64 z))) (hout h), congrArg some (inc64 (by omega)), trivial⟩) (by exact ⟨rfl, trivial⟩)
  ·have h : isTks k x = false := by
    have e2' : ¬ x.sort = 1 := by simpa using e2
    simp [isTks, e2']
   refine W.go 99 rfl ?_
   exact W.again (again _ _ _ _ (by omega) ⟨j + 1, rfl, by omega, rfl, rfl, rfl⟩) (by exact ⟨rfl, rfl, rfl, congrArg (fun z => some (SV.v (Value.int .i64 z))) (hout h), congrArg some (inc64 (by omega)), trivial⟩) (by exact ⟨rfl, trivial⟩)
 ·have hje : j = w.length := by simp at e1; omega
  subst hje
  refine W.ret r rfl rfl ?_
  rw [List.take_length]
  exact ⟨rfl, rfl⟩
end Go.Mz


set_option maxRecDepth 100000
namespace Go.Mz
open Go.Conc Go.Proofs
variable {X : Logic Tryz.prog}
def IBlk (L : LH) (b : Nat) (l : List Int) : Prop := L b = some (.cells (l.flatMap encI).toArray 3 (0, 0), true)
theorem IBlk.ints {L : LH} {b : Nat} {l : List Int} (h : IBlk L b l) : IntsAt L (some ⟨b, 0, none⟩) l := sl_block encI_len h
theorem IBlk.get {L : LH} {b : Nat} {l : List Int} (h : IBlk L b l) {i : Nat} {x : Int} (hx : l[i]? = some x) : L.cell? (Addr.add ⟨b, 0, none⟩ i) = some (.int .i64 x) := h.ints.int hx
theorem IBlk.put {L : LH} {b : Nat} {l : List Int} {i : Nat} (hi : i < l.length) (x : Int) : IBlk (L.put b (.cells (putRow (l.flatMap encI).toArray (i * 1) (Value.int .i64 x).cells.toList) 3)) b (l.set i x) := by
 unfold IBlk
 rw [put_same]
 congr 3
 exact putRow_flat encI_len hi x
theorem IBlk.zero {L : LH} {b n : Nat} : IBlk (L.put b (.cells (Array.replicate n (.int .i64 0)) 3)) b (List.replicate n 0) := by
 unfold IBlk
 rw [put_same]
 have : ∀ n : Nat, ((List.replicate n (0 : Int)).flatMap encI) = List.replicate n (.int .i64 0) := fun n => by
  induction n with
  | zero => rfl
  | succ n ih => rw [List.replicate_succ, List.flatMap_cons, ih]; rfl
 rw [this]
 simp
theorem Ef.stoI {C : Cx Tryz.prog} {E : Look} {B : List (Option Bx)} {L : LH} {dst : Option Tmp} {ty : TypeId} {pos : String} {af : Array Edge} {gd : Option (Nat × Bool)} {x y : Operand} {b i : Nat} {l : List Int} {z : Int} (h : IBlk L b l) (hi : i < l.length) (hx : evS E x = some (.v (.pointer (some (Addr.add ⟨b, 0, none⟩ i))))) (hy : ∃ s, evS E y = some s ∧ den nm0 s = some (.int .i64 z)) :
  Ef C ⟨dst, .store 3 x y, ty, pos, af, gd⟩ E B L (fun sv B' L' => sv = .v undef ∧ B' = B ∧ IBlk L' b (l.set i z) ∧ ∀ b', b' ≠ b → L' b' = L b') := by
 have hf := Ef.stoF (C := C) (B := B) (dst := dst) (ty := ty) (pos := pos) (af := af) (gd := gd) (b := b) (off := i * 1) (t := 3) (x := x) (y := y) (v := .int .i64 z) (by rw [hx, add_of]; simp) hy rfl h rfl (by rw [List.size_toArray, flat_len encI_len]; show i * 1 + 1 ≤ _; omega) (singles rfl)
 intro T R β hE hH
 exact EffW.mono (fun v L' ⟨sv, B', L2, ⟨e1, e2, e3⟩, e4⟩ => ⟨sv, B', L2, ⟨e1, e2, by rw [e3]; exact IBlk.put hi z, by rw [e3]; exact fun b' hb => put_ne _ _ hb⟩, e4⟩) (hf T R β hE hH)
def takenD (s : Sw) (xs : List Want) : List Int := (List.range s.loaves.length).map fun k => tkN xs k
theorem takenD_len (s : Sw) (xs : List Want) : (takenD s xs).length = s.loaves.length := by simp [takenD]
theorem takenD_get {s : Sw} {xs : List Want} {k : Nat} (hk : k < s.loaves.length) : (takenD s xs)[k]? = some (tkN xs k) := by
 unfold takenD; rw [List.getElem?_map, List.getElem?_range hk]; rfl
theorem isTk_eq {x : Want} {kd : Nat} (hs : x.sort ≠ 1) (hk : x.kind = (kd : Int)) (k : Nat) : isTk k x = (kd == k) := by
 unfold isTk
 rw [hk, Bool.eq_iff_iff]
 simp [hs]
 omega
theorem takenD_step {s : Sw} {xs : List Want} {x : Want} {kd : Nat} (hs : x.sort ≠ 1) (hk : x.kind = (kd : Int)) : (takenD s xs).set kd (tkN xs kd + 1) = takenD s (xs ++ [x]) := by
 refine List.ext_getElem? fun j => ?_
 rw [List.getElem?_set]
 by_cases hj : j < s.loaves.length
 ·rw [takenD_get hj, takenD_get hj, tkN_snoc, isTk_eq hs hk]
  by_cases e : kd = j
  ·subst e; rw [if_pos rfl, if_pos (by rw [takenD_len]; exact hj)]; simp
  ·rw [if_neg e, if_neg (by simpa using e)]; simp
 ·rw [List.getElem?_eq_none (by rw [takenD_len]; omega), List.getElem?_eq_none (by rw [takenD_len]; omega)]
  split
  ·rw [if_neg (by rw [takenD_len]; omega)]
  ·rfl
theorem takenD_no {s : Sw} {xs : List Want} {x : Want} (hs : x.sort = 1) : takenD s (xs ++ [x]) = takenD s xs := by
 unfold takenD
 refine List.map_congr_left fun k _ => ?_
 rw [tkN_snoc, if_neg (by simp [isTk, hs]), Int.add_zero]
theorem takenD_nil (s : Sw) : takenD s [] = List.replicate s.loaves.length 0 := by
 unfold takenD
 refine List.ext_getElem? fun j => ?_
 rw [List.getElem?_map, List.getElem?_replicate]
 by_cases hj : j < s.loaves.length
 ·rw [List.getElem?_range hj, if_pos hj]; rfl
 ·rw [List.getElem?_eq_none (by simp; omega), if_neg hj]; rfl
theorem tkN_bd (xs : List Want) (k : Nat) : 0 ≤ tkN xs k ∧ tkN xs k ≤ xs.length := by
 unfold tkN
 have := List.countP_le_length (p := isTk k) (l := xs)
 omega
theorem wantsOf_len (s : Sw) (w : List Nat) : (wantsOf s w).length ≤ w.length := List.length_filterMap_le ..
def NewInts (L : LH) (l : List Int) (v : Value) (L' : LH) : Prop := ∃ b, v = .slice (some ⟨b, 0, none⟩) l.length l.length ∧ L b = none ∧ Le L L' ∧ IBlk L' b l
theorem rTaken_sp (s : Sw) (p : Wp) (wa : Option Addr) (wc : Nat) (w : List Nat) (L : LH) (hs : SwAt L s p) (hok : SOk s) (hwl : IntsAt L wa (natI w)) (hw : WnOk s w) (n1 : w.length ≤ 1000) :
  Sp X 109 [swA s p, .slice wa w.length wc] L (NewInts L (takenD s (wantsOf s w))) := by
 have hl3 := hok.l3
 refine Sp.enter (n := 40) Tryz.func109 rfl rfl rfl rfl fun C hX _ hL0 r => ?_
 refine W.go 99 rfl ?_
 refine W.eff rfl rfl rfl (Ef.makeSlice rfl (by omega) Tryz.underlying23 size3 bytes3 zero3 (by decide) rfl) ?_
 rintro _ _ _ ⟨bn, rfl, rfl, hbn, rfl⟩
 refine W.go 99 rfl ?_
 have hLp := Le.put hbn (.cells (Array.replicate s.loaves.length (.int .i64 0)) 3)
 have h0 : IBlk (L.put bn (.cells (Array.replicate s.loaves.length (.int .i64 0)) 3)) bn (takenD s []) := by rw [takenD_nil]; exact IBlk.zero
 refine W.loop (fun m E B L' => ∃ j : Nat, m = w.length - j ∧ j ≤ w.length ∧ Le L L' ∧ IBlk L' bn (takenD s (wantsOf s (w.take j))) ∧
   E = [(1, .v (.slice wa w.length wc)), (2, .p 0 0), (5, .v (.slice (some ⟨bn, 0, none⟩) s.loaves.length s.loaves.length)), (6, .v (.int .i64 j))] ∧ B = [some ⟨cellsS (.v (swA s p)), 26⟩])
  ⟨0, rfl, by omega, hLp, h0, rfl, rfl⟩ (by exact ⟨rfl, rfl, rfl, rfl, trivial⟩) (by exact ⟨rfl, trivial⟩) ?_
 rintro _ _ _ L1 ⟨j, rfl, hj, hle, hI, rfl, rfl⟩ again
 refine W.go 99 rfl ?_
 refine W.split rfl rfl rfl (fun e1 => W.go 99 rfl ?_) (fun e1 => W.go 99 rfl ?_)
 ·have hjl : j < w.length := by simpa using e1
  obtain ⟨i, hi, hwj, htk⟩ := wants_take hw hjl
  have hxm := hok.wt _ (List.getElem_mem hi)
  obtain ⟨lad, rfl⟩ := hwl.addr (show j < (natI w).length by rw [natI_len]; exact hjl)
  obtain ⟨wad, hwa⟩ := hs.wt.addr hi
  have hwt := hs.wt
  rw [hwa] at hwt
  have hxi : s.wants[i]? = some s.wants[i] := List.getElem?_eq_getElem hi
  have hb := tkN_bd (wantsOf s (w.take j))
  have hb2 := wantsOf_len s (w.take j)
  simp only [List.length_take] at hb2
  obtain ⟨qa, qb, qc, qd, qe, qf⟩ := p
  obtain rfl : qc = some wad := hwa
  refine W.drawn (by kernel_rfl) L hle ?_
  refine DD.run' [0, 1, 2, 3, 8] rfl ?_
  refine DD.vf 4 rfl rfl rfl rfl rfl (Vf.idx1 rfl rfl rfl rfl rfl rfl rfl (hjl)) ?_
  refine DD.vf 5 rfl rfl rfl rfl rfl (Vf.load rfl rfl rfl (hwl.int (x := (i : Int)) (by rw [natI_get, hwj]; rfl))) ?_
  refine DD.vf 6 rfl rfl rfl rfl rfl (Vf.idx rfl rfl rfl rfl rfl rfl (hi)) ?_
  refine DD.vf 7 rfl rfl rfl rfl rfl (Vf.loadN rfl rfl rfl (hwt.whole hxi rfl)) ?_
  refine DD.act 9 rfl rfl rfl rfl rfl (Ef.sto rfl) (by rintro _ _ _ ⟨rfl, rfl, rfl⟩; exact ⟨hle, rfl, .inr rfl⟩) ?_
  rintro _ _ L2 ⟨rfl, rfl, rfl⟩
  refine .fin rfl ?_
  generalize s.wants[i] = x at *
  refine W.weak (E' := [(1, .v (.slice (some lad) w.length wc)), (2, .p 0 0), (5, .v (.slice (some ⟨bn, 0, none⟩) s.loaves.length s.loaves.length)), (6, .v (.int .i64 j)), (7, .p 1 0)]) (B' := [some ⟨cellsS (.v (swA s ⟨qa, qb, some wad, qd, qe, qf⟩)), 26⟩, some ⟨cellsS (.v (.agg (encWt x).toArray)), 28⟩]) (by exact ⟨rfl, rfl, rfl, rfl, rfl, trivial⟩) (by exact ⟨rfl, rfl, trivial⟩) ?_
  refine W.go 99 rfl ?_
  refine W.split rfl rfl rfl (fun e2 => ?_) (fun e2 => ?_)
  ·have e2' : x.sort ≠ 1 := by simpa using e2
   have hk0 := hxm.k0
   have hk1 := hxm.k1
   simp [wKd, e2'] at hk0
   obtain ⟨kd, hkd⟩ : ∃ kd : Nat, x.kind = kd := ⟨x.kind.toNat, by omega⟩
   have hkl : kd < s.loaves.length := by omega
   refine W.go 99 rfl ?_
   refine W.drawn (by kernel_rfl) noL (noL_le _) ?_
   refine DD.run' [0, 1, 2, 3, 4, 5] rfl ?_
   refine DD.vf 6 rfl rfl rfl rfl rfl (Vf.idx1 rfl rfl rfl rfl rfl rfl hkd hkl) ?_
   refine DD.act 7 rfl rfl rfl rfl rfl (Ef.val rfl (Vf.load rfl rfl rfl (hI.get (takenD_get hkl)))) (by rintro _ _ _ ⟨rfl, rfl, rfl⟩; exact ⟨noL_le _, rfl, .inl rfl⟩) ?_
   rintro _ _ _ ⟨rfl, rfl, rfl⟩
   have hbk := hb kd
   refine DD.run' [8] rfl ?_
   rw [wrap64_in _ (by omega) (by omega)]
   refine DD.vf 9 rfl rfl rfl rfl rfl (Vf.idx1 rfl rfl rfl rfl rfl rfl hkd hkl) ?_
   refine DD.act 10 rfl rfl rfl rfl rfl (Ef.stoI hI (by rw [takenD_len]; exact hkl) rfl ⟨_, rfl, rfl⟩) (by rintro _ _ _ ⟨rfl, rfl, _⟩; exact ⟨noL_le _, rfl, .inl rfl⟩) ?_
   rintro _ _ L3 ⟨rfl, rfl, hI3, hk3⟩
   rw [takenD_step e2' hkd, ← htk] at hI3
   refine .fin rfl ?_
   refine W.go 99 rfl ?_
   exact W.again (again _ _ _ _ (by omega) ⟨j + 1, rfl, by omega, fun b z hz => by rw [hk3 b (fun e => by subst e; rw [hbn] at hz; cases hz)]; exact hle _ _ hz, hI3, rfl, rfl⟩) (by exact ⟨rfl, rfl, rfl, congrArg some (inc64 (by omega)), trivial⟩) (by exact ⟨rfl, trivial⟩)
  ·have e2' : x.sort = 1 := by simpa using e2
   refine W.go 99 rfl ?_
   rw [← takenD_no (xs := wantsOf s (w.take j)) e2', ← htk] at hI
   exact W.again (again _ _ _ _ (by omega) ⟨j + 1, rfl, by omega, hle, hI, rfl, rfl⟩) (by exact ⟨rfl, rfl, rfl, congrArg some (inc64 (by omega)), trivial⟩) (by exact ⟨rfl, trivial⟩)
 ·have hje : j = w.length := by simp at e1; omega
  subst hje
  refine W.ret r rfl rfl ?_
  rw [List.take_length] at hI
  exact ⟨bn, by rw [takenD_len]; rfl, hbn, hle, hI⟩
theorem restW_bd {s : Sw} (hok : SOk s) (x : Want) : 0 ≤ restW s x ∧ restW s x ≤ 36 := by
 unfold restW
 have k0 := hok.k0
 have h : 0 ≤ sumL ((loafAt s x.kind).take ((loafAt s x.kind).length - x.amount.toNat)) ∧ sumL ((loafAt s x.kind).take ((loafAt s x.kind).length - x.amount.toNat)) ≤ 36 := by
  by_cases hk : x.kind.toNat < s.loaves.length
  ·have hgd : loafAt s x.kind = s.loaves[x.kind.toNat] := loafAt0 (List.getElem?_eq_getElem hk)
   rw [hgd]
   have hlf := hok.lf _ (List.getElem_mem hk)
   have hl4 := hlf.l4
   have := sumL_bk 9 (s.loaves[x.kind.toNat].take (s.loaves[x.kind.toNat].length - x.amount.toNat)) fun y hy => by have := hlf.r y (List.mem_of_mem_take hy); omega
   rw [List.length_take] at this
   omega
  ·have : loafAt s x.kind = [] := by unfold loafAt; rw [List.getD_eq_getElem?_getD, List.getElem?_eq_none (by omega)]; rfl
   rw [this]; simp [sumL]
 generalize sumL ((loafAt s x.kind).take ((loafAt s x.kind).length - x.amount.toNat)) = S at h ⊢
 omega
theorem suN_bd {s : Sw} (hok : SOk s) (xs : List Want) (k : Nat) : 0 ≤ suN s xs k ∧ suN s xs k ≤ 36 * xs.length := by
 unfold suN
 have h := sumL_bk 36 ((xs.filter (isTp k)).map (restW s)) fun y hy => by
  obtain ⟨x, _, rfl⟩ := List.mem_map.1 hy
  exact restW_bd hok x
 rw [List.length_map] at h
 have h1 := List.length_filter_le (isTp k) xs
 omega
theorem loaf_sum {s : Sw} (hok : SOk s) (k : Nat) : 0 ≤ sumL (s.loaves.getD k []) ∧ sumL (s.loaves.getD k []) ≤ 36 := by
 by_cases hk : k < s.loaves.length
 ·have hgd : s.loaves.getD k [] = s.loaves[k] := loafAt0 (List.getElem?_eq_getElem hk)
  rw [hgd]
  have hlf := hok.lf _ (List.getElem_mem hk)
  have hl4 := hlf.l4
  have := sumL_bk 9 s.loaves[k] fun y hy => by have := hlf.r y hy; omega
  omega
 ·rw [List.getD_eq_getElem?_getD, List.getElem?_eq_none (by omega)]; simp [sumL]
def sugarD (s : Sw) (xs : List Want) (l : List Int) : List Int := (List.range s.loaves.length).map fun k => l.getD k 0 * sumL (s.loaves.getD k []) + suN s xs k
def sugar0 (s : Sw) (l : List Int) (i : Nat) : List Int := (List.range s.loaves.length).map fun k => if k < i then l.getD k 0 * sumL (s.loaves.getD k []) else 0
theorem sugarD_len (s : Sw) (xs : List Want) (l : List Int) : (sugarD s xs l).length = s.loaves.length := by simp [sugarD]
theorem sugar0_len (s : Sw) (l : List Int) (i : Nat) : (sugar0 s l i).length = s.loaves.length := by simp [sugar0]
theorem map_set {n k : Nat} {f g : Nat → Int} {v : Int} (hk : k < n) (hv : v = g k) (hn : ∀ j, j < n → j ≠ k → f j = g j) : ((List.range n).map f).set k v = (List.range n).map g := by
 refine List.ext_getElem? fun j => ?_
 rw [List.getElem?_set]
 by_cases hj : j < n
 ·rw [List.getElem?_map, List.getElem?_map, List.getElem?_range hj]
  by_cases e : k = j
  ·subst e; rw [if_pos rfl, if_pos (by simpa using hj), hv]; rfl
  ·rw [if_neg e]; exact congrArg some (hn j hj (fun h => e h.symm))
 ·rw [List.getElem?_eq_none (l := (List.range n).map f) (by simp; omega), List.getElem?_eq_none (l := (List.range n).map g) (by simp; omega)]
  split
  ·rw [if_neg (by simp; omega)]
  ·rfl
theorem sugar0_step {s : Sw} {l : List Int} {i : Nat} (hi : i < s.loaves.length) : (sugar0 s l i).set i (l.getD i 0 * sumL (s.loaves.getD i [])) = sugar0 s l (i + 1) :=
 map_set hi (by rw [if_pos (by omega)]) fun j _ hne => by
  by_cases h : j < i
  ·rw [if_pos h, if_pos (by omega)]
  ·rw [if_neg h, if_neg (by omega)]
theorem sugar0_0 (s : Sw) (l : List Int) : sugar0 s l 0 = List.replicate s.loaves.length 0 := by
 unfold sugar0
 refine List.ext_getElem? fun j => ?_
 rw [List.getElem?_map, List.getElem?_replicate]
 by_cases hj : j < s.loaves.length
 ·rw [List.getElem?_range hj, if_pos hj]; simp
 ·rw [List.getElem?_eq_none (by simp; omega), if_neg hj]; rfl
theorem sugar0_n (s : Sw) (l : List Int) : sugar0 s l s.loaves.length = sugarD s [] l := by
 unfold sugar0 sugarD
 refine List.map_congr_left fun k hk => ?_
 rw [if_pos (List.mem_range.1 hk)]
 simp [suN, sumL]
theorem isTp_eq {x : Want} {kd : Nat} (hs : x.sort = 2) (hk : x.kind = (kd : Int)) (k : Nat) : isTp k x = (kd == k) := by
 unfold isTp
 rw [hk, Bool.eq_iff_iff]
 simp [hs]
 omega
theorem sugarD_get {s : Sw} {xs : List Want} {l : List Int} {k : Nat} (hk : k < s.loaves.length) : (sugarD s xs l)[k]? = some (l.getD k 0 * sumL (s.loaves.getD k []) + suN s xs k) := by
 unfold sugarD; rw [List.getElem?_map, List.getElem?_range hk]; rfl
theorem sugarD_step {s : Sw} {xs : List Want} {l : List Int} {x : Want} {kd : Nat} (hs : x.sort = 2) (hk : x.kind = (kd : Int)) (hl : kd < s.loaves.length) : (sugarD s xs l).set kd (l.getD kd 0 * sumL (s.loaves.getD kd []) + suN s xs kd + restW s x) = sugarD s (xs ++ [x]) l :=
 map_set hl (by rw [suN_snoc, if_pos (by rw [isTp_eq hs hk]; simp)]; omega) fun j _ hne => by rw [suN_snoc, if_neg (by rw [isTp_eq hs hk]; simp; omega)]; omega
theorem sugarD_no {s : Sw} {xs : List Want} {l : List Int} {x : Want} (hs : x.sort ≠ 2) : sugarD s (xs ++ [x]) l = sugarD s xs l := by
 unfold sugarD
 refine List.map_congr_left fun k _ => ?_
 rw [suN_snoc, if_neg (by simp [isTp, hs]), Int.add_zero]
theorem mul_bd {a b : Int} (h1 : 0 ≤ a ∧ a ≤ 8) (h2 : 0 ≤ b ∧ b ≤ 36) : 0 ≤ a * b ∧ a * b ≤ 288 := by
 refine ⟨Int.mul_nonneg h1.1 h2.1, ?_⟩
 have := Int.mul_le_mul h1.2 h2.2 h2.1 (by decide)
 omega
theorem rCrushes_sp (s : Sw) (p : Wp) (wa la : Option Addr) (wc lc : Nat) (w : List Nat) (l : List Int) (L : LH) (hs : SwAt L s p) (hok : SOk s) (hwl : IntsAt L wa (natI w)) (hw : WnOk s w) (n1 : w.length ≤ 1000) (hll : IntsAt L la l) (hl1 : l.length = s.loaves.length) (hl8 : ∀ x ∈ l, 0 ≤ x ∧ x ≤ 8) :
  Sp X 136 [swA s p, .slice wa w.length wc, .slice la l.length lc] L (NewInts L (sugarD s (wantsOf s w) l)) := by
 have hl3 := hok.l3
 have hg8 : ∀ k, 0 ≤ l.getD k 0 ∧ l.getD k 0 ≤ 8 := fun k => by
  by_cases hk : k < l.length
  ·rw [List.getD_eq_getElem?_getD, List.getElem?_eq_getElem hk]; exact hl8 _ (List.getElem_mem hk)
  ·rw [List.getD_eq_getElem?_getD, List.getElem?_eq_none (by omega)]; decide
 refine Sp.enter (n := 69) Tryz.func136 rfl rfl rfl rfl fun C hX _ hL0 r => ?_
 refine W.go 99 rfl ?_
 refine W.eff rfl rfl rfl (Ef.makeSlice rfl (by omega) Tryz.underlying23 size3 bytes3 zero3 (by decide) rfl) ?_
 rintro _ _ _ ⟨bn, rfl, rfl, hbn, rfl⟩
 refine W.go 99 rfl ?_
 have hLp := Le.put hbn (.cells (Array.replicate s.loaves.length (.int .i64 0)) 3)
 have h0 : IBlk (L.put bn (.cells (Array.replicate s.loaves.length (.int .i64 0)) 3)) bn (sugar0 s l 0) := by rw [sugar0_0]; exact IBlk.zero
 refine W.loop (fun m E B L' => ∃ j : Nat, m = s.loaves.length - j ∧ j ≤ s.loaves.length ∧ Le L L' ∧ IBlk L' bn (sugar0 s l j) ∧
   E = [(1, .v (.slice wa w.length wc)), (2, .v (.slice la l.length lc)), (3, .p 0 0), (7, .v (.slice (some ⟨bn, 0, none⟩) s.loaves.length s.loaves.length)), (8, .v (.int .i64 j))] ∧ B = [some ⟨cellsS (.v (swA s p)), 26⟩])
  ⟨0, rfl, by omega, hLp, h0, rfl, rfl⟩ (by exact ⟨rfl, rfl, rfl, rfl, rfl, trivial⟩) (by exact ⟨rfl, trivial⟩) ?_
 rintro _ _ _ L1 ⟨j, rfl, hj, hle, hI, rfl, rfl⟩ again
 refine W.go 99 rfl ?_
 refine W.split rfl rfl rfl (fun e1 => W.go 99 rfl ?_) (fun e1 => W.go 99 rfl ?_)
 ·have hjl : j < s.loaves.length := by simpa using e1
  obtain ⟨ll, rfl⟩ := hll.addr (show j < l.length by omega)
  obtain ⟨oa, a, c, hla, hc, hsl, hcp⟩ := has_loaf hs hjl
  have hlf := hok.lf _ (List.getElem_mem hjl)
  have hl4 := hlf.l4
  have hgd : s.loaves.getD j [] = s.loaves[j] := loafAt0 (List.getElem?_eq_getElem hjl)
  have hm := mul_bd (hg8 j) (loaf_sum hok j)
  have hlj : l[j]? = some (l.getD j 0) := by rw [List.getD_eq_getElem?_getD, List.getElem?_eq_getElem (by omega)]; rfl
  have htot := rTotal_sp (X := C.X) a c s.loaves[j] L1 (hsl.le hle) (by omega) fun y hy => by have := hlf.r y hy; omega
  rw [← hgd] at htot hc hsl
  obtain ⟨qa, qb, qc, qd, qe, qf⟩ := p
  obtain rfl : qa = some oa := hla
  refine W.drawn (by kernel_rfl) L hle ?_
  refine DD.run' [0, 1, 2, 3, 6, 7, 8] rfl ?_
  refine DD.vf 4 rfl rfl rfl rfl rfl (Vf.idx1 rfl rfl rfl rfl rfl rfl rfl ((show j < l.length by omega))) ?_
  refine DD.vf 5 rfl rfl rfl rfl rfl (Vf.load rfl rfl rfl (hll.int hlj)) ?_
  refine DD.vf 9 rfl rfl rfl rfl rfl (Vf.idx1 rfl rfl rfl rfl rfl rfl rfl (hjl)) ?_
  refine DD.vf 10 rfl rfl rfl rfl rfl (Vf.load rfl rfl rfl (hc)) ?_
  refine DD.act 11 rfl rfl rfl rfl rfl (Ef.call rfl (htot)) ((by rintro _ _ _ ⟨_, rfl, rfl, rfl, rfl⟩; exact ⟨hle, rfl, .inl rfl⟩)) ?_
  rintro _ _ _ ⟨_, rfl, rfl, rfl, rfl⟩
  refine DD.run' [12] rfl ?_
  rw [wrap64_in _ (by omega) (by omega)]
  refine DD.vf 13 rfl rfl rfl rfl rfl (Vf.idx1 rfl rfl rfl rfl rfl rfl rfl (hjl)) ?_
  refine DD.act 14 rfl rfl rfl rfl rfl (Ef.stoI hI (by rw [sugar0_len]; exact hjl) rfl ⟨_, rfl, rfl⟩) (by rintro _ _ _ ⟨rfl, rfl, _, hk⟩; exact ⟨fun b z hz => by rw [hk b (fun e => by subst e; rw [hbn] at hz; cases hz)]; exact hle _ _ hz, rfl, .inl rfl⟩) ?_
  rintro _ _ L3 ⟨rfl, rfl, hI3, hk3⟩
  rw [sugar0_step hjl] at hI3
  refine .fin rfl ?_
  refine W.go 99 rfl ?_
  exact W.again (again _ _ _ _ (by omega) ⟨j + 1, rfl, by omega, fun b z hz => by rw [hk3 b (fun e => by subst e; rw [hbn] at hz; cases hz)]; exact hle _ _ hz, hI3, rfl, rfl⟩) (by exact ⟨rfl, rfl, rfl, rfl, congrArg some (inc64 (by omega)), trivial⟩) (by exact ⟨rfl, trivial⟩)
 have hje : j = s.loaves.length := by simp at e1; omega
 subst hje
 rw [sugar0_n] at hI
 clear again
 refine W.loop (fun m E B L' => ∃ j : Nat, m = w.length - j ∧ j ≤ w.length ∧ Le L L' ∧ IBlk L' bn (sugarD s (wantsOf s (w.take j)) l) ∧
   E = [(1, .v (.slice wa w.length wc)), (3, .p 0 0), (7, .v (.slice (some ⟨bn, 0, none⟩) s.loaves.length s.loaves.length)), (9, .v (.int .i64 j))] ∧ B = [some ⟨cellsS (.v (swA s p)), 26⟩])
  ⟨0, rfl, by omega, hle, hI, rfl, rfl⟩ (by exact ⟨rfl, rfl, rfl, rfl, trivial⟩) (by exact ⟨rfl, trivial⟩) ?_
 clear hle hI
 rintro _ _ _ L1 ⟨j, rfl, hj, hle, hI, rfl, rfl⟩ again
 refine W.go 99 rfl ?_
 refine W.split rfl rfl rfl (fun e1 => W.go 99 rfl ?_) (fun e1 => W.go 99 rfl ?_)
 ·have hjl : j < w.length := by simpa using e1
  obtain ⟨i, hi, hwj, htk⟩ := wants_take hw hjl
  have hxm := hok.wt _ (List.getElem_mem hi)
  obtain ⟨lad, rfl⟩ := hwl.addr (show j < (natI w).length by rw [natI_len]; exact hjl)
  obtain ⟨wad, hwa⟩ := hs.wt.addr hi
  have hwt := hs.wt
  rw [hwa] at hwt
  have hxi : s.wants[i]? = some s.wants[i] := List.getElem?_eq_getElem hi
  have hb := suN_bd hok (wantsOf s (w.take j))
  have hb2 := wantsOf_len s (w.take j)
  simp only [List.length_take] at hb2
  obtain ⟨qa, qb, qc, qd, qe, qf⟩ := p
  obtain rfl : qc = some wad := hwa
  refine W.drawn (by kernel_rfl) L hle ?_
  refine DD.run' [0, 1, 2, 3, 8] rfl ?_
  refine DD.vf 4 rfl rfl rfl rfl rfl (Vf.idx1 rfl rfl rfl rfl rfl rfl rfl (hjl)) ?_
  refine DD.vf 5 rfl rfl rfl rfl rfl (Vf.load rfl rfl rfl (hwl.int (x := (i : Int)) (by rw [natI_get, hwj]; rfl))) ?_
  refine DD.vf 6 rfl rfl rfl rfl rfl (Vf.idx rfl rfl rfl rfl rfl rfl (hi)) ?_
  refine DD.vf 7 rfl rfl rfl rfl rfl (Vf.loadN rfl rfl rfl (hwt.whole hxi rfl)) ?_
  refine DD.act 9 rfl rfl rfl rfl rfl (Ef.sto rfl) (by rintro _ _ _ ⟨rfl, rfl, rfl⟩; exact ⟨hle, rfl, .inr rfl⟩) ?_
  rintro _ _ L2 ⟨rfl, rfl, rfl⟩
  rename_i L2
  refine .fin rfl ?_
  generalize s.wants[i] = x at *
  refine W.weak (E' := [(1, .v (.slice (some lad) w.length wc)), (3, .p 0 0), (7, .v (.slice (some ⟨bn, 0, none⟩) s.loaves.length s.loaves.length)), (9, .v (.int .i64 j)), (10, .p 1 0)]) (B' := [some ⟨cellsS (.v (swA s ⟨qa, qb, some wad, qd, qe, qf⟩)), 26⟩, some ⟨cellsS (.v (.agg (encWt x).toArray)), 28⟩]) (by exact ⟨rfl, rfl, rfl, rfl, rfl, trivial⟩) (by exact ⟨rfl, rfl, trivial⟩) ?_
  refine W.go 99 rfl ?_
  refine W.split rfl rfl rfl (fun e2 => ?_) (fun e2 => ?_)
  ·have e2' : x.sort = 2 := by simpa using e2
   have hk0 := hxm.k0
   have hk1 := hxm.k1
   simp [wKd, e2'] at hk0
   obtain ⟨kd, hkd⟩ : ∃ kd : Nat, x.kind = kd := ⟨x.kind.toNat, by omega⟩
   have hkl : kd < s.loaves.length := by omega
   have hrw := restW_bd hok x
   have hmb := mul_bd (hg8 kd) (loaf_sum hok kd)
   have hbk := hb kd
   have hbe := rBelow_sp (X := C.X) s ⟨qa, qb, some wad, qd, qe, qf⟩ x L2 (hs.le hle) hok hxm e2'
   have hcell := hI.get (sugarD_get (l := l) hkl)
   refine W.go 99 rfl ?_
   refine W.drawn (by kernel_rfl) noL (noL_le _) ?_
   refine DD.run' [0, 1, 2, 3, 4, 5, 8, 9, 10, 11, 12] rfl ?_
   refine DD.vf 6 rfl rfl rfl rfl rfl (Vf.idx1 rfl rfl rfl rfl rfl rfl hkd hkl) ?_
   have done : ∀ L3, IBlk L3 bn (sugarD s (wantsOf s (w.take (j + 1))) l) → (∀ b', b' ≠ bn → L3 b' = L2 b') → ∀ b z, L b = some z → L3 b = some z := fun L3 _ hk b z hz => by rw [hk b (fun e => by subst e; rw [hbn] at hz; cases hz)]; exact hle _ _ hz
   refine DD.act2 7 13 rfl rfl rfl rfl rfl rfl rfl rfl (Ef.val rfl (Vf.load rfl rfl rfl (by exact hcell))) (Ef.call rfl hbe) (by rintro _ _ _ ⟨rfl, rfl, rfl⟩; exact ⟨noL_le _, rfl, .inl rfl⟩) (by rintro _ _ _ ⟨_, rfl, rfl, rfl, rfl⟩; exact ⟨noL_le _, rfl, .inl rfl⟩) ?_ ?_
   ·rintro _ _ _ ⟨rfl, rfl, hq⟩
    obtain rfl := hq.symm
    refine DD.act 13 rfl rfl rfl rfl rfl (Ef.call rfl (hbe)) ((by rintro _ _ _ ⟨_, rfl, rfl, rfl, rfl⟩; exact ⟨noL_le _, rfl, .inl rfl⟩)) ?_
    rintro _ _ _ ⟨_, rfl, rfl, rfl, rfl⟩
    refine DD.run' [14] rfl ?_
    rw [wrap64_in _ (by omega) (by omega)]
    refine DD.vf 15 rfl rfl rfl rfl rfl (Vf.idx1 rfl rfl rfl rfl rfl rfl hkd hkl) ?_
    refine DD.act 16 rfl rfl rfl rfl rfl (Ef.stoI hI (by rw [sugarD_len]; exact hkl) rfl ⟨_, rfl, rfl⟩) (by rintro _ _ _ ⟨rfl, rfl, _⟩; exact ⟨noL_le _, rfl, .inl rfl⟩) ?_
    rintro _ _ L3 ⟨rfl, rfl, hI3, hk3⟩
    rw [sugarD_step e2' hkd hkl, ← htk] at hI3
    refine .fin rfl ?_
    refine W.go 99 rfl ?_
    exact W.again (again _ _ _ _ (by omega) ⟨j + 1, rfl, by omega, done _ hI3 hk3, hI3, rfl, rfl⟩) (by exact ⟨rfl, rfl, rfl, congrArg some (inc64 (by omega)), trivial⟩) (by exact ⟨rfl, trivial⟩)
   ·rintro _ _ _ ⟨_, rfl, rfl, rfl, hq⟩
    obtain rfl := hq.symm
    refine DD.act 7 rfl rfl rfl rfl rfl (Ef.val rfl (Vf.load rfl rfl rfl (hcell))) (by rintro _ _ _ ⟨rfl, rfl, rfl⟩; exact ⟨noL_le _, rfl, .inl rfl⟩) ?_
    rintro _ _ _ ⟨rfl, rfl, rfl⟩
    refine DD.run' [14] rfl ?_
    rw [wrap64_in _ (by omega) (by omega)]
    refine DD.vf 15 rfl rfl rfl rfl rfl (Vf.idx1 rfl rfl rfl rfl rfl rfl hkd hkl) ?_
    refine DD.act 16 rfl rfl rfl rfl rfl (Ef.stoI hI (by rw [sugarD_len]; exact hkl) rfl ⟨_, rfl, rfl⟩) (by rintro _ _ _ ⟨rfl, rfl, _⟩; exact ⟨noL_le _, rfl, .inl rfl⟩) ?_
    rintro _ _ L3 ⟨rfl, rfl, hI3, hk3⟩
    rw [sugarD_step e2' hkd hkl, ← htk] at hI3
    refine .fin rfl ?_
    refine W.go 99 rfl ?_
    exact W.again (again _ _ _ _ (by omega) ⟨j + 1, rfl, by omega, done _ hI3 hk3, hI3, rfl, rfl⟩) (by exact ⟨rfl, rfl, rfl, congrArg some (inc64 (by omega)), trivial⟩) (by exact ⟨rfl, trivial⟩)
  ·have e2' : x.sort ≠ 2 := by simpa using e2
   refine W.go 99 rfl ?_
   rw [← sugarD_no (xs := wantsOf s (w.take j)) e2', ← htk] at hI
   exact W.again (again _ _ _ _ (by omega) ⟨j + 1, rfl, by omega, hle, hI, rfl, rfl⟩) (by exact ⟨rfl, rfl, rfl, congrArg some (inc64 (by omega)), trivial⟩) (by exact ⟨rfl, trivial⟩)
 ·have hje : j = w.length := by simp at e1; omega
  subst hje
  refine W.ret r rfl rfl ?_
  rw [List.take_length] at hI
  exact ⟨bn, by rw [sugarD_len]; rfl, hbn, hle, hI⟩
end Go.Mz


set_option maxRecDepth 100000
namespace Go.Mz
open Go.Conc Go.Proofs
variable {X : Logic Tryz.prog}
theorem wants_mem {s : Sw} (hok : SOk s) {w : List Nat} {x : Want} (hx : x ∈ wantsOf s w) : WtOk s.loaves x := by
 unfold wantsOf at hx
 obtain ⟨i, _, hi⟩ := List.mem_filterMap.1 hx
 exact hok.wt x (List.mem_of_getElem? hi)
theorem suN_far {s : Sw} (hok : SOk s) (w : List Nat) {k : Nat} (hk : s.loaves.length ≤ k) : suN s (wantsOf s w) k = 0 := by
 unfold suN
 rw [List.filter_eq_nil_iff.2]
 ·rfl
 ·intro x hx h
  have hw := wants_mem hok hx
  simp [isTp] at h
  have := hw.k1
  omega
theorem any_on {α : Type} {f g : α → Bool} : ∀ {l : List α}, (∀ k ∈ l, f k = g k) → l.any f = l.any g
 | [], _ => rfl
 | x :: l, h => by rw [List.any_cons, List.any_cons, h x List.mem_cons_self, any_on fun k hk => h k (List.mem_cons_of_mem _ hk)]
theorem tksN_du (k : Nat) (xs : List Want) : tksN (k : Int) xs = duN xs k := by
 unfold tksN duN
 congr 2
theorem tksN_all : ∀ {xs : List Want}, (∀ x ∈ xs, InP x) → tksN (-1) xs = duN xs 0 + duN xs 1 + duN xs 2 + anN xs
 | [], _ => rfl
 | x :: xs, h => by
  have ih := tksN_all fun y hy => h y (List.mem_cons_of_mem _ hy)
  have hx := (h x List.mem_cons_self).k
  rw [duN_cons, duN_cons, duN_cons, anN_cons]
  have ht : tksN (-1) (x :: xs) = tksN (-1) xs + if isTks (-1) x then x.amount else 0 := by
   unfold tksN
   rw [List.filter_cons]
   split
   ·rw [List.map_cons, sumL_cons]; omega
   ·omega
  rw [ht, ih]
  by_cases hs : x.sort = 1
  ·rcases hx with e | e | e | ⟨e, _⟩ <;> simp [isTks, isDu, isAny, hs, e] <;> omega
  ·simp [isTks, isDu, isAny, hs]
theorem sugarD_sum {s : Sw} (hok : SOk s) (w : List Nat) (l : List Int) : sumL (sugarD s (wantsOf s w) l) = sumL (planW s w l).s := by
 rw [planW_eq hok, sum3]
 have h1 := hok.l1
 have h3 := hok.l3
 have h0 := suN_far hok w (k := 0)
 have h4 := suN_far hok w (k := 1)
 have h5 := suN_far hok w (k := 2)
 have : s.loaves.length = 1 ∨ s.loaves.length = 2 ∨ s.loaves.length = 3 := by omega
 rcases this with e | e | e
 all_goals
  rw [e] at h0 h4 h5
  simp [sugarD, e, lfN, List.range_succ, sumL] at h4 h5 ⊢
  omega
theorem over_eq {s : Sw} (hok : SOk s) (w : List Nat) (l : List Int) : sumL (sugarD s (wantsOf s w) l) - tksN (-1) (wantsOf s w) = leftW (planW s w l) := by
 unfold leftW
 rw [sugarD_sum hok, tksN_all hok.inp, planW_eq hok]
 simp only [sum3]
 omega
theorem right_eq {s : Sw} (hok : SOk s) (w : List Nat) (l : List Int) : rightW s (planW s w l) =
  if (List.range s.loaves.length).any (fun k => decide (s.stock.getD k 0 < tkN (wantsOf s w) k + l.getD k 0)) then 12 else
  if (List.range s.loaves.length).any (fun k => decide (l.getD k 0 * sumL (s.loaves.getD k []) + suN s (wantsOf s w) k < tksN k (wantsOf s w))) then 9 else
  if sumL (sugarD s (wantsOf s w) l) < tksN (-1) (wantsOf s w) then 9 else 0 := by
 have hst := hok.st
 have h3 := hok.l3
 have ho := over_eq hok w l
 unfold rightW
 rw [hst]
 have e1 : (List.range s.loaves.length).any (fun k => decide (s.stock.getD k 0 < (planW s w l).t.getD k 0)) = (List.range s.loaves.length).any (fun k => decide (s.stock.getD k 0 < tkN (wantsOf s w) k + l.getD k 0)) := by
  refine any_on fun k hk => ?_
  have hk := List.mem_range.1 hk
  rw [planW_eq hok, rng3_get (by omega)]
  unfold lfN
  rw [if_pos hk]
 have e2 : (List.range s.loaves.length).any (fun k => decide ((planW s w l).s.getD k 0 < (planW s w l).d.getD k 0)) = (List.range s.loaves.length).any (fun k => decide (l.getD k 0 * sumL (s.loaves.getD k []) + suN s (wantsOf s w) k < tksN k (wantsOf s w))) := by
  refine any_on fun k hk => ?_
  have hk := List.mem_range.1 hk
  rw [planW_eq hok, rng3_get (by omega), rng3_get (by omega), tksN_du]
  unfold lfN
  rw [if_pos hk, Int.add_comm]
 rw [e1, e2, ← ho]
 congr 2
 by_cases h : sumL (sugarD s (wantsOf s w) l) < tksN (-1) (wantsOf s w)
 ·rw [if_pos h, if_pos (by omega)]
 ·rw [if_neg h, if_neg (by omega)]
theorem getD_some {l : List Int} {k : Nat} (h : k < l.length) : l[k]? = some (l.getD k 0) := by rw [List.getD_eq_getElem?_getD, List.getElem?_eq_getElem h]; rfl
theorem sugarD_bd {s : Sw} (hok : SOk s) (xs : List Want) {l : List Int} (hg8 : ∀ k, 0 ≤ l.getD k 0 ∧ l.getD k 0 ≤ 8) (hx : xs.length ≤ 100) : ∀ y ∈ sugarD s xs l, 0 ≤ y ∧ y ≤ (4000 : Nat) := by
 intro y hy
 obtain ⟨k, _, rfl⟩ := List.mem_map.1 hy
 have h1 := suN_bd hok xs k
 have h2 := mul_bd (hg8 k) (loaf_sum hok k)
 omega
theorem getD8 {l : List Int} (h : ∀ x ∈ l, 0 ≤ x ∧ x ≤ 8) (k : Nat) : 0 ≤ l.getD k 0 ∧ l.getD k 0 ≤ 8 := by
 by_cases hk : k < l.length
 ·rw [List.getD_eq_getElem?_getD, List.getElem?_eq_getElem hk]; exact h _ (List.getElem_mem hk)
 ·rw [List.getD_eq_getElem?_getD, List.getElem?_eq_none (by omega)]; decide
structure PlnAt (L : LH) (s : Sw) (p : Wp) (wa : Option Addr) (w : List Nat) (la : Option Addr) (l : List Int) : Prop where
 sw : SwAt L s p
 w : IntsAt L wa (natI w)
 l : IntsAt L la l
structure PlnOk (s : Sw) (w : List Nat) (l : List Int) : Prop where
 ok : SOk s
 wn : WnOk s w
 n : w.length ≤ 100
 l1 : l.length = s.loaves.length
 l8 : ∀ x ∈ l, 0 ≤ x ∧ x ≤ 8
theorem PlnAt.le {L L' : LH} {s : Sw} {p : Wp} {wa : Option Addr} {w : List Nat} {la : Option Addr} {l : List Int} (h : PlnAt L s p wa w la l) (hl : Le L L') : PlnAt L' s p wa w la l := ⟨h.sw.le hl, h.w.le hl, h.l.le hl⟩
theorem rOver_sp (s : Sw) (p : Wp) (wa la : Option Addr) (wc lc : Nat) (w : List Nat) (l : List Int) (L : LH) (h : PlnAt L s p wa w la l) (ho : PlnOk s w l) :
  Sp X 110 [swA s p, .slice wa w.length wc, .slice la l.length lc] L (fun v L' => v = .int .i64 (leftW (planW s w l)) ∧ Le L L') := by
 have n1 := ho.n
 have n2 := ho.l1
 have hl3 := ho.ok.l3
 have hw5 := wantsOf_len s w
 rw [← over_eq ho.ok]
 have hb1 := sumL_bk 4000 _ (sugarD_bd ho.ok (wantsOf s w) (getD8 ho.l8) (by omega))
 rw [sugarD_len] at hb1
 have hb2 := tksN_bd ho.ok (-1) w
 refine Sp.enter (n := 16) Tryz.func110 rfl rfl rfl rfl fun C hX _ hL0 r => ?_
 refine W.go 99 rfl ?_
 refine W.drawn (by kernel_rfl) _ (Le.refl _) ?_
 refine DD.run' [0, 1, 2, 5, 6] rfl ?_
 refine DD.act 3 rfl rfl rfl rfl rfl (Ef.call rfl ((rCrushes_sp s p wa la wc lc w l L h.sw ho.ok h.w ho.wn (by omega) h.l n2 ho.l8))) ((by rintro _ _ _ ⟨_, rfl, rfl, _, rfl, _, hl, _⟩; exact ⟨hl, rfl, .inl rfl⟩)) ?_
 rintro _ _ _ ⟨v1, rfl, rfl, b1, rfl, hb, hle, hI⟩
 rename_i L1
 refine DD.act 4 rfl rfl rfl rfl rfl (Ef.call rfl ((rTotal_sp (some ⟨b1, 0, none⟩) _ _ L1 hI.ints (by rw [sugarD_len]; omega) (sugarD_bd ho.ok (wantsOf s w) (getD8 ho.l8) (by omega))))) ((by rintro _ _ _ ⟨_, rfl, rfl, rfl, rfl⟩; exact ⟨hle, rfl, .inl rfl⟩)) ?_
 rintro _ _ _ ⟨_, rfl, rfl, rfl, rfl⟩
 refine DD.act 7 rfl rfl rfl rfl rfl (Ef.call rfl ((rTakes_sp s p wa wc w (-1) L1 (h.sw.le hle) ho.ok (h.w.le hle) ho.wn (by omega)))) ((by rintro _ _ _ ⟨_, rfl, rfl, rfl, rfl⟩; exact ⟨hle, rfl, .inl rfl⟩)) ?_
 rintro _ _ _ ⟨_, rfl, rfl, rfl, rfl⟩
 refine DD.run' [8, 9] rfl ?_
 refine .fin rfl ?_
 refine W.go 99 rfl ?_
 refine W.ret r rfl rfl ?_
 refine ⟨?_, hle⟩
 show Value.int .i64 (IntKind.i64.wrap (sumL (sugarD s (wantsOf s w) l) - tksN (-1) (wantsOf s w))) = _
 rw [wrap64_in _ (by omega) (by omega)]
theorem rRight_sp (s : Sw) (p : Wp) (wa la : Option Addr) (wc lc : Nat) (w : List Nat) (l : List Int) (L : LH) (h : PlnAt L s p wa w la l) (ho : PlnOk s w l) :
  Sp X 112 [swA s p, .slice wa w.length wc, .slice la l.length lc] L (fun v L' => v = .int .i64 (rightW s (planW s w l)) ∧ Le L L') := by
 have n1 := ho.n
 have n2 := ho.l1
 have hok := ho.ok
 have hl3 := hok.l3
 have hst := hok.st
 have hw5 := wantsOf_len s w
 rw [right_eq hok]
 have hb1 := sumL_bk 4000 _ (sugarD_bd ho.ok (wantsOf s w) (getD8 ho.l8) (by omega))
 rw [sugarD_len] at hb1
 have hb2 := tksN_bd ho.ok (-1) w
 refine Sp.enter (n := 60) Tryz.func112 rfl rfl rfl rfl fun C hX _ hL0 r => ?_
 refine W.go 99 rfl ?_
 refine W.drawn (by kernel_rfl) _ (Le.refl _) ?_
 refine DD.run' [0, 1, 3, 4, 5] rfl ?_
 refine DD.act 2 rfl rfl rfl rfl rfl (Ef.call rfl ((rTaken_sp s p wa wc w L h.sw hok h.w ho.wn (by omega)))) ((by rintro _ _ _ ⟨_, rfl, rfl, _, rfl, _, hl, _⟩; exact ⟨hl, rfl, .inl rfl⟩)) ?_
 rintro _ _ _ ⟨v1, rfl, rfl, b1, rfl, hbn1, hle1, hI1⟩
 rename_i L1
 refine DD.act 6 rfl rfl rfl rfl rfl (Ef.call rfl ((rCrushes_sp s p wa la wc lc w l L1 (h.sw.le hle1) ho.ok (h.w.le hle1) ho.wn (by omega) (h.l.le hle1) n2 ho.l8))) ((by rintro _ _ _ ⟨_, rfl, rfl, _, rfl, _, hl, _⟩; exact ⟨hle1.trans hl, rfl, .inl rfl⟩)) ?_
 rintro _ _ _ ⟨v2, rfl, rfl, b2, rfl, hbn2, hle2, hI2⟩
 rename_i L2
 have hle := hle1.trans hle2
 have hI1 : IBlk L2 b1 (takenD s (wantsOf s w)) := hle2 _ _ hI1
 have h2 := h.le hle
 refine DD.run' [7, 8] rfl ?_
 refine .fin rfl ?_
 refine W.go 99 rfl ?_
 rw [takenD_len, sugarD_len]
 have hsa := h2.sw.st
 have hll := h2.l
 refine W.loop (fun m E B L' => ∃ k : Nat, m = s.loaves.length - k ∧ k ≤ s.loaves.length ∧ L2 = L' ∧ (List.range k).any (fun k => decide (s.stock.getD k 0 < tkN (wantsOf s w) k + l.getD k 0)) = false ∧
   E = [(1, .v (.slice wa w.length wc)), (2, .v (.slice la l.length lc)), (3, .p 0 0), (7, .v (.slice (some ⟨b1, 0, none⟩) s.loaves.length s.loaves.length)), (8, .v (.slice (some ⟨b2, 0, none⟩) s.loaves.length s.loaves.length)), (9, .v (.int .i64 k))] ∧ B = [some ⟨cellsS (.v (swA s p)), 26⟩])
  ⟨0, rfl, by omega, rfl, rfl, rfl, rfl⟩ (by exact ⟨rfl, rfl, rfl, rfl, rfl, rfl, trivial⟩) (by exact ⟨rfl, trivial⟩) ?_
 rintro _ _ _ _ ⟨k, rfl, hk, rfl, hno, rfl, rfl⟩ again
 refine W.go 99 rfl ?_
 refine W.split rfl rfl rfl (fun e1 => W.go 99 rfl ?_) (fun e1 => W.go 99 rfl ?_)
 ·have hkl : k < s.loaves.length := by simpa using e1
  obtain ⟨lad, rfl⟩ := hll.addr (show k < l.length by omega)
  obtain ⟨sad, hse⟩ := hsa.addr (show k < s.stock.length by omega)
  rw [hse] at hsa
  have ht := tkN_bd (wantsOf s w) k
  have hlk := getD8 ho.l8 k
  obtain ⟨qa, qb, qc, qd, qe, qf⟩ := p
  obtain rfl : qb = some sad := hse
  refine W.drawn (by kernel_rfl) _ (Le.refl _) ?_
  refine DD.run' [0, 1, 4, 5, 9, 10, 11] rfl ?_
  refine DD.vf 2 rfl rfl rfl rfl rfl (Vf.idx1 rfl rfl rfl rfl rfl rfl rfl (hkl)) ?_
  refine DD.vf 3 rfl rfl rfl rfl rfl (Vf.load rfl rfl rfl (hI1.get (takenD_get hkl))) ?_
  refine DD.vf 6 rfl rfl rfl rfl rfl (Vf.idx1 rfl rfl rfl rfl rfl rfl rfl ((show k < l.length by omega))) ?_
  refine DD.vf 7 rfl rfl rfl rfl rfl (Vf.load rfl rfl rfl (hll.int (getD_some (by omega)))) ?_
  refine DD.run' [8] rfl ?_
  rw [wrap64_in _ (by omega) (by omega)]
  refine DD.vf 12 rfl rfl rfl rfl rfl (Vf.idx1 rfl rfl rfl rfl rfl rfl rfl ((show k < s.stock.length by omega))) ?_
  refine DD.vf 13 rfl rfl rfl rfl rfl (Vf.load rfl rfl rfl (hsa.int (getD_some (by omega)))) ?_
  refine DD.run' [14] rfl ?_
  refine .fin rfl ?_
  refine W.go 99 rfl ?_
  refine W.split rfl rfl rfl (fun e2 => W.go 99 rfl ?_) (fun e2 => W.go 99 rfl ?_)
  ·refine W.ret r rfl rfl ?_
   rw [if_pos (List.any_eq_true.2 ⟨k, List.mem_range.2 hkl, by simpa using e2⟩)]
   exact ⟨rfl, hle⟩
  ·exact W.again (again _ _ _ _ (by omega) ⟨k + 1, rfl, by omega, rfl, by rw [List.range_succ, List.any_append, hno]; simpa using e2, rfl, rfl⟩) (by exact ⟨rfl, rfl, rfl, rfl, rfl, congrArg some (inc64 (by omega)), trivial⟩) (by exact ⟨rfl, trivial⟩)
 have hke : k = s.loaves.length := by simp at e1; omega
 subst hke
 have hno1 := hno
 clear again hno
 rw [if_neg (by rw [hno1]; decide)] at r
 refine W.loop (fun m E B L' => ∃ k : Nat, m = s.loaves.length - k ∧ k ≤ s.loaves.length ∧ L2 = L' ∧ (List.range k).any (fun k => decide (l.getD k 0 * sumL (s.loaves.getD k []) + suN s (wantsOf s w) k < tksN k (wantsOf s w))) = false ∧
   E = [(1, .v (.slice wa w.length wc)), (3, .p 0 0), (8, .v (.slice (some ⟨b2, 0, none⟩) s.loaves.length s.loaves.length)), (10, .v (.int .i64 k))] ∧ B = [some ⟨cellsS (.v (swA s p)), 26⟩])
  ⟨0, rfl, by omega, rfl, rfl, rfl, rfl⟩ (by exact ⟨rfl, rfl, rfl, rfl, trivial⟩) (by exact ⟨rfl, trivial⟩) ?_
 rintro _ _ _ _ ⟨k, rfl, hk, rfl, hno, rfl, rfl⟩ again
 refine W.go 99 rfl ?_
 refine W.split rfl rfl rfl (fun e1 => W.go 99 rfl ?_) (fun e1 => W.go 99 rfl ?_)
 ·have hkl : k < s.loaves.length := by simpa using e1
  refine W.drawn (by kernel_rfl) _ (Le.refl _) ?_
  refine DD.run' [0, 1, 4, 5, 6] rfl ?_
  refine DD.vf 2 rfl rfl rfl rfl rfl (Vf.idx1 rfl rfl rfl rfl rfl rfl rfl (hkl)) ?_
  refine DD.vf 3 rfl rfl rfl rfl rfl (Vf.load rfl rfl rfl (hI2.get (sugarD_get hkl))) ?_
  refine DD.act 7 rfl rfl rfl rfl rfl (Ef.call rfl (rTakes_sp s p wa wc w k L2 h2.sw hok h2.w ho.wn (by omega))) (by rintro _ _ _ ⟨_, rfl, rfl, rfl, rfl⟩; exact ⟨Le.refl _, rfl, .inl rfl⟩) ?_
  rintro _ _ _ ⟨_, rfl, rfl, rfl, rfl⟩
  refine DD.run' [8] rfl ?_
  refine .fin rfl ?_
  refine W.go 99 rfl ?_
  refine W.split rfl rfl rfl (fun e2 => W.go 99 rfl ?_) (fun e2 => W.go 99 rfl ?_)
  ·refine W.ret r rfl rfl ?_
   rw [if_pos (List.any_eq_true.2 ⟨k, List.mem_range.2 hkl, by simpa using e2⟩)]
   exact ⟨rfl, hle⟩
  ·exact W.again (again _ _ _ _ (by omega) ⟨k + 1, rfl, by omega, rfl, by rw [List.range_succ, List.any_append, hno]; simpa using e2, rfl, rfl⟩) (by exact ⟨rfl, rfl, rfl, congrArg some (inc64 (by omega)), trivial⟩) (by exact ⟨rfl, trivial⟩)
 have hke : k = s.loaves.length := by simp at e1; omega
 subst hke
 rw [if_neg (by rw [hno]; decide)] at r
 clear again
 refine W.drawn (by kernel_rfl) _ (Le.refl _) ?_
 refine DD.run' [0, 2, 3] rfl ?_
 have htot := rTotal_sp (X := C.X) (some ⟨b2, 0, none⟩) s.loaves.length _ L2 hI2.ints (by rw [sugarD_len]; omega) (sugarD_bd ho.ok (wantsOf s w) (getD8 ho.l8) (by omega))
 rw [sugarD_len] at htot
 refine DD.act 1 rfl rfl rfl rfl rfl (Ef.call rfl (htot)) (by rintro _ _ _ ⟨_, rfl, rfl, rfl, rfl⟩; exact ⟨Le.refl _, rfl, .inl rfl⟩) ?_
 rintro _ _ _ ⟨_, rfl, rfl, rfl, rfl⟩
 refine DD.act 4 rfl rfl rfl rfl rfl (Ef.call rfl (rTakes_sp s p wa wc w (-1) L2 h2.sw hok h2.w ho.wn (by omega))) (by rintro _ _ _ ⟨_, rfl, rfl, rfl, rfl⟩; exact ⟨Le.refl _, rfl, .inl rfl⟩) ?_
 rintro _ _ _ ⟨_, rfl, rfl, rfl, rfl⟩
 refine DD.run' [5] rfl ?_
 refine .fin rfl ?_
 refine W.go 99 rfl ?_
 refine W.split rfl rfl rfl (fun e2 => W.go 99 rfl ?_) (fun e2 => W.go 99 rfl ?_)
 ·refine W.ret r rfl rfl ?_
  rw [if_pos (by simpa using e2)]
  exact ⟨rfl, hle⟩
 ·refine W.ret r rfl rfl ?_
  rw [if_neg (by simpa using e2)]
  exact ⟨rfl, hle⟩
end Go.Mz


set_option maxRecDepth 100000
namespace Go.Mz
open Go.Conc Go.Proofs
variable {X : Logic Tryz.prog}
end Go.Mz


set_option maxRecDepth 100000
namespace Go.Mz
open Go.Conc Go.Proofs
variable {X : Logic Tryz.prog}
theorem Grow.setN {α : Type} {I L : LH} {k : Nat} {e : TypeId} {enc : α → List Value} {v : Value} {l : List α} {d : Nat} (h : Grow I k e enc L v l) (hk : ∀ x, (enc x).length = k) (hd : d < l.length) (x : α) :
  ∃ b cap c, v = .slice (some ⟨b, 0, none⟩) l.length cap ∧ I b = none ∧ L b = some (.cells c e (0, 0), true) ∧ d * k + k ≤ c.size ∧ Grow I k e enc (L.put b (.cells (putRow c (d * k) (enc x)) e)) v (l.set d x) := by
 obtain ⟨hI, ob, ho, hn⟩ := h
 cases ob with
 | none => obtain ⟨_, h, _⟩ := ho; omega
 | some b =>
  obtain ⟨cap, c, h1, h2, h3, h4, h5, h6⟩ := ho
  have hsz : d * k + k ≤ c.size := by
   rw [h3, ← Nat.succ_mul]
   exact Nat.mul_le_mul_right _ (by omega)
  have hb := hn b rfl
  refine ⟨b, cap, c, h1, hb, h2, hsz, fun b' y hy => ?_, some b, ⟨cap, putRow c (d * k) (enc x), ?_, put_same _ _ _, ?_, ?_, ?_, fun i y hy => ?_⟩, fun b' hb' => by cases hb'; exact hb⟩
  ·rw [put_ne _ _ (fun e => by subst e; rw [hb] at hy; cases hy)]; exact hI _ _ hy
  ·rw [List.length_set]; exact h1
  ·rw [putRow_size]; exact h3
  ·rw [List.length_set]; exact h4
  ·have : ∀ l : List α, (l.flatMap enc).length = l.length * k := fun l => by
    induction l with
    | nil => simp
    | cons a l ih => rw [List.flatMap_cons, List.length_append, hk, ih, List.length_cons, Nat.succ_mul]; omega
   exact this _
  ·rw [flat_set_get hk l d x i hd] at hy
   rw [putRow_get]
   split at hy
   ·rename_i h7
    rw [if_neg (by omega)]
    have hlt : i - d * k < (enc x).length := by rw [hk]; omega
    rw [List.getElem?_eq_getElem hlt] at hy
    rw [dif_pos ⟨hlt, by omega⟩]; exact hy
   ·rename_i h7
    have := h6 i y hy
    split
    ·exact this
    ·rw [dif_neg (by rw [hk]; omega)]; exact this
end Go.Mz


set_option maxRecDepth 100000
namespace Go.Mz
open Go.Conc Go.Proofs
variable {X : Logic Tryz.prog}
theorem listsD_all (st : List Int) : listsD st [] = listsW st := by unfold listsD; simp
theorem taken_sum {s : Sw} (hok : SOk s) (w : List Nat) {l : List Int} (hl : l.length = s.loaves.length) : sumL (takenD s (wantsOf s w)) + sumL l = sumL (planW s w l).t := by
 rw [planW_eq hok, sum3]
 have h1 := hok.l1
 have h3 := hok.l3
 have far : ∀ k, s.loaves.length ≤ k → tkN (wantsOf s w) k = 0 := fun k hk => by
  unfold tkN
  rw [List.countP_eq_zero.2]
  ·rfl
  ·intro x hx h
   have hw := wants_mem hok hx
   simp [isTk] at h
   have := hw.k1
   omega
 have f1 := far 1
 have f2 := far 2
 have : s.loaves.length = 1 ∨ s.loaves.length = 2 ∨ s.loaves.length = 3 := by omega
 rcases this with e | e | e
 all_goals
  rw [e] at f1 f2 hl
  simp [takenD, e, lfN, List.range_succ, sumL] at f1 f2 ⊢
 ·match l, hl with
  | [a], _ => simp; omega
 ·match l, hl with
  | [a, b], _ => simp; omega
 ·match l, hl with
  | [a, b, c], _ => simp; omega
theorem tk_all : ∀ {xs : List Want}, (∀ x ∈ xs, InP x) → (xs.countP (fun x => x.sort == 2) : Int) ≤ tkN xs 0 + tkN xs 1 + tkN xs 2
 | [], _ => by simp [tkN]
 | x :: xs, h => by
  have ih := tk_all fun y hy => h y (List.mem_cons_of_mem _ hy)
  have hx := (h x List.mem_cons_self).k
  rw [tkN_cons, tkN_cons, tkN_cons, List.countP_cons]
  by_cases hs : x.sort = 2
  ·rcases hx with e | e | e | ⟨e, e'⟩ <;> simp [isTk, hs, e] <;> omega
  ·simp [hs]
   split <;> split <;> split <;> omega
theorem plansW_doc {s : Sw} (hok : SOk s) (w : List Nat) : plansW s w = (listsW s.stock).filter (okW s w) := by
 unfold plansW
 split
 ·rfl
 ·rename_i hc
  symm
  rw [List.filter_eq_nil_iff]
  intro l hl hokl
  apply hc
  have hlm := listsW_mem hl
  have hr : rightW s (planW s w l) = 0 := by unfold okW at hokl; simpa using hokl
  rw [right_eq hok] at hr
  have hst := hok.st
  have h1 := hok.l1
  have h3 := hok.l3
  have hany : (List.range s.loaves.length).any (fun k => decide (s.stock.getD k 0 < tkN (wantsOf s w) k + l.getD k 0)) = false := by
   cases h : (List.range s.loaves.length).any (fun k => decide (s.stock.getD k 0 < tkN (wantsOf s w) k + l.getD k 0)) with
   | false => rfl
   | true => rw [h, if_pos rfl] at hr; cases hr
  rw [List.any_eq_false] at hany
  have hk : ∀ k, k < s.loaves.length → tkN (wantsOf s w) k ≤ s.stock.getD k 0 := fun k hk => by
   have := hany k (List.mem_range.2 hk)
   have h2 := (hlm.2 k).1
   simp only [decide_eq_true_eq] at this
   omega
  have far : ∀ k, s.loaves.length ≤ k → tkN (wantsOf s w) k = 0 := fun k hk => by
   unfold tkN
   rw [List.countP_eq_zero.2]
   ·rfl
   ·intro x hx h
    have hw := wants_mem hok hx
    simp [isTk] at h
    have := hw.k1
    omega
  have ht := tk_all (xs := wantsOf s w) hok.inp
  have e0 := hk 0
  have e1 := hk 1
  have e2 := hk 2
  have f1 := far 1
  have f2 := far 2
  unfold cutsW
  have hs : ∀ st : List Int, st.length = s.loaves.length → sumL st = st.getD 0 0 + (if 1 < s.loaves.length then st.getD 1 0 else 0) + (if 2 < s.loaves.length then st.getD 2 0 else 0) := fun st hl => by
   have : s.loaves.length = 1 ∨ s.loaves.length = 2 ∨ s.loaves.length = 3 := by omega
   rcases this with e | e | e
   all_goals rw [e] at hl ⊢
   ·match st, hl with
    | [a], _ => simp [sumL]
   ·match st, hl with
    | [a, b], _ => simp [sumL]
   ·match st, hl with
    | [a, b, c], _ => simp [sumL]
  rw [hs _ hst]
  split <;> split <;> omega
def docU (s : Sw) (w : List Nat) (j : Nat) : Option Cr := firstBy ltCr ((((listsW s.stock).take j).filter (okW s w)).map (crOf s w))
theorem docU_no {s : Sw} {w : List Nat} {j : Nat} {l : List Int} (h : (listsW s.stock)[j]? = some l) (ho : okW s w l = false) : docU s w (j + 1) = docU s w j := by
 obtain ⟨hj, rfl⟩ := List.getElem?_eq_some_iff.1 h
 unfold docU
 rw [List.take_succ_eq_append_getElem hj, List.filter_append, List.filter_cons_of_neg (by rw [ho]; decide), List.filter_nil, List.append_nil]
theorem docU_yes {s : Sw} {w : List Nat} {j : Nat} {l : List Int} (h : (listsW s.stock)[j]? = some l) (ho : okW s w l = true) : docU s w (j + 1) = takeBy ltCr (docU s w j) (crOf s w l) := by
 obtain ⟨hj, rfl⟩ := List.getElem?_eq_some_iff.1 h
 unfold docU
 rw [List.take_succ_eq_append_getElem hj, List.filter_append, List.filter_cons_of_pos ho, List.filter_nil, List.map_append, List.map_cons, List.map_nil, firstBy_snoc]
theorem docU_all {s : Sw} (hok : SOk s) (w : List Nat) : docU s w (listsW s.stock).length = crushW s w := by
 unfold docU crushW
 rw [List.take_length, plansW_doc hok]
def BstD (s : Sw) (w : List Nat) (o : Option Cr) (v6 : Value) (v7 : Int) (L : LH) : Prop := match o with
 | none => v6 = .slice none 0 0 ∧ v7 = -1
 | some c => ∃ ad cap, v6 = .slice ad c.l.length cap ∧ v7 = c.c ∧ IntsAt L ad c.l ∧ c = crOf s w c.l ∧ c.l ∈ listsW s.stock
theorem BstD.le {s : Sw} {w : List Nat} {o : Option Cr} {v6 : Value} {v7 : Int} {L L' : LH} (h : BstD s w o v6 v7 L) (hl : Le L L') : BstD s w o v6 v7 L' := by
 cases o with
 | none => exact h
 | some c => obtain ⟨ad, cap, h1, h2, h3, h4⟩ := h; exact ⟨ad, cap, h1, h2, h3.le hl, h4⟩
theorem list_ok {s : Sw} (hok : SOk s) {w : List Nat} (hw : WnOk s w) (hn : w.length ≤ 100) {l : List Int} (hl : l ∈ listsW s.stock) : PlnOk s w l := by
 have hm := listsW_mem hl
 have hst := hok.st
 refine ⟨hok, hw, hn, by omega, fun x hx => ?_⟩
 obtain ⟨k, hk, rfl⟩ := List.getElem_of_mem hx
 have h1 := hm.2 k
 have h2 := h1.2 (by omega)
 have h3 := hok.sr (s.stock.getD k 0) (by rw [List.getD_eq_getElem?_getD, List.getElem?_eq_getElem (by omega)]; exact List.getElem_mem _)
 rw [List.getD_eq_getElem?_getD, List.getElem?_eq_getElem hk] at h1 h2
 simp only [Option.getD_some] at h1 h2
 omega
theorem crOf_bd {s : Sw} {w : List Nat} {l : List Int} (ho : PlnOk s w l) : 0 ≤ (crOf s w l).c ∧ (crOf s w l).c ≤ 1000 := by
 show 0 ≤ sumL (planW s w l).t ∧ sumL (planW s w l).t ≤ 1000
 rw [← taken_sum ho.ok w ho.l1]
 have h3 := ho.ok.l3
 have hn := ho.n
 have h1 := sumL_bk 100 (takenD s (wantsOf s w)) fun y hy => by
  obtain ⟨k, _, rfl⟩ := List.mem_map.1 hy
  have h4 := tkN_bd (wantsOf s w) k
  have h5 := wantsOf_len s w
  omega
 have h2 := sumL_bk 8 l ho.l8
 have hl := ho.l1
 rw [takenD_len] at h1
 omega
def CrD (o : Option Cr) (L : LH) (v : Value) (L' : LH) : Prop := Le L L' ∧ match o with
 | none => v = .tuple #[.slice none 0 0, .int .i64 (-1)]
 | some c => ∃ ad cap, v = .tuple #[.slice ad c.l.length cap, .int .i64 c.c] ∧ IntsAt L' ad c.l ∧ 0 ≤ c.c
theorem rCrush_sp (s : Sw) (p : Wp) (wa : Option Addr) (wc : Nat) (w : List Nat) (L : LH) (h : SwAt L s p) (hok : SOk s) (hwl : IntsAt L wa (natI w)) (hw : WnOk s w) (n1 : w.length ≤ 100) :
  Sp X 91 [swA s p, .slice wa w.length wc] L (CrD (crushW s w) L) := by
 have hl3 := hok.l3
 have hst := hok.st
 have h729 : (listsW s.stock).length ≤ 729 := Nat.le_trans (listsW_len hok.sr) (Nat.pow_le_pow_right (by decide) (show s.stock.length ≤ 3 by omega))
 refine Sp.enter (n := 71) Tryz.func91 rfl rfl rfl rfl fun C hX _ hL0 r => ?_
 refine W.go 99 rfl ?_
 have hli := lists_sp (X := C.X) p.sc s.stock hok.sr (by omega) s.stock.length p.sa none 0 [] L (by simp) h.st SlAt.empty (Nat.le_refl _)
 rw [listsD_all] at hli
 refine W.eff rfl rfl rfl (Ef.call rfl (hli)) ?_
 rintro _ _ _ ⟨v1, rfl, rfl, ra, rc, rfl, hle, hrows⟩
 refine W.go 99 rfl ?_
 rename_i L1
 refine W.loop (fun m E B L' => ∃ (j : Nat) (v6 : Value) (v7 : Int), m = (listsW s.stock).length - j ∧ j ≤ (listsW s.stock).length ∧ Le L1 L' ∧ BstD s w (docU s w j) v6 v7 L' ∧
   E = [(1, .v (.slice wa w.length wc)), (2, .p 0 0), (6, .v v6), (7, .v (.int .i64 v7)), (8, .v (.slice ra (listsW s.stock).length rc)), (9, .v (.int .i64 j))] ∧ B = [some ⟨cellsS (.v (swA s p)), 26⟩])
  ⟨0, _, _, rfl, by omega, Le.refl _, ⟨rfl, rfl⟩, rfl, rfl⟩ (by exact ⟨rfl, rfl, rfl, rfl, rfl, rfl, trivial⟩) (by exact ⟨rfl, trivial⟩) ?_
 rintro _ _ _ L2 ⟨j, v6, v7, rfl, hj, hl12, hbd, rfl, rfl⟩ again
 have hl2 := hle.trans hl12
 refine W.go 99 rfl ?_
 refine W.split rfl rfl rfl (fun e1 => W.go 99 rfl ?_) (fun e1 => W.go 99 rfl ?_)
 ·have hjl : j < (listsW s.stock).length := by simpa using e1
  obtain ⟨l, hl⟩ : ∃ l, (listsW s.stock)[j]? = some l := ⟨_, List.getElem?_eq_getElem hjl⟩
  have hlm := List.mem_of_getElem? hl
  have ho := list_ok hok hw n1 hlm
  obtain ⟨rad, rfl⟩ := hrows.addr hjl
  obtain ⟨la, lc, hlc, hls, _⟩ := hrows.row hl
  have hpa : ∀ L', Le L2 L' → PlnAt L' s p wa w la l := fun L' hl' => ⟨h.le (hl2.trans hl'), hwl.le (hl2.trans hl'), hls.le (hl12.trans hl')⟩
  refine W.drawn (by kernel_rfl) _ (Le.refl _) ?_
  refine DD.run' [0, 1, 2, 3] rfl ?_
  refine DD.vf 4 rfl rfl rfl rfl rfl (Vf.idx1 rfl rfl rfl rfl rfl rfl rfl (hjl)) ?_
  refine DD.vf 5 rfl rfl rfl rfl rfl (Vf.load rfl rfl rfl (hl12.cell hlc)) ?_
  refine DD.act 6 rfl rfl rfl rfl rfl (Ef.call rfl ((rRight_sp s p wa la wc lc w l L2 (hpa _ (Le.refl _)) ho))) ((by rintro _ _ _ ⟨_, rfl, rfl, rfl, hl⟩; exact ⟨hl, rfl, .inl rfl⟩)) ?_
  rintro _ _ _ ⟨v2, rfl, rfl, rfl, hl3'⟩
  rename_i L3
  refine DD.run' [7] rfl ?_
  refine .fin rfl ?_
  refine W.go 99 rfl ?_
  refine W.split rfl rfl rfl (fun e2 => W.go 99 rfl ?_) (fun e2 => W.go 99 rfl ?_)
  ·have hno : okW s w l = false := by unfold okW; simpa using e2
   exact W.again (again _ _ _ _ (by omega) ⟨j + 1, v6, v7, rfl, by omega, hl12.trans hl3', by rw [docU_no hl hno]; exact hbd.le hl3', rfl, rfl⟩) (by exact ⟨rfl, rfl, rfl, rfl, rfl, congrArg some (inc64 (by omega)), trivial⟩) (by exact ⟨rfl, trivial⟩)
  have hyes : okW s w l = true := by unfold okW; simpa using e2
  have hcb := crOf_bd ho
  have hts := taken_sum hok w ho.l1
  have hcl := ho.l1
  refine W.drawn (by kernel_rfl) _ (Le.refl _) ?_
  refine DD.run' [0, 1, 4, 5] rfl ?_
  refine DD.vf 6 rfl rfl rfl rfl rfl (Vf.idx1 rfl rfl rfl rfl rfl rfl rfl (hjl)) ?_
  refine DD.vf 7 rfl rfl rfl rfl rfl (Vf.load rfl rfl rfl ((hl12.trans hl3').cell hlc)) ?_
  refine DD.act 2 rfl rfl rfl rfl rfl (Ef.call rfl ((rTaken_sp s p wa wc w L3 (hpa _ hl3').sw hok (hpa _ hl3').w hw (by omega)))) ((by rintro _ _ _ ⟨_, rfl, rfl, _, rfl, _, hl, _⟩; exact ⟨hl, rfl, .inl rfl⟩)) ?_
  rintro _ _ _ ⟨v3, rfl, rfl, b4, rfl, hb4, hl4, hI4⟩
  rename_i L4
  have htk := rTotal_sp (X := C.X) (some ⟨b4, 0, none⟩) (takenD s (wantsOf s w)).length _ L4 hI4.ints (by rw [takenD_len]; omega) fun y hy => by
   obtain ⟨k, _, rfl⟩ := List.mem_map.1 hy
   have h4 := tkN_bd (wantsOf s w) k
   have h5 := wantsOf_len s w
   omega
  refine DD.act 3 rfl rfl rfl rfl rfl (Ef.call rfl (htk)) ((by rintro _ _ _ ⟨_, rfl, rfl, rfl, rfl⟩; exact ⟨hl4, rfl, .inl rfl⟩)) ?_
  rintro _ _ _ ⟨_, rfl, rfl, rfl, rfl⟩
  have hl24 := hl3'.trans hl4
  have htl := rTotal_sp (X := C.X) la lc l L4 (hpa _ hl24).l (by omega) fun y hy => by have := ho.l8 y hy; omega
  refine DD.act 8 rfl rfl rfl rfl rfl (Ef.call rfl (htl)) ((by rintro _ _ _ ⟨_, rfl, rfl, rfl, rfl⟩; exact ⟨hl4, rfl, .inl rfl⟩)) ?_
  rintro _ _ _ ⟨_, rfl, rfl, rfl, rfl⟩
  refine DD.run' [9, 10] rfl ?_
  refine .fin rfl ?_
  rw [hts]
  change 0 ≤ sumL (planW s w l).t ∧ sumL (planW s w l).t ≤ 1000 at hcb
  rw [wrap64_in _ (by omega) (by omega)]
  refine W.weak (E' := [(1, .v (.slice wa w.length wc)), (2, .p 0 0), (6, .v v6), (7, .v (.int .i64 v7)), (8, .v (.slice (some rad) (listsW s.stock).length rc)), (9, .v (.int .i64 j)), (10, .v (.int .i64 (sumL (planW s w l).t)))]) (B' := [some ⟨cellsS (.v (swA s p)), 26⟩]) (by exact ⟨rfl, rfl, rfl, rfl, rfl, rfl, rfl, trivial⟩) (by exact ⟨rfl, trivial⟩) ?_
  have hlt4 := hl12.trans hl24
  have hbd := hbd.le hl24
  have hcv : (crOf s w l).c = sumL (planW s w l).t := rfl
  have hstep := docU_yes hl hyes
  have take : ∀ L5, Le L4 L5 → takeBy ltCr (docU s w j) (crOf s w l) = some (crOf s w l) → BstD s w (docU s w (j + 1)) (.slice la l.length lc) (sumL (planW s w l).t) L5 := fun L5 hl5 ht => by
   rw [hstep, ht]
   exact ⟨la, lc, rfl, rfl, (hpa _ (hl24.trans hl5)).l, rfl, hlm⟩
  refine W.go 99 rfl ?_
  refine W.drawn (by kernel_rfl) _ (Le.refl _) ?_
  refine DD.run' [0, 1, 2] rfl ?_
  cases hd : docU s w j with
  | none =>
   rw [hd] at hbd
   obtain ⟨rfl, rfl⟩ := hbd
   refine DD.split 40 rfl (fun _ => ?_) (fun c => absurd c (by decide))
   refine DD.run' [3, 4, 5, 6, 7, 8, 9, 10, 11, 12, 13, 14, 15, 16, 17, 18, 19, 20, 21, 22, 23, 24, 25] rfl ?_
   refine .fin rfl ?_
   refine W.go 99 rfl ?_
   refine W.vf rfl rfl rfl rfl (Vf.idx1 rfl rfl rfl rfl rfl rfl rfl (hjl)) ?_
   refine W.go 99 rfl ?_
   refine W.vf rfl rfl rfl rfl (Vf.load rfl rfl rfl (hlt4.cell hlc)) ?_
   refine W.go 99 rfl ?_
   exact W.again (again _ _ _ _ (by omega) ⟨j + 1, _, _, rfl, by omega, hlt4, take _ (Le.refl _) (by rw [hd]; rfl), rfl, rfl⟩) (by exact ⟨rfl, rfl, rfl, rfl, rfl, congrArg some (inc64 (by omega)), trivial⟩) (by exact ⟨rfl, trivial⟩)
  | some c =>
   rw [hd] at hbd
   obtain ⟨ba, bc, rfl, rfl, hbi, hbc, hbm⟩ := hbd
   have hob := list_ok hok hw n1 hbm
   have hcc := crOf_bd hob
   rw [← hbc] at hcc
   refine DD.split 40 rfl (fun e => absurd e (by simp; omega)) (fun _ => ?_)
   refine DD.run' [3, 4, 5, 6, 7] rfl ?_
   have hlc2 : ltCr (crOf s w l) c = (decide (sumL (planW s w l).t < c.c) || (decide (sumL (planW s w l).t = c.c) && decide (leftW (planW s w l) < leftW (planW s w c.l)))) := by
    have : c.p = leftW (planW s w c.l) := congrArg Cr.p hbc
    unfold ltCr
    rw [this]
    rfl
   have keep : ∀ L5, Le L4 L5 → ltCr (crOf s w l) c = false → BstD s w (docU s w (j + 1)) (.slice ba c.l.length bc) c.c L5 := fun L5 hl5 ht => by
    rw [hstep, hd]
    show BstD s w (if ltCr (crOf s w l) c then some (crOf s w l) else some c) _ _ _
    rw [if_neg (by rw [ht]; decide)]
    exact ⟨ba, bc, rfl, rfl, hbi.le hl5, hbc, hbm⟩
   have win : ltCr (crOf s w l) c = true → takeBy ltCr (docU s w j) (crOf s w l) = some (crOf s w l) := fun ht => by
    rw [hd]
    show (if ltCr (crOf s w l) c then some (crOf s w l) else some c) = _
    rw [if_pos ht]
   refine DD.split 45 rfl (fun e3 => ?_) (fun e3 => ?_)
   ·refine DD.run' [8, 9, 10, 11, 12, 13, 14, 15, 16, 17, 18, 19, 20, 21, 22, 23, 24, 25] rfl ?_
    refine .fin rfl ?_
    refine W.go 99 rfl ?_
    refine W.vf rfl rfl rfl rfl (Vf.idx1 rfl rfl rfl rfl rfl rfl rfl (hjl)) ?_
    refine W.go 99 rfl ?_
    refine W.vf rfl rfl rfl rfl (Vf.load rfl rfl rfl (hlt4.cell hlc)) ?_
    refine W.go 99 rfl ?_
    exact W.again (again _ _ _ _ (by omega) ⟨j + 1, _, _, rfl, by omega, hlt4, take _ (Le.refl _) (win (by rw [hlc2, e3]; rfl)), rfl, rfl⟩) (by exact ⟨rfl, rfl, rfl, rfl, rfl, congrArg some (inc64 (by omega)), trivial⟩) (by exact ⟨rfl, trivial⟩)
   refine DD.run' [8, 9, 10, 11] rfl ?_
   refine DD.split 49 rfl (fun e4 => ?_) (fun e4 => ?_)
   ·refine DD.run' [12, 13, 14, 15, 19, 20, 21] rfl ?_
    refine DD.vf 16 rfl rfl rfl rfl rfl (Vf.idx1 rfl rfl rfl rfl rfl rfl rfl (hjl)) ?_
    refine DD.vf 17 rfl rfl rfl rfl rfl (Vf.load rfl rfl rfl (hlt4.cell hlc)) ?_
    refine DD.act 18 rfl rfl rfl rfl rfl (Ef.call rfl ((rOver_sp s p wa la wc lc w l L4 (hpa _ hl24) ho))) ((by rintro _ _ _ ⟨_, rfl, rfl, rfl, hl⟩; exact ⟨hl, rfl, .inl rfl⟩)) ?_
    rintro _ _ _ ⟨v5, rfl, rfl, rfl, hl5⟩
    rename_i L5
    refine DD.act 22 rfl rfl rfl rfl rfl (Ef.call rfl ((rOver_sp s p wa ba wc bc w c.l L5 ⟨(hpa _ (hl24.trans hl5)).sw, (hpa _ (hl24.trans hl5)).w, hbi.le hl5⟩ hob))) ((by rintro _ _ _ ⟨_, rfl, rfl, rfl, hl⟩; exact ⟨hl5.trans hl, rfl, .inl rfl⟩)) ?_
    rintro _ _ _ ⟨v6, rfl, rfl, rfl, hl6⟩
    rename_i L6
    have hl46 := hl5.trans hl6
    refine DD.run' [23, 24, 25] rfl ?_
    refine .fin rfl ?_
    refine W.go 99 rfl ?_
    have e4' : sumL (planW s w l).t = c.c := by simpa using e4
    refine W.split rfl rfl rfl (fun e5 => W.go 99 rfl ?_) (fun e5 => W.go 99 rfl ?_)
    ·refine W.vf rfl rfl rfl rfl (Vf.idx1 rfl rfl rfl rfl rfl rfl rfl (hjl)) ?_
     refine W.go 99 rfl ?_
     refine W.vf rfl rfl rfl rfl (Vf.load rfl rfl rfl ((hlt4.trans hl46).cell hlc)) ?_
     refine W.go 99 rfl ?_
     exact W.again (again _ _ _ _ (by omega) ⟨j + 1, _, _, rfl, by omega, hlt4.trans hl46, take _ hl46 (win (by rw [hlc2, e3, e5, decide_eq_true e4']; rfl)), rfl, rfl⟩) (by exact ⟨rfl, rfl, rfl, rfl, rfl, congrArg some (inc64 (by omega)), trivial⟩) (by exact ⟨rfl, trivial⟩)
    ·exact W.again (again _ _ _ _ (by omega) ⟨j + 1, _, _, rfl, by omega, hlt4.trans hl46, keep _ hl46 (by rw [hlc2, e3, e5, Bool.and_false]; rfl), rfl, rfl⟩) (by exact ⟨rfl, rfl, rfl, rfl, rfl, congrArg some (inc64 (by omega)), trivial⟩) (by exact ⟨rfl, trivial⟩)
   ·have e4' : ¬ sumL (planW s w l).t = c.c := by simpa using e4
    refine DD.run' [12, 13, 14, 15, 16, 17, 18, 19, 20, 21, 22, 23, 24, 25] rfl ?_
    refine .fin rfl ?_
    refine W.go 99 rfl ?_
    exact W.again (again _ _ _ _ (by omega) ⟨j + 1, _, _, rfl, by omega, hlt4, keep _ (Le.refl _) (by rw [hlc2, e3, decide_eq_false e4']; rfl), rfl, rfl⟩) (by exact ⟨rfl, rfl, rfl, rfl, rfl, congrArg some (inc64 (by omega)), trivial⟩) (by exact ⟨rfl, trivial⟩)
 ·have hje : j = (listsW s.stock).length := by simp at e1; omega
  subst hje
  rw [docU_all hok] at hbd
  refine W.ret r rfl rfl ?_
  refine ⟨hl2, ?_⟩
  cases hc : crushW s w with
  | none => rw [hc] at hbd; obtain ⟨rfl, rfl⟩ := hbd; rfl
  | some c =>
   rw [hc] at hbd
   obtain ⟨ba, bc, rfl, rfl, hbi, hbc, hbm⟩ := hbd
   have hcc := crOf_bd (list_ok hok hw n1 hbm)
   rw [← hbc] at hcc
   exact ⟨ba, bc, rfl, hbi, hcc.1⟩
end Go.Mz


set_option maxRecDepth 100000
namespace Go.Mz
open Go.Conc Go.Proofs
variable {X : Logic Tryz.prog}
theorem rEvery_sp (s : Sw) (p : Wp) (L : LH) (hn : s.wants.length ≤ 1000) : Sp X 94 [swA s p] L (fun v L' => Grow L 1 3 encI L' v (natI (fullW s))) := by
 refine Sp.enter (n := 17) Tryz.func94 rfl rfl rfl rfl fun C hX _ hL0 r => ?_
 refine W.go 99 rfl ?_
 refine W.loop (fun m E B L' => ∃ (i : Nat) (v : Value), m = s.wants.length - i ∧ i ≤ s.wants.length ∧ Grow L 1 3 encI L' v (natI (List.range i)) ∧
   E = [(1, .p 0 0), (3, .v v), (4, .v (.int .i64 i))] ∧ B = [some ⟨cellsS (.v (swA s p)), 26⟩])
  ⟨0, _, rfl, by omega, Grow.nil (Le.refl _), rfl, rfl⟩ (by exact ⟨rfl, rfl, rfl, trivial⟩) (by exact ⟨rfl, trivial⟩) ?_
 rintro _ _ _ L1 ⟨i, v, rfl, hi, hg, rfl, rfl⟩ again
 refine W.go 99 rfl ?_
 refine W.split rfl rfl rfl (fun e1 => W.go 99 rfl ?_) (fun e1 => W.go 99 rfl ?_)
 ·have hil : i < s.wants.length := by simpa using e1
  refine W.eff rfl rfl rfl (Ef.grow rfl rfl rfl rfl rfl rfl rfl rfl rfl encI_len encI_sg hg (ls := [(i : Int)]) (.own rfl rfl rfl rfl) (by simp [natI]; omega)) ?_
  rintro _ _ _ ⟨v', rfl, rfl, hg', _⟩
  refine W.go 99 rfl ?_
  exact W.again (again _ _ _ _ (by omega) ⟨i + 1, v', rfl, by omega, by rw [List.range_succ, natI_snoc]; exact hg', rfl, rfl⟩) (by exact ⟨rfl, rfl, congrArg some (inc64 (by omega)), trivial⟩) (by exact ⟨rfl, trivial⟩)
 ·have hie : i = s.wants.length := by simp at e1; omega
  subst hie
  refine W.ret r rfl rfl ?_
  exact hg
end Go.Mz


set_option maxRecDepth 100000
namespace Go.Mz
open Go.Conc Go.Proofs
variable {X : Logic Tryz.prog}
end Go.Mz


set_option maxRecDepth 100000
namespace Go.Mz
open Go.Conc Go.Proofs
variable {X : Logic Tryz.prog}
end Go.Mz


set_option maxRecDepth 100000
namespace Go.Mz
open Go.Conc Go.Proofs
variable {X : Logic Tryz.prog}
theorem snoc_ind {α : Type} {P : List α → Prop} (h0 : P []) (h1 : ∀ l x, P l → P (l ++ [x])) (l : List α) : P l := by
 generalize hn : l.length = n
 induction n generalizing l with
 | zero => rw [List.length_eq_zero_iff] at hn; subst hn; exact h0
 | succ n ih =>
  have hne : l ≠ [] := fun e => by subst e; simp at hn
  rw [← List.dropLast_concat_getLast hne]
  exact h1 _ _ (ih _ (by simp; omega))
theorem firstBy_min {α : Type} {lt : α → α → Bool} (ht : ∀ a b c, lt a b = true → lt b c = true → lt a c = true) (hi : ∀ a, lt a a = false) : ∀ (l : List α) (x : α), firstBy lt l = some x → x ∈ l ∧ ∀ y ∈ l, lt y x = false := by
 intro l
 induction l using snoc_ind with
 | h0 => intro x h; cases h
 | h1 l z ih =>
  intro x h
  rw [firstBy_snoc] at h
  cases ho : firstBy lt l with
  | none =>
   rw [ho] at h
   cases h
   have hl : l = [] := by
    cases l with
    | nil => rfl
    | cons y l =>
     exfalso
     have : ∀ (l : List α) (y : α), ∃ w, l.foldl (takeBy lt) (some y) = some w := fun l => by
      induction l with
      | nil => intro y; exact ⟨y, rfl⟩
      | cons u l ih =>
       intro y
       rw [List.foldl_cons]
       show ∃ w, l.foldl _ (if lt u y then some u else some y) = some w
       split
       ·exact ih u
       ·exact ih y
     obtain ⟨w, hw⟩ := this l y
     unfold firstBy at ho
     rw [List.foldl_cons] at ho
     exact absurd (hw.symm.trans ho) (by simp)
   subst hl
   exact ⟨by simp, fun y hy => by simp at hy; rw [hy]; exact hi _⟩
  | some b =>
   rw [ho] at h
   obtain ⟨h1, h2⟩ := ih b ho
   change (if lt z b then some z else some b) = some x at h
   by_cases e : lt z b = true
   ·rw [if_pos e] at h
    cases h
    refine ⟨by simp, fun y hy => ?_⟩
    rcases List.mem_append.1 hy with hy | hy
    ·have h3 := h2 y hy
     cases h4 : lt y z with
     | false => rfl
     | true => rw [ht _ _ _ h4 e] at h3; cases h3
    ·rw [List.mem_singleton.1 hy]; exact hi _
   ·rw [if_neg e] at h
    cases h
    refine ⟨by simp [h1], fun y hy => ?_⟩
    rcases List.mem_append.1 hy with hy | hy
    ·exact h2 y hy
    ·rw [List.mem_singleton.1 hy]; simpa using e
theorem firstBy_some {α : Type} {lt : α → α → Bool} {l : List α} (h : l ≠ []) : ∃ x, firstBy lt l = some x := by
 cases hb : firstBy lt l with
 | some x => exact ⟨x, rfl⟩
 | none =>
  exfalso
  have : ∀ (l : List α) (o : Option α), l.foldl (takeBy lt) o = none → l = [] ∧ o = none := fun l => by
   induction l with
   | nil => intro o h; exact ⟨rfl, h⟩
   | cons x l ih =>
    intro o h
    rw [List.foldl_cons] at h
    have := (ih _ h).2
    cases o with
    | none => cases this
    | some y =>
     change (if lt x y then some x else some y) = none at this
     split at this <;> cases this
  exact h (this _ _ hb).1
end Go.Mz


namespace Go.Mz
open Go
theorem ltCr_trans (a b c : Cr) (h1 : ltCr a b = true) (h2 : ltCr b c = true) : ltCr a c = true := by
 unfold ltCr at *
 simp at *
 omega
theorem ltCr_irr (a : Cr) : ltCr a a = false := by unfold ltCr; simp
theorem crush_min {s : Sw} {w : List Nat} {c : Cr} (h : crushW s w = some c) : (∃ l ∈ plansW s w, c = crOf s w l) ∧ ∀ l ∈ plansW s w, ltCr (crOf s w l) c = false := by
 obtain ⟨h1, h2⟩ := firstBy_min ltCr_trans ltCr_irr _ _ h
 obtain ⟨l, hl, he⟩ := List.mem_map.1 h1
 exact ⟨⟨l, hl, he.symm⟩, fun l hl => h2 _ (List.mem_map.2 ⟨l, hl, rfl⟩)⟩
theorem crush_le {s : Sw} {w : List Nat} {l : List Int} (hl : l ∈ plansW s w) : ∃ c, crushW s w = some c ∧ c.c ≤ sumL (planW s w l).t := by
 obtain ⟨c, hc⟩ := firstBy_some (lt := ltCr) (l := (plansW s w).map (crOf s w)) (fun h => by
  have h1 := List.mem_map.2 ⟨l, hl, (rfl : crOf s w l = crOf s w l)⟩
  rw [h] at h1; cases h1)
 have hc' : crushW s w = some c := hc
 refine ⟨c, hc', ?_⟩
 have h2 := (crush_min hc').2 l hl
 unfold ltCr at h2
 rw [Bool.or_eq_false_iff, decide_eq_false_iff_not] at h2
 have h3 := h2.1
 have h4 : (crOf s w l).c = sumL (planW s w l).t := rfl
 omega
theorem crush_no {s : Sw} {w : List Nat} : crushW s w = none ↔ plansW s w = [] := by
 constructor
 ·intro h
  cases hp : plansW s w with
  | nil => rfl
  | cons l t =>
   obtain ⟨c, hc, _⟩ := crush_le (s := s) (w := w) (l := l) (by rw [hp]; exact List.mem_cons_self)
   rw [hc] at h; cases h
 ·intro h; unfold crushW; rw [h]; rfl
end Go.Mz


namespace Go.Mz
open Go
end Go.Mz


namespace Go.Mz
open Go
theorem servedW_iff {s : Sw} : servedW s = true ↔ ∃ c, crushW s (fullW s) = some c := by
 unfold servedW
 cases e : crushW s (fullW s) with
 | none => rw [crush_no.1 e]; simp
 | some c =>
  refine ⟨fun _ => ⟨c, rfl⟩, fun _ => ?_⟩
  cases h : plansW s (fullW s) with
  | nil => rw [crush_no.2 h] at e; cases e
  | cons => rfl
theorem moreK_get (s : Sw) (k n j : Nat) : (moreK s k n).stock.getD j 0 = s.stock.getD j 0 + if j = k ∧ k < s.stock.length then (n : Int) else 0 := by
 show (s.stock.modify k (· + (n : Int))).getD j 0 = _
 rw [List.getD_eq_getElem?_getD, List.getElem?_modify, List.getD_eq_getElem?_getD]
 by_cases e : k = j
 ·subst e
  by_cases hb : k < s.stock.length
  ·rw [List.getElem?_eq_getElem hb]; simp [hb]
  ·rw [List.getElem?_eq_none (by omega)]; simp [hb]
 ·rw [if_neg (fun h => e h.1.symm)]; simp [e]
theorem SOk.more {s : Sw} (h : SOk s) (h4 : ∀ x ∈ s.stock, 0 ≤ x ∧ x ≤ 4) (k : Nat) {n : Nat} (hn : n ≤ 4) : SOk (moreK s k n) :=
 ⟨h.l1, h.l3, h.lf, (by show (s.stock.modify k _).length = _; rw [List.length_modify]; exact h.st), fun x hx => by
  obtain ⟨j, hj, rfl⟩ := List.getElem_of_mem hx
  have e := moreK_get s k n j
  rw [List.getD_eq_getElem?_getD, List.getElem?_eq_getElem hj, Option.getD_some] at e
  have hj' : j < s.stock.length := by have : j < (s.stock.modify k (· + (n : Int))).length := hj; rwa [List.length_modify] at this
  rw [e, List.getD_eq_getElem?_getD, List.getElem?_eq_getElem hj', Option.getD_some]
  have := h4 _ (List.getElem_mem hj')
  split <;> omega, h.k0, h.k3, h.w5, h.wt⟩
end Go.Mz


namespace Go.Mz
open Go
section
variable {s s' : Sw} {f g : Nat → Nat}
variable {xs : List Want} (hxs : ∀ x ∈ xs, WtOk s.loaves x)
include hxs
end
end Go.Mz


namespace Go.Mz
open Go
end Go.Mz


namespace Go.Mz
open Go
theorem sawE_s4 {s : Sw} (h : sawE s = 0) : ∀ x ∈ s.stock, 0 ≤ x ∧ x ≤ 4 := by
 unfold sawE at h
 split at h
 ·rename_i h1; exact absurd h h1
 ·split at h
  ·rename_i h2; exact absurd h h2
  ·split at h
   ·cases h
   ·split at h
    ·cases h
    ·rename_i h4
     simp only [Bool.not_eq_true', Bool.not_eq_false, stockB_iff] at h4
     exact h4
end Go.Mz


set_option maxRecDepth 100000
namespace Go.Mz
open Go.Conc Go.Proofs
variable {X : Logic Tryz.prog}
theorem CloneG_sp (ad : Option Addr) (c : Nat) (l : List Int) (L : LH) (h : SlAt L ad 1 encI l) (hn : l.length ≤ 1000000) : Sp X 113 [.slice ad l.length c] L (fun v L' => Grow L 1 3 encI L' v l) := by
 refine Sp.enter (n := 8) Tryz.func113 rfl rfl rfl rfl fun C hX _ hL0 r => ?_
 refine W.go 99 rfl ?_
 refine W.split rfl rfl rfl (fun d1 => W.go 99 rfl ?_) (fun d1 => W.go 99 rfl ?_)
 ·have e : ad = none := by cases ad with | none => rfl | some a => simp at d1
  subst e
  obtain rfl := h.nil
  refine W.ret r rfl rfl ?_
  exact Grow.nil (Le.refl _)
 refine W.pub 5 (.inr ⟨_, _, _, rfl⟩) rfl rfl ?_
 intro b hb _
 refine W.eff rfl rfl rfl (Ef.grow rfl rfl rfl rfl rfl rfl rfl rfl rfl encI_len encI_sg (Grow.new (Le.put hb _) (put_same _ _ _) hb) (ls := l) (.sl (h.le (Le.put hb _)) encI_len rfl) (by simp; omega)) ?_
 rintro _ _ _ ⟨v', rfl, rfl, hg', _⟩
 refine W.go 99 rfl ?_
 refine W.ret r rfl rfl ?_
 exact hg'
theorem moreK_step {s : Sw} {k n : Nat} (hk : k < s.stock.length) : (moreK s k n).stock.set k (s.stock.getD k 0 + ((n + 1 : Nat) : Int)) = (moreK s k (n + 1)).stock := by
 show (s.stock.modify k (· + (n : Int))).set k _ = s.stock.modify k (· + ((n + 1 : Nat) : Int))
 apply List.ext_getElem?
 intro j
 rw [List.getElem?_set, List.getElem?_modify, List.length_modify]
 by_cases e : k = j
 ·subst e
  rw [if_pos rfl, if_pos hk, List.getD_eq_getElem?_getD, List.getElem?_eq_getElem hk]
  simp [List.getElem?_eq_getElem hk]
 ·rw [if_neg e, List.getElem?_modify]; simp [e]
theorem more0 (s : Sw) (k : Nat) : (moreK s k 0).stock = s.stock := by
 show s.stock.modify k (· + (0 : Int)) = s.stock
 apply List.ext_getElem?
 intro j
 rw [List.getElem?_modify]
 cases s.stock[j]? <;> simp
theorem more_len (s : Sw) (k n : Nat) : (moreK s k n).stock.length = s.stock.length := by
 show (s.stock.modify k _).length = _
 rw [List.length_modify]
theorem need_some {s : Sw} {k n : Nat} (h5 : n < 5) (hn : servedW (moreK s k n) = true) (hno : ∀ m, m < n → servedW (moreK s k m) = false) : needW s k = some n := find_range h5 hn hno
theorem need_none {s : Sw} {k : Nat} (hno : ∀ m, m < 5 → servedW (moreK s k m) = false) : needW s k = none := find_range_none hno
theorem Need_sp (s : Sw) (p : Wp) (k : Int) (L : LH) (h : SwAt L s p) (hn : Sm s) : Sp X 53 [swA s p, .int .i64 k] L (fun v L' => v = .tuple #[.int .i64 (NeedE s k).1, .int .i64 (NeedE s k).2] ∧ Le L L') := by
 refine Sp.enter (n := 37) Tryz.func53 rfl rfl rfl rfl fun C hX _ hL0 r => ?_
 refine W.go 99 rfl ?_
 refine W.pub 12 (.inr ⟨_, _, _, rfl⟩) rfl rfl ?_
 intro b12 hb12 _
 have f1 := Le.put hb12 (.cells #[.int .i64 k] 3)
 have g1 := put_same L b12 (.cells #[.int .i64 k] 3)
 change W _ _ _ _ _ _ (L.put b12 (.cells #[.int .i64 k] 3))
 generalize L.put b12 (.cells #[.int .i64 k] 3) = L1 at f1 g1 ⊢
 refine W.eff rfl rfl rfl (Ef.call rfl (open_sp s p (some ⟨b12, 0, none⟩) none 1 0 [k] [] L1 (h.le f1) hn (ints1 g1) SlAt.empty (by simp) (by simp))) ?_
 rintro _ _ _ ⟨v0, rfl, rfl, hle, hq⟩
 refine W.go 99 rfl ?_
 rename_i L2
 have hl2 := f1.trans hle
 rcases hq with ⟨he, rfl⟩ | ⟨he, rfl⟩
 ·refine W.go 99 rfl ?_
  refine W.split rfl rfl rfl (fun e1 => W.go 99 rfl ?_) (fun e1 => W.go 99 rfl ?_)
  ·refine W.ret r rfl rfl ?_
   have : NeedE s k = (0, openW s [k] []) := by unfold NeedE; rw [if_pos he]
   rw [this]
   exact ⟨rfl, hl2⟩
  ·simp at e1; exact absurd e1 he
 have hSE : NeedE s k = match needW s k.toNat with | some n => ((n : Int), 0) | none => (0, 11) := by unfold NeedE; rw [if_neg (by simp [he])]; rfl
 rw [hSE] at r
 obtain ⟨h0, hk, _⟩ := openW_0 he
 have hok := sawE_0 h0
 have hk := hk k (by simp)
 have hst := hok.st
 have hl3 := hok.l3
 have h4 := sawE_s4 h0
 obtain ⟨i, rfl⟩ : ∃ i : Nat, k = (i : Int) := ⟨k.toNat, by omega⟩
 have hi : i < s.stock.length := by omega
 rw [Int.toNat_natCast] at r
 refine W.go 99 rfl ?_
 refine W.split rfl rfl rfl (fun e1 => ?_) (fun e1 => ?_)
 ·simp at e1
 refine W.weak (E' := [(1, .v (.int .i64 i)), (2, .p 0 0), (17, .lit false)]) (B' := [some ⟨cellsS (.v (swA s p)), 26⟩]) (by exact ⟨rfl, rfl, rfl, trivial⟩) (by exact ⟨rfl, trivial⟩) ?_
 refine W.go 99 rfl ?_
 refine W.eff rfl rfl rfl (Ef.call rfl (CloneG_sp p.sa p.sc s.stock L2 (h.st.le hl2) (by omega))) ?_
 rintro _ _ _ ⟨v2, rfl, rfl, hg⟩
 rename_i L3 _
 obtain ⟨sa, sc, rfl, hsc⟩ := hg.slice
 refine W.go 99 rfl ?_
 refine W.loop (fun w E B L' => ∃ n : Nat, w = 5 - n ∧ n ≤ 5 ∧ Grow L2 1 3 encI L' (.slice sa s.stock.length sc) (moreK s i n).stock ∧ (∀ m, m < n → servedW (moreK s i m) = false) ∧
   E = [(1, .v (.int .i64 i)), (2, .p 0 0), (23, .v (.int .i64 n))] ∧ B = [some ⟨[.v (.slice p.la s.loaves.length p.lc), .v (.slice sa s.stock.length sc), .v (.int .i64 s.kerf), .v (.slice p.wa s.wants.length p.wc)], 26⟩])
  ⟨0, rfl, by omega, by rw [more0]; exact hg, (fun m hm => by omega), rfl, rfl⟩ (by exact ⟨rfl, rfl, rfl, trivial⟩) (by exact ⟨rfl, trivial⟩) ?_
 clear hg
 rintro _ _ _ L4 ⟨n, rfl, hn5, hg, hno, rfl, rfl⟩ again
 refine W.go 99 rfl ?_
 refine W.split rfl rfl rfl (fun e2 => W.go 99 rfl ?_) (fun e2 => W.go 99 rfl ?_)
 ·have hn5 : n < 5 := by have : (n : Int) < 5 := (by simpa using e2); omega
  have hsl := (hg.at encI_len).2
  have hsw : SwAt L4 (moreK s i n) ⟨p.la, sa, p.wa, p.lc, sc, p.wc⟩ := ⟨h.lo.le (hl2.trans hg.1), hsl, h.wt.le (hl2.trans hg.1), h.cap⟩
  have hsp := served_sp (X := C.X) (moreK s i n) ⟨p.la, sa, p.wa, p.lc, sc, p.wc⟩ L4 hsw (hok.more h4 i (by omega))
  rw [show swA (moreK s i n) ⟨p.la, sa, p.wa, p.lc, sc, p.wc⟩ = .agg #[.slice p.la s.loaves.length p.lc, .slice sa s.stock.length sc, .int .i64 s.kerf, .slice p.wa s.wants.length p.wc] by show Value.agg #[_, .slice sa (moreK s i n).stock.length sc, _, _] = _; rw [more_len]; rfl] at hsp
  refine W.eff rfl rfl rfl (Ef.call rfl (hsp)) ?_
  rintro _ _ _ ⟨v5, rfl, rfl, rfl, hl5⟩
  rename_i L5
  refine W.go 99 rfl ?_
  cases es : servedW (moreK s i n) with
  | true =>
   refine W.split rfl rfl rfl (fun c => ?_) (fun c => absurd c (by decide))
   refine W.go 99 rfl ?_
   refine W.ret r rfl rfl ?_
   rw [need_some hn5 es hno]
   exact ⟨rfl, hl2.trans (hg.1.trans hl5)⟩
  | false =>
   refine W.split rfl rfl rfl (fun c => absurd c (by decide)) (fun c => ?_)
   have hg5 := hg.le hl5
   have hin : i < (moreK s i n).stock.length := by rw [more_len]; exact hi
   have hget : (moreK s i n).stock[i]? = some (s.stock.getD i 0 + (n : Int)) := by
    rw [getD_some hin, moreK_get, if_pos ⟨rfl, hi⟩]
   have hb4 : 0 ≤ s.stock.getD i 0 ∧ s.stock.getD i 0 ≤ 4 := by
    have := h4 _ (List.getElem_mem hi)
    rw [List.getD_eq_getElem?_getD, List.getElem?_eq_getElem hi]
    exact this
   obtain ⟨b, cap, c, hv, _, hbc, hsz, hg6⟩ := hg5.setN encI_len hin (s.stock.getD i 0 + ((n + 1 : Nat) : Int))
   rw [moreK_step hi] at hg6
   rw [more_len] at hv
   cases hv
   have hown := (hg5.at encI_len).2
   refine W.go 99 rfl ?_
   refine W.vf rfl rfl rfl rfl (Vf.idx1 rfl rfl rfl rfl rfl rfl rfl (hi)) ?_
   refine W.go 99 rfl ?_
   refine W.vf rfl rfl rfl rfl (Vf.load rfl rfl rfl (hown.int hget)) ?_
   refine W.go 99 rfl ?_
   refine W.vf rfl rfl rfl rfl (Vf.idx1 rfl rfl rfl rfl rfl rfl rfl (hi)) ?_
   rw [wrap64_in _ (by omega) (by omega)]
   refine W.eff0 rfl rfl (Ef.stoF (b := b) (off := i * 1) (congrArg (fun a => some (SV.v (.pointer (some a)))) (show Addr.add ⟨b, 0, none⟩ i = ⟨b, i * 1, none⟩ by rw [add_of]; simp)) ⟨_, rfl, rfl⟩ rfl hbc rfl hsz (singles rfl)) ?_
   rintro _ _ _ ⟨rfl, rfl, rfl⟩
   refine W.go 99 rfl ?_
   refine W.again (again _ _ _ _ (by omega) ⟨n + 1, rfl, by omega, ?_, (fun m hm => ?_), rfl, rfl⟩) (by exact ⟨rfl, rfl, congrArg some (inc64 (by omega)), trivial⟩) (by exact ⟨rfl, trivial⟩)
   ·rw [show s.stock.getD i 0 + (n : Int) + 1 = s.stock.getD i 0 + ((n + 1 : Nat) : Int) by omega]
    exact hg6
   ·rcases Nat.lt_or_ge m n with h | h
    ·exact hno m h
    ·rw [show m = n by omega]; exact es
 ·have hn5 : n = 5 := by simp at e2; omega
  subst hn5
  refine W.ret r rfl rfl ?_
  rw [need_none hno]
  exact ⟨rfl, hl2.trans hg.1⟩
end Go.Mz


set_option maxRecDepth 100000
namespace Go.Mz
open Go.Conc Go.Proofs
variable {X : Logic Tryz.prog}
theorem full_wn (s : Sw) : WnOk s (fullW s) := fun i hi => by unfold fullW at hi; exact List.mem_range.1 hi
theorem full_len (s : Sw) : (fullW s).length = s.wants.length := by unfold fullW; rw [List.length_range]
theorem rAll_sp (s : Sw) (p : Wp) (L : LH) (h : SwAt L s p) (hok : SOk s) : Sp X 118 [swA s p] L (fun v L' => v = .bool (servedW s) ∧ Le L L') := by
 have hw5 := hok.w5
 refine Sp.enter (n := 14) Tryz.func118 rfl rfl rfl rfl fun C hX _ hL0 r => ?_
 refine W.go 99 rfl ?_
 refine W.drawn (by kernel_rfl) L (Le.refl _) ?_
 refine DD.run' [0, 1] rfl ?_
 refine DD.act 2 rfl rfl rfl rfl rfl (Ef.call rfl (rEvery_sp s p L (by omega))) ((by rintro _ _ _ ⟨_, rfl, rfl, hg⟩; exact ⟨hg.1, rfl, .inl rfl⟩)) ?_
 rintro _ _ _ ⟨v1, rfl, rfl, hg⟩
 rename_i L1
 obtain ⟨wa, wc, rfl, _⟩ := hg.slice
 have hcr := rCrush_sp (X := C.X) s p wa wc (fullW s) L1 (h.le hg.1) hok (hg.at encI_len).2 (full_wn s) (by rw [full_len]; omega)
 rw [natI_len]
 cases hc : crushW s (fullW s) with
 | none =>
  rw [hc] at hcr
  have hs : servedW s = false := by
   cases e : servedW s with
   | false => rfl
   | true => obtain ⟨c, h⟩ := servedW_iff.1 e; rw [hc] at h; cases h
  refine DD.act 3 rfl rfl rfl rfl rfl (Ef.call rfl (hcr)) ((by rintro _ _ _ ⟨_, rfl, rfl, hl, _⟩; exact ⟨hg.1.trans hl, rfl, .inl rfl⟩)) ?_
  rintro _ _ _ ⟨v3, rfl, rfl, hl34, rfl⟩
  refine DD.run' [4, 5, 6, 7, 8] rfl ?_
  refine .fin rfl ?_
  refine W.go 99 rfl ?_
  refine W.ret r rfl rfl ?_
  exact ⟨by rw [hs]; rfl, hg.1.trans hl34⟩
 | some c =>
  rw [hc] at hcr
  have hs : servedW s = true := servedW_iff.2 ⟨c, hc⟩
  refine DD.act 3 rfl rfl rfl rfl rfl (Ef.call rfl (hcr)) ((by rintro _ _ _ ⟨_, rfl, rfl, hl, _⟩; exact ⟨hg.1.trans hl, rfl, .inl rfl⟩)) ?_
  rintro _ _ _ ⟨v3, rfl, rfl, hl34, ca, cc, rfl, _, hc0⟩
  refine DD.run' [4, 5, 6, 7, 8] rfl ?_
  refine .fin rfl ?_
  refine W.go 99 rfl ?_
  refine W.ret r rfl rfl ?_
  refine ⟨?_, hg.1.trans hl34⟩
  rw [hs]
  show Value.bool (decide (0 ≤ c.c)) = _
  rw [decide_eq_true hc0]
theorem more_set {s : Sw} {k n : Nat} (hk : k < s.stock.length) : s.stock.set k (s.stock.getD k 0 + (n : Int)) = (moreK s k n).stock := by
 show _ = s.stock.modify k (· + (n : Int))
 apply List.ext_getElem?
 intro j
 rw [List.getElem?_set, List.getElem?_modify]
 by_cases e : k = j
 ·subst e
  rw [if_pos rfl, if_pos hk, List.getD_eq_getElem?_getD, List.getElem?_eq_getElem hk]
  simp
 ·rw [if_neg e]; simp [e]
theorem rMore_sp (s : Sw) (p : Wp) (k n : Nat) (L : LH) (h : SwAt L s p) (hok : SOk s) (hk : k < s.stock.length) (hn : n ≤ 10) :
  Sp X 54 [swA s p, .int .i64 k, .int .i64 n] L (fun v L' => ∃ p', v = swA (moreK s k n) p' ∧ Le L L' ∧ SwAt L' (moreK s k n) p') := by
 have hst := hok.st
 have hl3 := hok.l3
 refine Sp.enter (n := 24) Tryz.func54 rfl rfl rfl rfl fun C hX _ hL0 r => ?_
 refine W.go 99 rfl ?_
 refine W.pub 7 (.inr ⟨_, _, _, rfl⟩) rfl rfl ?_
 intro b hb _
 refine W.eff rfl rfl rfl (Ef.grow rfl rfl rfl rfl rfl rfl rfl rfl rfl encI_len encI_sg (Grow.new (Le.put hb _) (put_same _ _ _) hb) (ls := s.stock) (.sl (h.st.le (Le.put hb _)) encI_len rfl) (by simp; omega)) ?_
 rintro _ _ _ ⟨v1, rfl, rfl, hg, _⟩
 rename_i L1 _
 rw [List.nil_append] at hg
 obtain ⟨sa, sc, rfl, hsc⟩ := hg.slice
 refine W.go 99 rfl ?_
 have hx : s.stock[k]? = some (s.stock.getD k 0) := getD_some hk
 have hb8 : 0 ≤ s.stock.getD k 0 ∧ s.stock.getD k 0 ≤ 8 := by
  rw [List.getD_eq_getElem?_getD, List.getElem?_eq_getElem hk]
  exact hok.sr _ (List.getElem_mem hk)
 obtain ⟨q, cap, c, hv, _, hq, hqs, hset⟩ := hg.setN encI_len hk (s.stock.getD k 0 + (n : Int))
 cases hv
 have hown := (hg.at encI_len).2
 refine W.drawn (by kernel_rfl) L hg.1 ?_
 refine DD.run' [0, 1, 2, 3, 4, 5, 8] rfl ?_
 refine DD.vf 6 rfl rfl rfl rfl rfl (Vf.idx1 rfl rfl rfl rfl rfl rfl rfl (hk)) ?_
 refine DD.act 7 rfl rfl rfl rfl rfl (Ef.val rfl (Vf.load rfl rfl rfl (hown.int hx))) (by rintro _ _ _ ⟨rfl, rfl, rfl⟩; exact ⟨hg.1, rfl, .inl rfl⟩) ?_
 rintro _ _ _ ⟨rfl, rfl, rfl⟩
 refine DD.run' [9] rfl ?_
 rw [wrap64_in _ (by omega) (by omega)]
 refine DD.vf 10 rfl rfl rfl rfl rfl (Vf.idx1 rfl rfl rfl rfl rfl rfl rfl (hk)) ?_
 refine DD.act 11 rfl rfl rfl rfl rfl (Ef.stoF (b := q) (off := k * 1) (congrArg (fun a => some (SV.v (.pointer (some a)))) (show Addr.add ⟨q, 0, none⟩ k = ⟨q, k * 1, none⟩ by rw [add_of]; simp)) ⟨_, rfl, rfl⟩ rfl hq rfl hqs (singles rfl)) (by rintro _ _ _ ⟨rfl, rfl, rfl⟩; exact ⟨hset.1, rfl, .inl rfl⟩) ?_
 rintro _ _ _ ⟨rfl, rfl, rfl⟩
 refine .fin rfl ?_
 refine W.go 99 rfl ?_
 refine W.ret r rfl rfl ?_
 have hms := more_set (n := n) hk
 rw [hms] at hset
 refine ⟨⟨p.la, some ⟨q, 0, none⟩, p.wa, p.lc, sc, p.wc⟩, ?_, hset.1, ⟨h.lo.le hset.1, ?_, h.wt.le hset.1, h.cap⟩⟩
 ·show _ = Value.agg #[.slice p.la s.loaves.length p.lc, .slice (some ⟨q, 0, none⟩) (moreK s k n).stock.length sc, .int .i64 s.kerf, .slice p.wa s.wants.length p.wc]
  rw [more_len]; rfl
 ·exact (hset.at encI_len).2
theorem rNeed_sp (s : Sw) (p : Wp) (k : Int) (L : LH) (h : SwAt L s p) (hn : Sm s) : Sp X 66 [swA s p, .int .i64 k] L (fun v L' => v = .tuple #[.int .i64 (NeedE s k).1, .int .i64 (NeedE s k).2] ∧ Le L L') := by
 refine Sp.enter (n := 27) Tryz.func66 rfl rfl rfl rfl fun C hX _ hL0 r => ?_
 refine W.go 99 rfl ?_
 refine W.eff rfl rfl rfl (Ef.call rfl (rCheck_sp s p L h hn)) ?_
 rintro _ _ _ ⟨_, rfl, rfl, rfl, rfl⟩
 refine W.go 99 rfl ?_
 refine W.split rfl rfl rfl (fun c1 => W.go 99 rfl ?_) (fun c1 => W.go 99 rfl ?_)
 ·have c1' : sawE s ≠ 0 := by simpa using c1
  have hCE : NeedE s k = (0, sawE s) := by unfold NeedE openW; rw [if_pos (by rw [if_pos c1']; exact c1'), if_pos c1']
  refine W.ret r rfl rfl ?_
  rw [hCE]
  exact ⟨rfl, Le.refl _⟩
 have h0 : sawE s = 0 := by simpa using c1
 have hok := sawE_0 h0
 have hst := hok.st
 have hl3 := hok.l3
 have h4 := sawE_s4 h0
 have hok1 := openW_k h0 k
 refine W.eff rfl rfl rfl (Ef.call rfl (rIsKind_sp s p k L (by omega))) ?_
 rintro _ _ _ ⟨_, rfl, rfl, rfl, rfl⟩
 refine W.go 99 rfl ?_
 cases hik : inB k 0 ((s.loaves.length : Int) - 1) with
 | false =>
  rw [hik] at hok1
  refine W.split rfl rfl rfl (fun c => ?_) (fun c => absurd c (by decide))
  refine W.go 99 rfl ?_
  refine W.ret r rfl rfl ?_
  have hCE : NeedE s k = (0, 3) := by unfold NeedE; rw [hok1]; rfl
  rw [hCE]
  exact ⟨rfl, Le.refl _⟩
 | true =>
  rw [hik] at hok1
  have hkb := inB_iff.1 hik
  obtain ⟨i, rfl⟩ : ∃ i : Nat, k = (i : Int) := ⟨k.toNat, by omega⟩
  have hi : i < s.stock.length := by omega
  have hCE : NeedE s i = match needW s i with | some n => ((n : Int), 0) | none => (0, 11) := by unfold NeedE; rw [hok1]; rfl
  rw [hCE] at r
  refine W.split rfl rfl rfl (fun c => absurd c (by decide)) (fun c => ?_)
  refine W.go 99 rfl ?_
  refine W.loop (fun w E B L' => ∃ n : Nat, w = 5 - n ∧ n ≤ 5 ∧ Le L L' ∧ (∀ m, m < n → servedW (moreK s i m) = false) ∧
    E = [(1, .v (.int .i64 i)), (2, .p 0 0), (7, .v (.int .i64 n))] ∧ B = [some ⟨cellsS (.v (swA s p)), 26⟩])
   ⟨0, rfl, by omega, Le.refl _, (fun m hm => by omega), rfl, rfl⟩ (by exact ⟨rfl, rfl, rfl, trivial⟩) (by exact ⟨rfl, trivial⟩) ?_
  rintro _ _ _ L4 ⟨n, rfl, hn5, hl4, hno, rfl, rfl⟩ again
  refine W.go 99 rfl ?_
  refine W.split rfl rfl rfl (fun e2 => W.go 99 rfl ?_) (fun e2 => W.go 99 rfl ?_)
  ·have hn5 : n < 5 := by have : (n : Int) ≤ 4 := (by simpa using e2); omega
   refine W.eff rfl rfl rfl (Ef.call rfl (rMore_sp s p i n L4 (h.le hl4) hok hi (by omega))) ?_
   rintro _ _ _ ⟨_, rfl, rfl, p', rfl, hl5, hsw⟩
   refine W.go 99 rfl ?_
   rename_i L5
   refine W.eff rfl rfl rfl (Ef.call rfl (rAll_sp (moreK s i n) p' L5 hsw (hok.more h4 i (by omega)))) ?_
   rintro _ _ _ ⟨_, rfl, rfl, rfl, hl6⟩
   rename_i L6
   refine W.go 99 rfl ?_
   cases es : servedW (moreK s i n) with
   | true =>
    refine W.split rfl rfl rfl (fun c => ?_) (fun c => absurd c (by decide))
    refine W.go 99 rfl ?_
    refine W.ret r rfl rfl ?_
    rw [need_some hn5 es hno]
    exact ⟨rfl, hl4.trans (hl5.trans hl6)⟩
   | false =>
    refine W.split rfl rfl rfl (fun c => absurd c (by decide)) (fun c => ?_)
    refine W.go 99 rfl ?_
    refine W.again (again _ _ _ _ (by omega) ⟨n + 1, rfl, by omega, hl4.trans (hl5.trans hl6), (fun m hm => ?_), rfl, rfl⟩) (by exact ⟨rfl, rfl, congrArg some (inc64 (by omega)), trivial⟩) (by exact ⟨rfl, trivial⟩)
    rcases Nat.lt_or_ge m n with h | h
    ·exact hno m h
    ·rw [show m = n by omega]; exact es
  ·have hn5 : n = 5 := by have : ¬ (n : Int) ≤ 4 := (by simpa using e2); omega
   subst hn5
   refine W.ret r rfl rfl ?_
   rw [need_none hno]
   exact ⟨rfl, hl4⟩
theorem rKerf_sp (s : Sw) (p : Wp) (L : LH) (h : SwAt L s p) (hn : Sm s) : Sp X 67 [swA s p] L (fun v L' => v = .tuple #[.int .i64 (KerfE s).1, .int .i64 (KerfE s).2] ∧ Le L L') := by
 refine Sp.enter (n := 20) Tryz.func67 rfl rfl rfl rfl fun C hX _ hL0 r => ?_
 refine W.go 99 rfl ?_
 refine W.eff rfl rfl rfl (Ef.call rfl (rCheck_sp s p L h hn)) ?_
 rintro _ _ _ ⟨_, rfl, rfl, rfl, rfl⟩
 refine W.go 99 rfl ?_
 refine W.split rfl rfl rfl (fun c1 => W.go 99 rfl ?_) (fun c1 => W.go 99 rfl ?_)
 ·have c1' : sawE s ≠ 0 := by simpa using c1
  have hCE : KerfE s = (0, sawE s) := by unfold KerfE; rw [if_pos c1']
  refine W.ret r rfl rfl ?_
  rw [hCE]
  exact ⟨rfl, Le.refl _⟩
 have h0 : sawE s = 0 := by simpa using c1
 have hok := sawE_0 h0
 have hCE : KerfE s = match kerfW s with | some n => ((n : Int), 0) | none => (0, 11) := by unfold KerfE; rw [if_neg (by simp [h0])]; rfl
 rw [hCE] at r
 refine W.loop (fun w E B L' => ∃ (j : Nat) (kf : Int), w = 4 - j ∧ j ≤ 4 ∧ Le L L' ∧ (∀ m, m < 4 → 4 ≤ m + j → servedW (kerfK s m) = false) ∧
   E = [(1, .p 0 0), (5, .v (.int .i64 (3 - (j : Int))))] ∧ B = [some ⟨[.v (.slice p.la s.loaves.length p.lc), .v (.slice p.sa s.stock.length p.sc), .v (.int .i64 kf), .v (.slice p.wa s.wants.length p.wc)], 26⟩])
  ⟨0, s.kerf, rfl, by omega, Le.refl _, (fun m h1 h2 => by omega), rfl, rfl⟩ (by exact ⟨rfl, rfl, trivial⟩) (by exact ⟨rfl, trivial⟩) ?_
 rintro _ _ _ L4 ⟨j, kf, rfl, hj, hl4, hno, rfl, rfl⟩ again
 refine W.go 99 rfl ?_
 refine W.split rfl rfl rfl (fun e2 => W.go 99 rfl ?_) (fun e2 => W.go 99 rfl ?_)
 ·have hj4 : j < 4 := by have : (0 : Int) ≤ 3 - (j : Int) := (by simpa using e2); omega
  rw [show (3 - (j : Int)) = ((3 - j : Nat) : Int) by omega]
  refine W.eff rfl rfl rfl (Ef.call rfl (rAll_sp (kerfK s (3 - j)) p L4 ((h.kerf (3 - j)).le hl4) (hok.kerf (by omega)))) ?_
  rintro _ _ _ ⟨_, rfl, rfl, rfl, hl6⟩
  rename_i L6
  refine W.go 99 rfl ?_
  cases es : servedW (kerfK s (3 - j)) with
  | true =>
   refine W.split rfl rfl rfl (fun c => ?_) (fun c => absurd c (by decide))
   refine W.go 99 rfl ?_
   refine W.ret r rfl rfl ?_
   rw [kerf_some (n := 3 - j) (by omega) es (fun m h1 h2 => hno m (by omega) (by omega))]
   exact ⟨rfl, hl4.trans hl6⟩
  | false =>
   refine W.split rfl rfl rfl (fun c => absurd c (by decide)) (fun c => ?_)
   refine W.go 99 rfl ?_
   refine W.again (again _ _ _ _ (by omega) ⟨j + 1, _, rfl, by omega, hl4.trans hl6, (fun m h1 h2 => ?_), rfl, rfl⟩) (by exact ⟨rfl, congrArg (fun z => some (SV.v (Value.int .i64 z))) (show IntKind.i64.wrap (((3 - j : Nat) : Int) - 1) = 3 - ((j + 1 : Nat) : Int) by rw [wrap64_in _ (by omega) (by omega)]; omega), trivial⟩) (by exact ⟨rfl, trivial⟩)
   rcases Nat.lt_or_ge m (4 - j) with h | h
   ·rw [show m = 3 - j by omega]; exact es
   ·exact hno m h1 (by omega)
 ·have hj4 : j = 4 := by have : ¬ (0 : Int) ≤ 3 - (j : Int) := (by simpa using e2); omega
  subst hj4
  refine W.ret r rfl rfl ?_
  have hk : kerfW s = none := by
   have e : kerfW s = [3, 2, 1, 0].find? fun n => servedW (kerfK s n) := rfl
   rw [e]
   simp [List.find?_cons, hno 0 (by omega) (by omega), hno 1 (by omega) (by omega), hno 2 (by omega) (by omega), hno 3 (by omega) (by omega)]
  rw [hk]
  exact ⟨rfl, hl4⟩
end Go.Mz

