/- Lemmas on which the claim leans. -/
import Derived.Test.YtfnjganjlkoehaaGreatDoorMzLa
set_option maxRecDepth 100000
namespace Go.Mz
open Go.Conc Go.Proofs
variable {X : Logic Tryz.prog}
theorem has_loaf {s : Sw} {p : Wp} {L : LH} (hs : SwAt L s p) {k : Nat} (hk : k < s.loaves.length) : ∃ la a c, p.la = some la ∧ L.cell? (la.add k) = some (.slice a s.loaves[k].length c) ∧ IntsAt L a s.loaves[k] ∧ s.loaves[k].length ≤ c := by
 have hl : s.loaves[k]? = some s.loaves[k] := List.getElem?_eq_getElem hk
 obtain ⟨la, hla⟩ := hs.lo.addr hk
 have hlo := hs.lo
 rw [hla] at hlo
 obtain ⟨a, c, hc, hsl, hcp⟩ := hlo.row hl
 exact ⟨la, a, c, hla, hc, hsl, hcp⟩
theorem rBelow_sp (s : Sw) (p : Wp) (x : Want) (L : LH) (hs : SwAt L s p) (hok : SOk s) (hx : WtOk s.loaves x) (h2 : x.sort = 2) : Sp X 162 [swA s p, .int .i64 x.kind, .int .i64 x.amount] L (fun v L' => v = .int .i64 (restW s x) ∧ L = L') := by
 have hk0 := hx.k0
 have hk1 := hx.k1
 have ha0 := hx.a0
 have ha1 := hx.a1
 simp [wKd, wLo, wHi, h2] at hk0 ha0 ha1
 have hki : x.kind.toNat < s.loaves.length := by omega
 obtain ⟨la, a, c, hla, hc, hsl, hcp⟩ := has_loaf hs hki
 have hlf := hok.lf _ (List.getElem_mem hki)
 have hl4 := hlf.l4
 have hgd : loafAt s x.kind = s.loaves[x.kind.toNat] := loafAt0 (List.getElem?_eq_getElem hki)
 rw [List.getElem?_eq_getElem hki, Option.getD_some] at ha1
 have hr : restW s x = max 0 (sumL (s.loaves[x.kind.toNat].take (s.loaves[x.kind.toNat].length - x.amount.toNat)) - s.kerf) := by unfold restW; rw [hgd]
 rw [hr]
 generalize s.loaves[x.kind.toNat] = lf at *
 have k0 := hok.k0
 have k3 := hok.k3
 have hsm := sumL_bk 4000 (lf.take (lf.length - x.amount.toNat)) fun y hy => by have := hlf.r y (List.mem_of_mem_take hy); omega
 have hlt : (lf.take (lf.length - x.amount.toNat)).length = lf.length - x.amount.toNat := by rw [List.length_take]; omega
 rw [hlt] at hsm
 obtain ⟨qa, qb, qc, qd, qe, qf⟩ := p
 obtain rfl : qa = some la := hla
 refine Sp.enter (n := 24) Tryz.func162 rfl rfl rfl rfl fun C hX _ hL0 r => ?_
 refine W.go 99 rfl ?_
 refine W.vf rfl rfl rfl rfl (Vf.idx1 rfl rfl rfl rfl rfl rfl (show x.kind = ((x.kind.toNat : Nat) : Int) by omega) hki) ?_
 refine W.go 99 rfl ?_
 refine W.vf rfl rfl rfl rfl (Vf.load rfl rfl rfl (hc)) ?_
 refine W.go 99 rfl ?_
 refine W.drawn (by kernel_rfl) _ (Le.refl _) ?_
 refine DD.run' [0, 1, 2, 3, 4, 7, 8] rfl ?_
 have hw : IntKind.i64.wrap ((lf.length : Int) - x.amount) = ((lf.length - x.amount.toNat : Nat) : Int) := by rw [wrap64_in _ (by omega) (by omega)]; omega
 rw [hw]
 refine DD.vf 5 rfl rfl rfl rfl rfl (Vf.sliceT rfl rfl Tryz.underlying23 size3 (show lf.length - x.amount.toNat ≤ c by omega)) ?_
 have htot := rTotal_sp (X := C.X) a c (lf.take (lf.length - x.amount.toNat)) L (hsl.take _) (by omega) fun y hy => by have := hlf.r y (List.mem_of_mem_take hy); omega
 rw [hlt] at htot
 refine DD.act 6 rfl rfl rfl rfl rfl (Ef.call rfl (htot)) (by rintro _ _ _ ⟨_, rfl, rfl, rfl, rfl⟩; exact ⟨Le.refl _, rfl, .inl rfl⟩) ?_
 rintro _ _ _ ⟨_, rfl, rfl, rfl, rfl⟩
 refine DD.run' [9, 10, 11] rfl ?_
 refine .fin rfl ?_
 refine W.go 99 rfl ?_
 generalize sumL (lf.take (lf.length - x.amount.toNat)) = S at *
 rw [wrap64_in (S - s.kerf) (by omega) (by omega)]
 refine W.ret r rfl rfl ?_
 refine ⟨?_, rfl⟩
 show Value.int .i64 (if S - s.kerf > 0 then S - s.kerf else 0) = _
 congr 1
 split <;> omega
def isTks (k : Int) (x : Want) : Bool := x.sort == 1 && (decide (k < 0) || x.kind == k)
def tksN (k : Int) (xs : List Want) : Int := sumL ((xs.filter (isTks k)).map (·.amount))
theorem sumL_append (a b : List Int) : sumL (a ++ b) = sumL a + sumL b := by
 induction a with
 | nil => rw [List.nil_append, sumL_nil]; omega
 | cons x a ih => rw [List.cons_append, sumL_cons, sumL_cons, ih]; omega
theorem tksN_snoc (k : Int) (xs : List Want) (x : Want) : tksN k (xs ++ [x]) = tksN k xs + if isTks k x then x.amount else 0 := by
 unfold tksN
 rw [List.filter_append, List.map_append, sumL_append]
 by_cases h : isTks k x = true
 ·simp [h, sumL]
 ·simp [h, sumL]
theorem tkN_snoc (xs : List Want) (x : Want) (k : Nat) : tkN (xs ++ [x]) k = tkN xs k + if isTk k x then 1 else 0 := by
 unfold tkN
 rw [List.countP_append, List.countP_singleton]
 split <;> simp
theorem suN_snoc (s : Sw) (xs : List Want) (x : Want) (k : Nat) : suN s (xs ++ [x]) k = suN s xs k + if isTp k x then restW s x else 0 := by
 unfold suN
 rw [List.filter_append, List.map_append, sumL_append]
 by_cases h : isTp k x = true
 ·simp [h, sumL]
 ·simp [h, sumL]
theorem tksN_bd {s : Sw} (hok : SOk s) (k : Int) (w : List Nat) : 0 ≤ tksN k (wantsOf s w) ∧ tksN k (wantsOf s w) ≤ 60 * w.length := by
 have h := sumL_bk 60 (((wantsOf s w).filter (isTks k)).map (·.amount)) fun y hy => by
  obtain ⟨x, hx, rfl⟩ := List.mem_map.1 hy
  obtain ⟨hx1, hx2⟩ := List.mem_filter.1 hx
  unfold wantsOf at hx1
  obtain ⟨i, _, hi⟩ := List.mem_filterMap.1 hx1
  have hw := hok.wt x (List.mem_of_getElem? hi)
  have hs1 : x.sort = 1 := by simp [isTks] at hx2; exact hx2.1
  have ha0 := hw.a0
  have ha1 := hw.a1
  simp [wLo, wHi, hs1] at ha0 ha1
  omega
 rw [List.length_map] at h
 have h1 := List.length_filter_le (isTks k) (wantsOf s w)
 have h2 : (wantsOf s w).length ≤ w.length := List.length_filterMap_le ..
 unfold tksN
 omega
theorem wants_take {s : Sw} {w : List Nat} (hw : WnOk s w) {j : Nat} (hj : j < w.length) : ∃ (i : Nat) (hi : i < s.wants.length), w[j]? = some i ∧ wantsOf s (w.take (j + 1)) = wantsOf s (w.take j) ++ [s.wants[i]] := by
 have hwj : w[j]? = some w[j] := List.getElem?_eq_getElem hj
 have hi := hw _ (List.mem_of_getElem? hwj)
 exact ⟨w[j], hi, hwj, by rw [List.take_succ_eq_append_getElem hj]; exact wantsOf_snoc (List.getElem?_eq_getElem hi)⟩
theorem rTakes_sp (s : Sw) (p : Wp) (wa : Option Addr) (wc : Nat) (w : List Nat) (k : Int) (L : LH) (hs : SwAt L s p) (hok : SOk s) (hwl : IntsAt L wa (natI w)) (hw : WnOk s w) (n1 : w.length ≤ 1000) :
  Sp X 137 [swA s p, .slice wa w.length wc, .int .i64 k] L (fun v L' => v = .int .i64 (tksN k (wantsOf s w)) ∧ L = L') := by
 refine Sp.enter (n := 42) Tryz.func137 rfl rfl rfl rfl fun C hX _ hL0 r => ?_
 refine W.go 99 rfl ?_
 refine W.loop (fun m E B L' => ∃ j : Nat, m = w.length - j ∧ j ≤ w.length ∧ L = L' ∧ E = [(1, .v (.slice wa w.length wc)), (2, .v (.int .i64 k)), (3, .p 0 0), (7, .v (.int .i64 (tksN k (wantsOf s (w.take j))))), (8, .v (.int .i64 j))] ∧ B = [some ⟨cellsS (.v (swA s p)), 26⟩])
  ⟨0, rfl, by omega, rfl, rfl, rfl⟩ (by exact ⟨rfl, rfl, rfl, rfl, rfl, trivial⟩) (by exact ⟨rfl, trivial⟩) ?_
 rintro _ _ _ _ ⟨j, rfl, hj, rfl, rfl, rfl⟩ again
 refine W.go 99 rfl ?_
 refine W.split rfl rfl rfl (fun e1 => W.go 99 rfl ?_) (fun e1 => W.go 99 rfl ?_)
 ·have hjl : j < w.length := by simpa using e1
  obtain ⟨i, hi, hwj, htk⟩ := wants_take hw hjl
  have hxm := hok.wt _ (List.getElem_mem hi)
  obtain ⟨lad, rfl⟩ := hwl.addr (show j < (natI w).length by rw [natI_len]; exact hjl)
  obtain ⟨wad, hwa⟩ := hs.wt.addr hi
  have hwt := hs.wt
  rw [hwa] at hwt
  have hb := tksN_bd hok k (w.take (j + 1))
  have hb0 := tksN_bd hok k (w.take j)
  rw [htk, tksN_snoc] at hb
  simp only [List.length_take] at hb hb0
  have hst : wantsOf s (w.take (j + 1)) = wantsOf s (w.take j) ++ [s.wants[i]] := htk
  obtain ⟨qa, qb, qc, qd, qe, qf⟩ := p
  obtain rfl : qc = some wad := hwa
  refine W.drawn (by kernel_rfl) _ (Le.refl _) ?_
  refine DD.run' [0, 1, 2, 3, 8] rfl ?_
  refine DD.vf 4 rfl rfl rfl rfl rfl (Vf.idx1 rfl rfl rfl rfl rfl rfl rfl (hjl)) ?_
  refine DD.vf 5 rfl rfl rfl rfl rfl (Vf.load rfl rfl rfl (hwl.int (x := (i : Int)) (by rw [natI_get, hwj]; rfl))) ?_
  refine DD.vf 6 rfl rfl rfl rfl rfl (Vf.idx rfl rfl rfl rfl rfl rfl (hi)) ?_
  refine DD.vf 7 rfl rfl rfl rfl rfl (Vf.loadN rfl rfl rfl (hwt.whole (List.getElem?_eq_getElem hi) rfl)) ?_
  refine DD.act 9 rfl rfl rfl rfl rfl (Ef.sto rfl) (by rintro _ _ _ ⟨rfl, rfl, rfl⟩; exact ⟨Le.refl _, rfl, .inr rfl⟩) ?_
  rintro _ _ L1 ⟨rfl, rfl, rfl⟩
  refine .fin rfl ?_
  generalize s.wants[i] = x at *
  refine W.weak (E' := [(1, .v (.slice (some lad) w.length wc)), (2, .v (.int .i64 k)), (3, .p 0 0), (7, .v (.int .i64 (tksN k (wantsOf s (w.take j))))), (8, .v (.int .i64 j)), (9, .p 1 0)]) (B' := [some ⟨cellsS (.v (swA s ⟨qa, qb, some wad, qd, qe, qf⟩)), 26⟩, some ⟨cellsS (.v (.agg (encWt x).toArray)), 28⟩]) (by exact ⟨rfl, rfl, rfl, rfl, rfl, rfl, trivial⟩) (by exact ⟨rfl, rfl, trivial⟩) ?_
  have hin : isTks k x = true → IntKind.i64.wrap (tksN k (wantsOf s (w.take j)) + x.amount) = tksN k (wantsOf s (w.take (j + 1))) := fun h => by
   rw [if_pos h] at hb
   rw [htk, tksN_snoc, if_pos h, wrap64_in _ (by omega) (by omega)]
  have hout : isTks k x = false → tksN k (wantsOf s (w.take j)) = tksN k (wantsOf s (w.take (j + 1))) := fun h => by
   rw [htk, tksN_snoc, if_neg (by rw [h]; decide), Int.add_zero]
  refine W.go 99 rfl ?_
  refine W.split rfl rfl rfl (fun e2 => ?_) (fun e2 => ?_)
  ·have e2' : x.sort = 1 := by simpa using e2
   refine W.go 99 rfl ?_
   refine W.split rfl rfl rfl (fun e3 => ?_) (fun e3 => ?_)
   ·have h : isTks k x = true := by simp [isTks, e2']; left; simpa using e3
    refine W.go 99 rfl ?_
    exact W.again (again _ _ _ _ (by omega) ⟨j + 1, rfl, by omega, rfl, rfl, rfl⟩) (by exact ⟨rfl, rfl, rfl, congrArg (fun z => some (SV.v (Value.int .i64 z))) (hin h), congrArg some (inc64 (by omega)), trivial⟩) (by exact ⟨rfl, trivial⟩)
   ·have e3' : ¬ k < 0 := by simpa using e3
    refine W.go 99 rfl ?_
    refine W.split rfl rfl rfl (fun e4 => ?_) (fun e4 => ?_)
    ·have h : isTks k x = true := by simp [isTks, e2']; right; simpa using e4
     refine W.go 99 rfl ?_
     exact W.again (again _ _ _ _ (by omega) ⟨j + 1, rfl, by omega, rfl, rfl, rfl⟩) (by exact ⟨rfl, rfl, rfl, congrArg (fun z => some (SV.v (Value.int .i64 z))) (hin h), congrArg some (inc64 (by omega)), trivial⟩) (by exact ⟨rfl, trivial⟩)
    ·have h : isTks k x = false := by
      have e4' : ¬ x.kind = k := by simpa using e4
      simp [isTks, e2', e4']; omega
     refine W.go 99 rfl ?_
     exact W.again (again _ _ _ _ (by omega) ⟨j + 1, rfl, by omega, rfl, rfl, rfl⟩) (by exact ⟨rfl, rfl, rfl, congrArg (fun z => some (SV.v (Value.int .i64 z))) (hout h), congrArg some (inc64 (by omega)), trivial⟩) (by exact ⟨rfl, trivial⟩)
  ·have h : isTks k x = false := by
    have e2' : ¬ x.sort = 1 := by simpa using e2
    simp [isTks, e2']
   refine W.go 99 rfl ?_
   exact W.again (again _ _ _ _ (by omega) ⟨j + 1, rfl, by omega, rfl, rfl, rfl⟩) (by exact ⟨rfl, rfl, rfl, congrArg (fun z => some (SV.v (Value.int .i64 z))) (hout h), congrArg some (inc64 (by omega)), trivial⟩) (by exact ⟨rfl, trivial⟩)
 ·have hje : j = w.length := by simp at e1; omega
  subst hje
  refine W.ret r rfl rfl ?_
  rw [List.take_length]
  exact ⟨rfl, rfl⟩
end Go.Mz


set_option maxRecDepth 100000
namespace Go.Mz
open Go.Conc Go.Proofs
variable {X : Logic Tryz.prog}
def IBlk (L : LH) (b : Nat) (l : List Int) : Prop := L b = some (.cells (l.flatMap encI).toArray 3 (0, 0), true)
theorem IBlk.ints {L : LH} {b : Nat} {l : List Int} (h : IBlk L b l) : IntsAt L (some ⟨b, 0, none⟩) l := sl_block encI_len h
theorem IBlk.get {L : LH} {b : Nat} {l : List Int} (h : IBlk L b l) {i : Nat} {x : Int} (hx : l[i]? = some x) : L.cell? (Addr.add ⟨b, 0, none⟩ i) = some (.int .i64 x) := h.ints.int hx
theorem IBlk.put {L : LH} {b : Nat} {l : List Int} {i : Nat} (hi : i < l.length) (x : Int) : IBlk (L.put b (.cells (putRow (l.flatMap encI).toArray (i * 1) (Value.int .i64 x).cells.toList) 3)) b (l.set i x) := by
 unfold IBlk
 rw [put_same]
 congr 3
 exact putRow_flat encI_len hi x
theorem IBlk.zero {L : LH} {b n : Nat} : IBlk (L.put b (.cells (Array.replicate n (.int .i64 0)) 3)) b (List.replicate n 0) := by
 unfold IBlk
 rw [put_same]
 have : ∀ n : Nat, ((List.replicate n (0 : Int)).flatMap encI) = List.replicate n (.int .i64 0) := fun n => by
  induction n with
  | zero => rfl
  | succ n ih => rw [List.replicate_succ, List.flatMap_cons, ih]; rfl
 rw [this]
 simp
theorem Ef.stoI {C : Cx Tryz.prog} {E : Look} {B : List (Option Bx)} {L : LH} {dst : Option Tmp} {ty : TypeId} {pos : String} {af : Array Edge} {gd : Option (Nat × Bool)} {x y : Operand} {b i : Nat} {l : List Int} {z : Int} (h : IBlk L b l) (hi : i < l.length) (hx : evS E x = some (.v (.pointer (some (Addr.add ⟨b, 0, none⟩ i))))) (hy : ∃ s, evS E y = some s ∧ den nm0 s = some (.int .i64 z)) :
  Ef C ⟨dst, .store 3 x y, ty, pos, af, gd⟩ E B L (fun sv B' L' => sv = .v undef ∧ B' = B ∧ IBlk L' b (l.set i z) ∧ ∀ b', b' ≠ b → L' b' = L b') := by
 have hf := Ef.stoF (C := C) (B := B) (dst := dst) (ty := ty) (pos := pos) (af := af) (gd := gd) (b := b) (off := i * 1) (t := 3) (x := x) (y := y) (v := .int .i64 z) (by rw [hx, add_of]; simp) hy rfl h rfl (by rw [List.size_toArray, flat_len encI_len]; show i * 1 + 1 ≤ _; omega) (singles rfl)
 intro T R β hE hH
 exact EffW.mono (fun v L' ⟨sv, B', L2, ⟨e1, e2, e3⟩, e4⟩ => ⟨sv, B', L2, ⟨e1, e2, by rw [e3]; exact IBlk.put hi z, by rw [e3]; exact fun b' hb => put_ne _ _ hb⟩, e4⟩) (hf T R β hE hH)
def takenD (s : Sw) (xs : List Want) : List Int := (List.range s.loaves.length).map fun k => tkN xs k
theorem takenD_len (s : Sw) (xs : List Want) : (takenD s xs).length = s.loaves.length := by simp [takenD]
theorem takenD_get {s : Sw} {xs : List Want} {k : Nat} (hk : k < s.loaves.length) : (takenD s xs)[k]? = some (tkN xs k) := by
 unfold takenD; rw [List.getElem?_map, List.getElem?_range hk]; rfl
theorem isTk_eq {x : Want} {kd : Nat} (hs : x.sort ≠ 1) (hk : x.kind = (kd : Int)) (k : Nat) : isTk k x = (kd == k) := by
 unfold isTk
 rw [hk, Bool.eq_iff_iff]
 simp [hs]
 omega
theorem takenD_step {s : Sw} {xs : List Want} {x : Want} {kd : Nat} (hs : x.sort ≠ 1) (hk : x.kind = (kd : Int)) : (takenD s xs).set kd (tkN xs kd + 1) = takenD s (xs ++ [x]) := by
 refine List.ext_getElem? fun j => ?_
 rw [List.getElem?_set]
 by_cases hj : j < s.loaves.length
 ·rw [takenD_get hj, takenD_get hj, tkN_snoc, isTk_eq hs hk]
  by_cases e : kd = j
  ·subst e; rw [if_pos rfl, if_pos (by rw [takenD_len]; exact hj)]; simp
  ·rw [if_neg e, if_neg (by simpa using e)]; simp
 ·rw [List.getElem?_eq_none (by rw [takenD_len]; omega), List.getElem?_eq_none (by rw [takenD_len]; omega)]
  split
  ·rw [if_neg (by rw [takenD_len]; omega)]
  ·rfl
theorem takenD_no {s : Sw} {xs : List Want} {x : Want} (hs : x.sort = 1) : takenD s (xs ++ [x]) = takenD s xs := by
 unfold takenD
 refine List.map_congr_left fun k _ => ?_
 rw [tkN_snoc, if_neg (by simp [isTk, hs]), Int.add_zero]
theorem takenD_nil (s : Sw) : takenD s [] = List.replicate s.loaves.length 0 := by
 unfold takenD
 refine List.ext_getElem? fun j => ?_
 rw [List.getElem?_map, List.getElem?_replicate]
 by_cases hj : j < s.loaves.length
 ·rw [List.getElem?_range hj, if_pos hj]; rfl
 ·rw [List.getElem?_eq_none (by simp; omega), if_neg hj]; rfl
theorem tkN_bd (xs : List Want) (k : Nat) : 0 ≤ tkN xs k ∧ tkN xs k ≤ xs.length := by
 unfold tkN
 have := List.countP_le_length (p := isTk k) (l := xs)
 omega
theorem wantsOf_len (s : Sw) (w : List Nat) : (wantsOf s w).length ≤ w.length := List.length_filterMap_le ..
def NewInts (L : LH) (l : List Int) (v : Value) (L' : LH) : Prop := ∃ b, v = .slice (some ⟨b, 0, none⟩) l.length l.length ∧ L b = none ∧ Le L L' ∧ IBlk L' b l
theorem rTaken_sp (s : Sw) (p : Wp) (wa : Option Addr) (wc : Nat) (w : List Nat) (L : LH) (hs : SwAt L s p) (hok : SOk s) (hwl : IntsAt L wa (natI w)) (hw : WnOk s w) (n1 : w.length ≤ 1000) :
  Sp X 109 [swA s p, .slice wa w.length wc] L (NewInts L (takenD s (wantsOf s w))) := by
 have hl3 := hok.l3
 refine Sp.enter (n := 40) Tryz.func109 rfl rfl rfl rfl fun C hX _ hL0 r => ?_
 refine W.go 99 rfl ?_
 refine W.eff rfl rfl rfl (Ef.makeSlice rfl (by omega) Tryz.underlying23 size3 bytes3 zero3 (by decide) rfl) ?_
 rintro _ _ _ ⟨bn, rfl, rfl, hbn, rfl⟩
 refine W.go 99 rfl ?_
 have hLp := Le.put hbn (.cells (Array.replicate s.loaves.length (.int .i64 0)) 3)
 have h0 : IBlk (L.put bn (.cells (Array.replicate s.loaves.length (.int .i64 0)) 3)) bn (takenD s []) := by rw [takenD_nil]; exact IBlk.zero
 refine W.loop (fun m E B L' => ∃ j : Nat, m = w.length - j ∧ j ≤ w.length ∧ Le L L' ∧ IBlk L' bn (takenD s (wantsOf s (w.take j))) ∧
   E = [(1, .v (.slice wa w.length wc)), (2, .p 0 0), (5, .v (.slice (some ⟨bn, 0, none⟩) s.loaves.length s.loaves.length)), (6, .v (.int .i64 j))] ∧ B = [some ⟨cellsS (.v (swA s p)), 26⟩])
  ⟨0, rfl, by omega, hLp, h0, rfl, rfl⟩ (by exact ⟨rfl, rfl, rfl, rfl, trivial⟩) (by exact ⟨rfl, trivial⟩) ?_
 rintro _ _ _ L1 ⟨j, rfl, hj, hle, hI, rfl, rfl⟩ again
 refine W.go 99 rfl ?_
 refine W.split rfl rfl rfl (fun e1 => W.go 99 rfl ?_) (fun e1 => W.go 99 rfl ?_)
 ·have hjl : j < w.length := by simpa using e1
  obtain ⟨i, hi, hwj, htk⟩ := wants_take hw hjl
  have hxm := hok.wt _ (List.getElem_mem hi)
  obtain ⟨lad, rfl⟩ := hwl.addr (show j < (natI w).length by rw [natI_len]; exact hjl)
  obtain ⟨wad, hwa⟩ := hs.wt.addr hi
  have hwt := hs.wt
  rw [hwa] at hwt
  have hxi : s.wants[i]? = some s.wants[i] := List.getElem?_eq_getElem hi
  have hb := tkN_bd (wantsOf s (w.take j))
  have hb2 := wantsOf_len s (w.take j)
  simp only [List.length_take] at hb2
  obtain ⟨qa, qb, qc, qd, qe, qf⟩ := p
  obtain rfl : qc = some wad := hwa
  refine W.drawn (by kernel_rfl) L hle ?_
  refine DD.run' [0, 1, 2, 3, 8] rfl ?_
  refine DD.vf 4 rfl rfl rfl rfl rfl (Vf.idx1 rfl rfl rfl rfl rfl rfl rfl (hjl)) ?_
  refine DD.vf 5 rfl rfl rfl rfl rfl (Vf.load rfl rfl rfl (hwl.int (x := (i : Int)) (by rw [natI_get, hwj]; rfl))) ?_
  refine DD.vf 6 rfl rfl rfl rfl rfl (Vf.idx rfl rfl rfl rfl rfl rfl (hi)) ?_
  refine DD.vf 7 rfl rfl rfl rfl rfl (Vf.loadN rfl rfl rfl (hwt.whole hxi rfl)) ?_
  refine DD.act 9 rfl rfl rfl rfl rfl (Ef.sto rfl) (by rintro _ _ _ ⟨rfl, rfl, rfl⟩; exact ⟨hle, rfl, .inr rfl⟩) ?_
  rintro _ _ L2 ⟨rfl, rfl, rfl⟩
  refine .fin rfl ?_
  generalize s.wants[i] = x at *
  refine W.weak (E' := [(1, .v (.slice (some lad) w.length wc)), (2, .p 0 0), (5, .v (.slice (some ⟨bn, 0, none⟩) s.loaves.length s.loaves.length)), (6, .v (.int .i64 j)), (7, .p 1 0)]) (B' := [some ⟨cellsS (.v (swA s ⟨qa, qb, some wad, qd, qe, qf⟩)), 26⟩, some ⟨cellsS (.v (.agg (encWt x).toArray)), 28⟩]) (by exact ⟨rfl, rfl, rfl, rfl, rfl, trivial⟩) (by exact ⟨rfl, rfl, trivial⟩) ?_
  refine W.go 99 rfl ?_
  refine W.split rfl rfl rfl (fun e2 => ?_) (fun e2 => ?_)
  ·have e2' : x.sort ≠ 1 := by simpa using e2
   have hk0 := hxm.k0
   have hk1 := hxm.k1
   simp [wKd, e2'] at hk0
   obtain ⟨kd, hkd⟩ : ∃ kd : Nat, x.kind = kd := ⟨x.kind.toNat, by omega⟩
   have hkl : kd < s.loaves.length := by omega
   refine W.go 99 rfl ?_
   refine W.drawn (by kernel_rfl) noL (noL_le _) ?_
   refine DD.run' [0, 1, 2, 3, 4, 5] rfl ?_
   refine DD.vf 6 rfl rfl rfl rfl rfl (Vf.idx1 rfl rfl rfl rfl rfl rfl hkd hkl) ?_
   refine DD.act 7 rfl rfl rfl rfl rfl (Ef.val rfl (Vf.load rfl rfl rfl (hI.get (takenD_get hkl)))) (by rintro _ _ _ ⟨rfl, rfl, rfl⟩; exact ⟨noL_le _, rfl, .inl rfl⟩) ?_
   rintro _ _ _ ⟨rfl, rfl, rfl⟩
   have hbk := hb kd
   refine DD.run' [8] rfl ?_
   rw [wrap64_in _ (by omega) (by omega)]
   refine DD.vf 9 rfl rfl rfl rfl rfl (Vf.idx1 rfl rfl rfl rfl rfl rfl hkd hkl) ?_
   refine DD.act 10 rfl rfl rfl rfl rfl (Ef.stoI hI (by rw [takenD_len]; exact hkl) rfl ⟨_, rfl, rfl⟩) (by rintro _ _ _ ⟨rfl, rfl, _⟩; exact ⟨noL_le _, rfl, .inl rfl⟩) ?_
   rintro _ _ L3 ⟨rfl, rfl, hI3, hk3⟩
   rw [takenD_step e2' hkd, ← htk] at hI3
   refine .fin rfl ?_
   refine W.go 99 rfl ?_
   exact W.again (again _ _ _ _ (by omega) ⟨j + 1, rfl, by omega, fun b z hz => by rw [hk3 b (fun e => by subst e; rw [hbn] at hz; cases hz)]; exact hle _ _ hz, hI3, rfl, rfl⟩) (by exact ⟨rfl, rfl, rfl, congrArg some (inc64 (by omega)), trivial⟩) (by exact ⟨rfl, trivial⟩)
  ·have e2' : x.sort = 1 := by simpa using e2
   refine W.go 99 rfl ?_
   rw [← takenD_no (xs := wantsOf s (w.take j)) e2', ← htk] at hI
   exact W.again (again _ _ _ _ (by omega) ⟨j + 1, rfl, by omega, hle, hI, rfl, rfl⟩) (by exact ⟨rfl, rfl, rfl, congrArg some (inc64 (by omega)), trivial⟩) (by exact ⟨rfl, trivial⟩)
 ·have hje : j = w.length := by simp at e1; omega
  subst hje
  refine W.ret r rfl rfl ?_
  rw [List.take_length] at hI
  exact ⟨bn, by rw [takenD_len]; rfl, hbn, hle, hI⟩
theorem restW_bd {s : Sw} (hok : SOk s) (x : Want) : 0 ≤ restW s x ∧ restW s x ≤ 36 := by
 unfold restW
 have k0 := hok.k0
 have h : 0 ≤ sumL ((loafAt s x.kind).take ((loafAt s x.kind).length - x.amount.toNat)) ∧ sumL ((loafAt s x.kind).take ((loafAt s x.kind).length - x.amount.toNat)) ≤ 36 := by
  by_cases hk : x.kind.toNat < s.loaves.length
  ·have hgd : loafAt s x.kind = s.loaves[x.kind.toNat] := loafAt0 (List.getElem?_eq_getElem hk)
   rw [hgd]
   have hlf := hok.lf _ (List.getElem_mem hk)
   have hl4 := hlf.l4
   have := sumL_bk 9 (s.loaves[x.kind.toNat].take (s.loaves[x.kind.toNat].length - x.amount.toNat)) fun y hy => by have := hlf.r y (List.mem_of_mem_take hy); omega
   rw [List.length_take] at this
   omega
  ·have : loafAt s x.kind = [] := by unfold loafAt; rw [List.getD_eq_getElem?_getD, List.getElem?_eq_none (by omega)]; rfl
   rw [this]; simp [sumL]
 generalize sumL ((loafAt s x.kind).take ((loafAt s x.kind).length - x.amount.toNat)) = S at h ⊢
 omega
theorem suN_bd {s : Sw} (hok : SOk s) (xs : List Want) (k : Nat) : 0 ≤ suN s xs k ∧ suN s xs k ≤ 36 * xs.length := by
 unfold suN
 have h := sumL_bk 36 ((xs.filter (isTp k)).map (restW s)) fun y hy => by
  obtain ⟨x, _, rfl⟩ := List.mem_map.1 hy
  exact restW_bd hok x
 rw [List.length_map] at h
 have h1 := List.length_filter_le (isTp k) xs
 omega
theorem loaf_sum {s : Sw} (hok : SOk s) (k : Nat) : 0 ≤ sumL (s.loaves.getD k []) ∧ sumL (s.loaves.getD k []) ≤ 36 := by
 by_cases hk : k < s.loaves.length
 ·have hgd : s.loaves.getD k [] = s.loaves[k] := loafAt0 (List.getElem?_eq_getElem hk)
  rw [hgd]
  have hlf := hok.lf _ (List.getElem_mem hk)
  have hl4 := hlf.l4
  have := sumL_bk 9 s.loaves[k] fun y hy => by have := hlf.r y hy; omega
  omega
 ·rw [List.getD_eq_getElem?_getD, List.getElem?_eq_none (by omega)]; simp [sumL]
def sugarD (s : Sw) (xs : List Want) (l : List Int) : List Int := (List.range s.loaves.length).map fun k => l.getD k 0 * sumL (s.loaves.getD k []) + suN s xs k
def sugar0 (s : Sw) (l : List Int) (i : Nat) : List Int := (List.range s.loaves.length).map fun k => if k < i then l.getD k 0 * sumL (s.loaves.getD k []) else 0
theorem sugarD_len (s : Sw) (xs : List Want) (l : List Int) : (sugarD s xs l).length = s.loaves.length := by simp [sugarD]
theorem sugar0_len (s : Sw) (l : List Int) (i : Nat) : (sugar0 s l i).length = s.loaves.length := by simp [sugar0]
theorem map_set {n k : Nat} {f g : Nat → Int} {v : Int} (hk : k < n) (hv : v = g k) (hn : ∀ j, j < n → j ≠ k → f j = g j) : ((List.range n).map f).set k v = (List.range n).map g := by
 refine List.ext_getElem? fun j => ?_
 rw [List.getElem?_set]
 by_cases hj : j < n
 ·rw [List.getElem?_map, List.getElem?_map, List.getElem?_range hj]
  by_cases e : k = j
  ·subst e; rw [if_pos rfl, if_pos (by simpa using hj), hv]; rfl
  ·rw [if_neg e]; exact congrArg some (hn j hj (fun h => e h.symm))
 ·rw [List.getElem?_eq_none (l := (List.range n).map f) (by simp; omega), List.getElem?_eq_none (l := (List.range n).map g) (by simp; omega)]
  split
  ·rw [if_neg (by simp; omega)]
  ·rfl
theorem sugar0_step {s : Sw} {l : List Int} {i : Nat} (hi : i < s.loaves.length) : (sugar0 s l i).set i (l.getD i 0 * sumL (s.loaves.getD i [])) = sugar0 s l (i + 1) :=
 map_set hi (by rw [if_pos (by omega)]) fun j _ hne => by
  by_cases h : j < i
  ·rw [if_pos h, if_pos (by omega)]
  ·rw [if_neg h, if_neg (by omega)]
theorem sugar0_0 (s : Sw) (l : List Int) : sugar0 s l 0 = List.replicate s.loaves.length 0 := by
 unfold sugar0
 refine List.ext_getElem? fun j => ?_
 rw [List.getElem?_map, List.getElem?_replicate]
 by_cases hj : j < s.loaves.length
 ·rw [List.getElem?_range hj, if_pos hj]; simp
 ·rw [List.getElem?_eq_none (by simp; omega), if_neg hj]; rfl
theorem sugar0_n (s : Sw) (l : List Int) : sugar0 s l s.loaves.length = sugarD s [] l := by
 unfold sugar0 sugarD
 refine List.map_congr_left fun k hk => ?_
 rw [if_pos (List.mem_range.1 hk)]
 simp [suN, sumL]
theorem isTp_eq {x : Want} {kd : Nat} (hs : x.sort = 2) (hk : x.kind = (kd : Int)) (k : Nat) : isTp k x = (kd == k) := by
 unfold isTp
 rw [hk, Bool.eq_iff_iff]
 simp [hs]
 omega
theorem sugarD_get {s : Sw} {xs : List Want} {l : List Int} {k : Nat} (hk : k < s.loaves.length) : (sugarD s xs l)[k]? = some (l.getD k 0 * sumL (s.loaves.getD k []) + suN s xs k) := by
 unfold sugarD; rw [List.getElem?_map, List.getElem?_range hk]; rfl
theorem sugarD_step {s : Sw} {xs : List Want} {l : List Int} {x : Want} {kd : Nat} (hs : x.sort = 2) (hk : x.kind = (kd : Int)) (hl : kd < s.loaves.length) : (sugarD s xs l).set kd (l.getD kd 0 * sumL (s.loaves.getD kd []) + suN s xs kd + restW s x) = sugarD s (xs ++ [x]) l :=
 map_set hl (by rw [suN_snoc, if_pos (by rw [isTp_eq hs hk]; simp)]; omega) fun j _ hne => by rw [suN_snoc, if_neg (by rw [isTp_eq hs hk]; simp; omega)]; omega
theorem sugarD_no {s : Sw} {xs : List Want} {l : List Int} {x : Want} (hs : x.sort ≠ 2) : sugarD s (xs ++ [x]) l = sugarD s xs l := by
 unfold sugarD
 refine List.map_congr_left fun k _ => ?_
 rw [suN_snoc, if_neg (by simp [isTp, hs]), Int.add_zero]
theorem mul_bd {a b : Int} (h1 : 0 ≤ a ∧ a ≤ 8) (h2 : 0 ≤ b ∧ b ≤ 36) : 0 ≤ a * b ∧ a * b ≤ 288 := by
 refine ⟨Int.mul_nonneg h1.1 h2.1, ?_⟩
 have := Int.mul_le_mul h1.2 h2.2 h2.1 (by decide)
 omega
theorem rCrushes_sp (s : Sw) (p : Wp) (wa la : Option Addr) (wc lc : Nat) (w : List Nat) (l : List Int) (L : LH) (hs : SwAt L s p) (hok : SOk s) (hwl : IntsAt L wa (natI w)) (hw : WnOk s w) (n1 : w.length ≤ 1000) (hll : IntsAt L la l) (hl1 : l.length = s.loaves.length) (hl8 : ∀ x ∈ l, 0 ≤ x ∧ x ≤ 8) :
  Sp X 136 [swA s p, .slice wa w.length wc, .slice la l.length lc] L (NewInts L (sugarD s (wantsOf s w) l)) := by
 have hl3 := hok.l3
 have hg8 : ∀ k, 0 ≤ l.getD k 0 ∧ l.getD k 0 ≤ 8 := fun k => by
  by_cases hk : k < l.length
  ·rw [List.getD_eq_getElem?_getD, List.getElem?_eq_getElem hk]; exact hl8 _ (List.getElem_mem hk)
  ·rw [List.getD_eq_getElem?_getD, List.getElem?_eq_none (by omega)]; decide
 refine Sp.enter (n := 69) Tryz.func136 rfl rfl rfl rfl fun C hX _ hL0 r => ?_
 refine W.go 99 rfl ?_
 refine W.eff rfl rfl rfl (Ef.makeSlice rfl (by omega) Tryz.underlying23 size3 bytes3 zero3 (by decide) rfl) ?_
 rintro _ _ _ ⟨bn, rfl, rfl, hbn, rfl⟩
 refine W.go 99 rfl ?_
 have hLp := Le.put hbn (.cells (Array.replicate s.loaves.length (.int .i64 0)) 3)
 have h0 : IBlk (L.put bn (.cells (Array.replicate s.loaves.length (.int .i64 0)) 3)) bn (sugar0 s l 0) := by rw [sugar0_0]; exact IBlk.zero
 refine W.loop (fun m E B L' => ∃ j : Nat, m = s.loaves.length - j ∧ j ≤ s.loaves.length ∧ Le L L' ∧ IBlk L' bn (sugar0 s l j) ∧
   E = [(1, .v (.slice wa w.length wc)), (2, .v (.slice la l.length lc)), (3, .p 0 0), (7, .v (.slice (some ⟨bn, 0, none⟩) s.loaves.length s.loaves.length)), (8, .v (.int .i64 j))] ∧ B = [some ⟨cellsS (.v (swA s p)), 26⟩])
  ⟨0, rfl, by omega, hLp, h0, rfl, rfl⟩ (by exact ⟨rfl, rfl, rfl, rfl, rfl, trivial⟩) (by exact ⟨rfl, trivial⟩) ?_
 rintro _ _ _ L1 ⟨j, rfl, hj, hle, hI, rfl, rfl⟩ again
 refine W.go 99 rfl ?_
 refine W.split rfl rfl rfl (fun e1 => W.go 99 rfl ?_) (fun e1 => W.go 99 rfl ?_)
 ·have hjl : j < s.loaves.length := by simpa using e1
  obtain ⟨ll, rfl⟩ := hll.addr (show j < l.length by omega)
  obtain ⟨oa, a, c, hla, hc, hsl, hcp⟩ := has_loaf hs hjl
  have hlf := hok.lf _ (List.getElem_mem hjl)
  have hl4 := hlf.l4
  have hgd : s.loaves.getD j [] = s.loaves[j] := loafAt0 (List.getElem?_eq_getElem hjl)
  have hm := mul_bd (hg8 j) (loaf_sum hok j)
  have hlj : l[j]? = some (l.getD j 0) := by rw [List.getD_eq_getElem?_getD, List.getElem?_eq_getElem (by omega)]; rfl
  have htot := rTotal_sp (X := C.X) a c s.loaves[j] L1 (hsl.le hle) (by omega) fun y hy => by have := hlf.r y hy; omega
  rw [← hgd] at htot hc hsl
  obtain ⟨qa, qb, qc, qd, qe, qf⟩ := p
  obtain rfl : qa = some oa := hla
  refine W.drawn (by kernel_rfl) L hle ?_
  refine DD.run' [0, 1, 2, 3, 6, 7, 8] rfl ?_
  refine DD.vf 4 rfl rfl rfl rfl rfl (Vf.idx1 rfl rfl rfl rfl rfl rfl rfl ((show j < l.length by omega))) ?_
  refine DD.vf 5 rfl rfl rfl rfl rfl (Vf.load rfl rfl rfl (hll.int hlj)) ?_
  refine DD.vf 9 rfl rfl rfl rfl rfl (Vf.idx1 rfl rfl rfl rfl rfl rfl rfl (hjl)) ?_
  refine DD.vf 10 rfl rfl rfl rfl rfl (Vf.load rfl rfl rfl (hc)) ?_
  refine DD.act 11 rfl rfl rfl rfl rfl (Ef.call rfl (htot)) ((by rintro _ _ _ ⟨_, rfl, rfl, rfl, rfl⟩; exact ⟨hle, rfl, .inl rfl⟩)) ?_
  rintro _ _ _ ⟨_, rfl, rfl, rfl, rfl⟩
  refine DD.run' [12] rfl ?_
  rw [wrap64_in _ (by omega) (by omega)]
  refine DD.vf 13 rfl rfl rfl rfl rfl (Vf.idx1 rfl rfl rfl rfl rfl rfl rfl (hjl)) ?_
  refine DD.act 14 rfl rfl rfl rfl rfl (Ef.stoI hI (by rw [sugar0_len]; exact hjl) rfl ⟨_, rfl, rfl⟩) (by rintro _ _ _ ⟨rfl, rfl, _, hk⟩; exact ⟨fun b z hz => by rw [hk b (fun e => by subst e; rw [hbn] at hz; cases hz)]; exact hle _ _ hz, rfl, .inl rfl⟩) ?_
  rintro _ _ L3 ⟨rfl, rfl, hI3, hk3⟩
  rw [sugar0_step hjl] at hI3
  refine .fin rfl ?_
  refine W.go 99 rfl ?_
  exact W.again (again _ _ _ _ (by omega) ⟨j + 1, rfl, by omega, fun b z hz => by rw [hk3 b (fun e => by subst e; rw [hbn] at hz; cases hz)]; exact hle _ _ hz, hI3, rfl, rfl⟩) (by exact ⟨rfl, rfl, rfl, rfl, congrArg some (inc64 (by omega)), trivial⟩) (by exact ⟨rfl, trivial⟩)
 have hje : j = s.loaves.length := by simp at e1; omega
 subst hje
 rw [sugar0_n] at hI
 clear again
 refine W.loop (fun m E B L' => ∃ j : Nat, m = w.length - j ∧ j ≤ w.length ∧ Le L L' ∧ IBlk L' bn (sugarD s (wantsOf s (w.take j)) l) ∧
   E = [(1, .v (.slice wa w.length wc)), (3, .p 0 0), (7, .v (.slice (some ⟨bn, 0, none⟩) s.loaves.length s.loaves.length)), (9, .v (.int .i64 j))] ∧ B = [some ⟨cellsS (.v (swA s p)), 26⟩])
  ⟨0, rfl, by omega, hle, hI, rfl, rfl⟩ (by exact ⟨rfl, rfl, rfl, rfl, trivial⟩) (by exact ⟨rfl, trivial⟩) ?_
 clear hle hI
 rintro _ _ _ L1 ⟨j, rfl, hj, hle, hI, rfl, rfl⟩ again
 refine W.go 99 rfl ?_
 refine W.split rfl rfl rfl (fun e1 => W.go 99 rfl ?_) (fun e1 => W.go 99 rfl ?_)
 ·have hjl : j < w.length := by simpa using e1
  obtain ⟨i, hi, hwj, htk⟩ := wants_take hw hjl
  have hxm := hok.wt _ (List.getElem_mem hi)
  obtain ⟨lad, rfl⟩ := hwl.addr (show j < (natI w).length by rw [natI_len]; exact hjl)
  obtain ⟨wad, hwa⟩ := hs.wt.addr hi
  have hwt := hs.wt
  rw [hwa] at hwt
  have hxi : s.wants[i]? = some s.wants[i] := List.getElem?_eq_getElem hi
  have hb := suN_bd hok (wantsOf s (w.take j))
  have hb2 := wantsOf_len s (w.take j)
  simp only [List.length_take] at hb2
  obtain ⟨qa, qb, qc, qd, qe, qf⟩ := p
  obtain rfl : qc = some wad := hwa
  refine W.drawn (by kernel_rfl) L hle ?_
  refine DD.run' [0, 1, 2, 3, 8] rfl ?_
  refine DD.vf 4 rfl rfl rfl rfl rfl (Vf.idx1 rfl rfl rfl rfl rfl rfl rfl (hjl)) ?_
  refine DD.vf 5 rfl rfl rfl rfl rfl (Vf.load rfl rfl rfl (hwl.int (x := (i : Int)) (by rw [natI_get, hwj]; rfl))) ?_
  refine DD.vf 6 rfl rfl rfl rfl rfl (Vf.idx rfl rfl rfl rfl rfl rfl (hi)) ?_
  refine DD.vf 7 rfl rfl rfl rfl rfl (Vf.loadN rfl rfl rfl (hwt.whole hxi rfl)) ?_
  refine DD.act 9 rfl rfl rfl rfl rfl (Ef.sto rfl) (by rintro _ _ _ ⟨rfl, rfl, rfl⟩; exact ⟨hle, rfl, .inr rfl⟩) ?_
  rintro _ _ L2 ⟨rfl, rfl, rfl⟩
  rename_i L2
  refine .fin rfl ?_
  generalize s.wants[i] = x at *
  refine W.weak (E' := [(1, .v (.slice (some lad) w.length wc)), (3, .p 0 0), (7, .v (.slice (some ⟨bn, 0, none⟩) s.loaves.length s.loaves.length)), (9, .v (.int .i64 j)), (10, .p 1 0)]) (B' := [some ⟨cellsS (.v (swA s ⟨qa, qb, some wad, qd, qe, qf⟩)), 26⟩, some ⟨cellsS (.v (.agg (encWt x).toArray)), 28⟩]) (by exact ⟨rfl, rfl, rfl, rfl, rfl, trivial⟩) (by exact ⟨rfl, rfl, trivial⟩) ?_
  refine W.go 99 rfl ?_
  refine W.split rfl rfl rfl (fun e2 => ?_) (fun e2 => ?_)
  ·have e2' : x.sort = 2 := by simpa using e2
   have hk0 := hxm.k0
   have hk1 := hxm.k1
   simp [wKd, e2'] at hk0
   obtain ⟨kd, hkd⟩ : ∃ kd : Nat, x.kind = kd := ⟨x.kind.toNat, by omega⟩
   have hkl : kd < s.loaves.length := by omega
   have hrw := restW_bd hok x
   have hmb := mul_bd (hg8 kd) (loaf_sum hok kd)
   have hbk := hb kd
   have hbe := rBelow_sp (X := C.X) s ⟨qa, qb, some wad, qd, qe, qf⟩ x L2 (hs.le hle) hok hxm e2'
   have hcell := hI.get (sugarD_get (l := l) hkl)
   refine W.go 99 rfl ?_
   refine W.drawn (by kernel_rfl) noL (noL_le _) ?_
   refine DD.run' [0, 1, 2, 3, 4, 5, 8, 9, 10, 11, 12] rfl ?_
   refine DD.vf 6 rfl rfl rfl rfl rfl (Vf.idx1 rfl rfl rfl rfl rfl rfl hkd hkl) ?_
   have done : ∀ L3, IBlk L3 bn (sugarD s (wantsOf s (w.take (j + 1))) l) → (∀ b', b' ≠ bn → L3 b' = L2 b') → ∀ b z, L b = some z → L3 b = some z := fun L3 _ hk b z hz => by rw [hk b (fun e => by subst e; rw [hbn] at hz; cases hz)]; exact hle _ _ hz
   refine DD.act2 7 13 rfl rfl rfl rfl rfl rfl rfl rfl (Ef.val rfl (Vf.load rfl rfl rfl (by exact hcell))) (Ef.call rfl hbe) (by rintro _ _ _ ⟨rfl, rfl, rfl⟩; exact ⟨noL_le _, rfl, .inl rfl⟩) (by rintro _ _ _ ⟨_, rfl, rfl, rfl, rfl⟩; exact ⟨noL_le _, rfl, .inl rfl⟩) ?_ ?_
   ·rintro _ _ _ ⟨rfl, rfl, hq⟩
    obtain rfl := hq.symm
    refine DD.act 13 rfl rfl rfl rfl rfl (Ef.call rfl (hbe)) ((by rintro _ _ _ ⟨_, rfl, rfl, rfl, rfl⟩; exact ⟨noL_le _, rfl, .inl rfl⟩)) ?_
    rintro _ _ _ ⟨_, rfl, rfl, rfl, rfl⟩
    refine DD.run' [14] rfl ?_
    rw [wrap64_in _ (by omega) (by omega)]
    refine DD.vf 15 rfl rfl rfl rfl rfl (Vf.idx1 rfl rfl rfl rfl rfl rfl hkd hkl) ?_
    refine DD.act 16 rfl rfl rfl rfl rfl (Ef.stoI hI (by rw [sugarD_len]; exact hkl) rfl ⟨_, rfl, rfl⟩) (by rintro _ _ _ ⟨rfl, rfl, _⟩; exact ⟨noL_le _, rfl, .inl rfl⟩) ?_
    rintro _ _ L3 ⟨rfl, rfl, hI3, hk3⟩
    rw [sugarD_step e2' hkd hkl, ← htk] at hI3
    refine .fin rfl ?_
    refine W.go 99 rfl ?_
    exact W.again (again _ _ _ _ (by omega) ⟨j + 1, rfl, by omega, done _ hI3 hk3, hI3, rfl, rfl⟩) (by exact ⟨rfl, rfl, rfl, congrArg some (inc64 (by omega)), trivial⟩) (by exact ⟨rfl, trivial⟩)
   ·rintro _ _ _ ⟨_, rfl, rfl, rfl, hq⟩
    obtain rfl := hq.symm
    refine DD.act 7 rfl rfl rfl rfl rfl (Ef.val rfl (Vf.load rfl rfl rfl (hcell))) (by rintro _ _ _ ⟨rfl, rfl, rfl⟩; exact ⟨noL_le _, rfl, .inl rfl⟩) ?_
    rintro _ _ _ ⟨rfl, rfl, rfl⟩
    refine DD.run' [14] rfl ?_
    rw [wrap64_in _ (by omega) (by omega)]
    refine DD.vf 15 rfl rfl rfl rfl rfl (Vf.idx1 rfl rfl rfl rfl rfl rfl hkd hkl) ?_
    refine DD.act 16 rfl rfl rfl rfl rfl (Ef.stoI hI (by rw [sugarD_len]; exact hkl) rfl ⟨_, rfl, rfl⟩) (by rintro _ _ _ ⟨rfl, rfl, _⟩; exact ⟨noL_le _, rfl, .inl rfl⟩) ?_
    rintro _ _ L3 ⟨rfl, rfl, hI3, hk3⟩
    rw [sugarD_step e2' hkd hkl, ← htk] at hI3
    refine .fin rfl ?_
    refine W.go 99 rfl ?_
    exact W.again (again _ _ _ _ (by omega) ⟨j + 1, rfl, by omega, done _ hI3 hk3, hI3, rfl, rfl⟩) (by exact ⟨rfl, rfl, rfl, congrArg some (inc64 (by omega)), trivial⟩) (by exact ⟨rfl, trivial⟩)
  ·have e2' : x.sort ≠ 2 := by simpa using e2
   refine W.go 99 rfl ?_
   rw [← sugarD_no (xs := wantsOf s (w.take j)) e2', ← htk] at hI
   exact W.again (again _ _ _ _ (by omega) ⟨j + 1, rfl, by omega, hle, hI, rfl, rfl⟩) (by exact ⟨rfl, rfl, rfl, congrArg some (inc64 (by omega)), trivial⟩) (by exact ⟨rfl, trivial⟩)
 ·have hje : j = w.length := by simp at e1; omega
  subst hje
  refine W.ret r rfl rfl ?_
  rw [List.take_length] at hI
  exact ⟨bn, by rw [sugarD_len]; rfl, hbn, hle, hI⟩
end Go.Mz


set_option maxRecDepth 100000
namespace Go.Mz
open Go.Conc Go.Proofs
variable {X : Logic Tryz.prog}
theorem wants_mem {s : Sw} (hok : SOk s) {w : List Nat} {x : Want} (hx : x ∈ wantsOf s w) : WtOk s.loaves x := by
 unfold wantsOf at hx
 obtain ⟨i, _, hi⟩ := List.mem_filterMap.1 hx
 exact hok.wt x (List.mem_of_getElem? hi)
theorem suN_far {s : Sw} (hok : SOk s) (w : List Nat) {k : Nat} (hk : s.loaves.length ≤ k) : suN s (wantsOf s w) k = 0 := by
 unfold suN
 rw [List.filter_eq_nil_iff.2]
 ·rfl
 ·intro x hx h
  have hw := wants_mem hok hx
  simp [isTp] at h
  have := hw.k1
  omega
theorem any_on {α : Type} {f g : α → Bool} : ∀ {l : List α}, (∀ k ∈ l, f k = g k) → l.any f = l.any g
 | [], _ => rfl
 | x :: l, h => by rw [List.any_cons, List.any_cons, h x List.mem_cons_self, any_on fun k hk => h k (List.mem_cons_of_mem _ hk)]
theorem tksN_du (k : Nat) (xs : List Want) : tksN (k : Int) xs = duN xs k := by
 unfold tksN duN
 congr 2
theorem tksN_all : ∀ {xs : List Want}, (∀ x ∈ xs, InP x) → tksN (-1) xs = duN xs 0 + duN xs 1 + duN xs 2 + anN xs
 | [], _ => rfl
 | x :: xs, h => by
  have ih := tksN_all fun y hy => h y (List.mem_cons_of_mem _ hy)
  have hx := (h x List.mem_cons_self).k
  rw [duN_cons, duN_cons, duN_cons, anN_cons]
  have ht : tksN (-1) (x :: xs) = tksN (-1) xs + if isTks (-1) x then x.amount else 0 := by
   unfold tksN
   rw [List.filter_cons]
   split
   ·rw [List.map_cons, sumL_cons]; omega
   ·omega
  rw [ht, ih]
  by_cases hs : x.sort = 1
  ·rcases hx with e | e | e | ⟨e, _⟩ <;> simp [isTks, isDu, isAny, hs, e] <;> omega
  ·simp [isTks, isDu, isAny, hs]
theorem sugarD_sum {s : Sw} (hok : SOk s) (w : List Nat) (l : List Int) : sumL (sugarD s (wantsOf s w) l) = sumL (planW s w l).s := by
 rw [planW_eq hok, sum3]
 have h1 := hok.l1
 have h3 := hok.l3
 have h0 := suN_far hok w (k := 0)
 have h4 := suN_far hok w (k := 1)
 have h5 := suN_far hok w (k := 2)
 have : s.loaves.length = 1 ∨ s.loaves.length = 2 ∨ s.loaves.length = 3 := by omega
 rcases this with e | e | e
 all_goals
  rw [e] at h0 h4 h5
  simp [sugarD, e, lfN, List.range_succ, sumL] at h4 h5 ⊢
  omega
theorem over_eq {s : Sw} (hok : SOk s) (w : List Nat) (l : List Int) : sumL (sugarD s (wantsOf s w) l) - tksN (-1) (wantsOf s w) = leftW (planW s w l) := by
 unfold leftW
 rw [sugarD_sum hok, tksN_all hok.inp, planW_eq hok]
 simp only [sum3]
 omega
theorem right_eq {s : Sw} (hok : SOk s) (w : List Nat) (l : List Int) : rightW s (planW s w l) =
  if (List.range s.loaves.length).any (fun k => decide (s.stock.getD k 0 < tkN (wantsOf s w) k + l.getD k 0)) then 12 else
  if (List.range s.loaves.length).any (fun k => decide (l.getD k 0 * sumL (s.loaves.getD k []) + suN s (wantsOf s w) k < tksN k (wantsOf s w))) then 9 else
  if sumL (sugarD s (wantsOf s w) l) < tksN (-1) (wantsOf s w) then 9 else 0 := by
 have hst := hok.st
 have h3 := hok.l3
 have ho := over_eq hok w l
 unfold rightW
 rw [hst]
 have e1 : (List.range s.loaves.length).any (fun k => decide (s.stock.getD k 0 < (planW s w l).t.getD k 0)) = (List.range s.loaves.length).any (fun k => decide (s.stock.getD k 0 < tkN (wantsOf s w) k + l.getD k 0)) := by
  refine any_on fun k hk => ?_
  have hk := List.mem_range.1 hk
  rw [planW_eq hok, rng3_get (by omega)]
  unfold lfN
  rw [if_pos hk]
 have e2 : (List.range s.loaves.length).any (fun k => decide ((planW s w l).s.getD k 0 < (planW s w l).d.getD k 0)) = (List.range s.loaves.length).any (fun k => decide (l.getD k 0 * sumL (s.loaves.getD k []) + suN s (wantsOf s w) k < tksN k (wantsOf s w))) := by
  refine any_on fun k hk => ?_
  have hk := List.mem_range.1 hk
  rw [planW_eq hok, rng3_get (by omega), rng3_get (by omega), tksN_du]
  unfold lfN
  rw [if_pos hk, Int.add_comm]
 rw [e1, e2, ← ho]
 congr 2
 by_cases h : sumL (sugarD s (wantsOf s w) l) < tksN (-1) (wantsOf s w)
 ·rw [if_pos h, if_pos (by omega)]
 ·rw [if_neg h, if_neg (by omega)]
theorem getD_some {l : List Int} {k : Nat} (h : k < l.length) : l[k]? = some (l.getD k 0) := by rw [List.getD_eq_getElem?_getD, List.getElem?_eq_getElem h]; rfl
theorem sugarD_bd {s : Sw} (hok : SOk s) (xs : List Want) {l : List Int} (hg8 : ∀ k, 0 ≤ l.getD k 0 ∧ l.getD k 0 ≤ 8) (hx : xs.length ≤ 100) : ∀ y ∈ sugarD s xs l, 0 ≤ y ∧ y ≤ (4000 : Nat) := by
 intro y hy
 obtain ⟨k, _, rfl⟩ := List.mem_map.1 hy
 have h1 := suN_bd hok xs k
 have h2 := mul_bd (hg8 k) (loaf_sum hok k)
 omega
theorem getD8 {l : List Int} (h : ∀ x ∈ l, 0 ≤ x ∧ x ≤ 8) (k : Nat) : 0 ≤ l.getD k 0 ∧ l.getD k 0 ≤ 8 := by
 by_cases hk : k < l.length
 ·rw [List.getD_eq_getElem?_getD, List.getElem?_eq_getElem hk]; exact h _ (List.getElem_mem hk)
 ·rw [List.getD_eq_getElem?_getD, List.getElem?_eq_none (by omega)]; decide
structure PlnAt (L : LH) (s : Sw) (p : Wp) (wa : Option Addr) (w : List Nat) (la : Option Addr) (l : List Int) : Prop where
 sw : SwAt L s p
 w : IntsAt L wa (natI w)
 l : IntsAt L la l
structure PlnOk (s : Sw) (w : List Nat) (l : List Int) : Prop where
 ok : SOk s
 wn : WnOk s w
 n : w.length ≤ 100
 l1 : l.length = s.loaves.length
 l8 : ∀ x ∈ l, 0 ≤ x ∧ x ≤ 8
theorem PlnAt.le {L L' : LH} {s : Sw} {p : Wp} {wa : Option Addr} {w : List Nat} {la : Option Addr} {l : List Int} (h : PlnAt L s p wa w la l) (hl : Le L L') : PlnAt L' s p wa w la l := ⟨h.sw.le hl, h.w.le hl, h.l.le hl⟩
theorem rOver_sp (s : Sw) (p : Wp) (wa la : Option Addr) (wc lc : Nat) (w : List Nat) (l : List Int) (L : LH) (h : PlnAt L s p wa w la l) (ho : PlnOk s w l) :
  Sp X 110 [swA s p, .slice wa w.length wc, .slice la l.length lc] L (fun v L' => v = .int .i64 (leftW (planW s w l)) ∧ Le L L') := by
 have n1 := ho.n
 have n2 := ho.l1
 have hl3 := ho.ok.l3
 have hw5 := wantsOf_len s w
 rw [← over_eq ho.ok]
 have hb1 := sumL_bk 4000 _ (sugarD_bd ho.ok (wantsOf s w) (getD8 ho.l8) (by omega))
 rw [sugarD_len] at hb1
 have hb2 := tksN_bd ho.ok (-1) w
 refine Sp.enter (n := 16) Tryz.func110 rfl rfl rfl rfl fun C hX _ hL0 r => ?_
 refine W.go 99 rfl ?_
 refine W.drawn (by kernel_rfl) _ (Le.refl _) ?_
 refine DD.run' [0, 1, 2, 5, 6] rfl ?_
 refine DD.act 3 rfl rfl rfl rfl rfl (Ef.call rfl ((rCrushes_sp s p wa la wc lc w l L h.sw ho.ok h.w ho.wn (by omega) h.l n2 ho.l8))) ((by rintro _ _ _ ⟨_, rfl, rfl, _, rfl, _, hl, _⟩; exact ⟨hl, rfl, .inl rfl⟩)) ?_
 rintro _ _ _ ⟨v1, rfl, rfl, b1, rfl, hb, hle, hI⟩
 rename_i L1
 refine DD.act 4 rfl rfl rfl rfl rfl (Ef.call rfl ((rTotal_sp (some ⟨b1, 0, none⟩) _ _ L1 hI.ints (by rw [sugarD_len]; omega) (sugarD_bd ho.ok (wantsOf s w) (getD8 ho.l8) (by omega))))) ((by rintro _ _ _ ⟨_, rfl, rfl, rfl, rfl⟩; exact ⟨hle, rfl, .inl rfl⟩)) ?_
 rintro _ _ _ ⟨_, rfl, rfl, rfl, rfl⟩
 refine DD.act 7 rfl rfl rfl rfl rfl (Ef.call rfl ((rTakes_sp s p wa wc w (-1) L1 (h.sw.le hle) ho.ok (h.w.le hle) ho.wn (by omega)))) ((by rintro _ _ _ ⟨_, rfl, rfl, rfl, rfl⟩; exact ⟨hle, rfl, .inl rfl⟩)) ?_
 rintro _ _ _ ⟨_, rfl, rfl, rfl, rfl⟩
 refine DD.run' [8, 9] rfl ?_
 refine .fin rfl ?_
 refine W.go 99 rfl ?_
 refine W.ret r rfl rfl ?_
 refine ⟨?_, hle⟩
 show Value.int .i64 (IntKind.i64.wrap (sumL (sugarD s (wantsOf s w) l) - tksN (-1) (wantsOf s w))) = _
 rw [wrap64_in _ (by omega) (by omega)]
theorem rRight_sp (s : Sw) (p : Wp) (wa la : Option Addr) (wc lc : Nat) (w : List Nat) (l : List Int) (L : LH) (h : PlnAt L s p wa w la l) (ho : PlnOk s w l) :
  Sp X 112 [swA s p, .slice wa w.length wc, .slice la l.length lc] L (fun v L' => v = .int .i64 (rightW s (planW s w l)) ∧ Le L L') := by
 have n1 := ho.n
 have n2 := ho.l1
 have hok := ho.ok
 have hl3 := hok.l3
 have hst := hok.st
 have hw5 := wantsOf_len s w
 rw [right_eq hok]
 have hb1 := sumL_bk 4000 _ (sugarD_bd ho.ok (wantsOf s w) (getD8 ho.l8) (by omega))
 rw [sugarD_len] at hb1
 have hb2 := tksN_bd ho.ok (-1) w
 refine Sp.enter (n := 60) Tryz.func112 rfl rfl rfl rfl fun C hX _ hL0 r => ?_
 refine W.go 99 rfl ?_
 refine W.drawn (by kernel_rfl) _ (Le.refl _) ?_
 refine DD.run' [0, 1, 3, 4, 5] rfl ?_
 refine DD.act 2 rfl rfl rfl rfl rfl (Ef.call rfl ((rTaken_sp s p wa wc w L h.sw hok h.w ho.wn (by omega)))) ((by rintro _ _ _ ⟨_, rfl, rfl, _, rfl, _, hl, _⟩; exact ⟨hl, rfl, .inl rfl⟩)) ?_
 rintro _ _ _ ⟨v1, rfl, rfl, b1, rfl, hbn1, hle1, hI1⟩
 rename_i L1
 refine DD.act 6 rfl rfl rfl rfl rfl (Ef.call rfl ((rCrushes_sp s p wa la wc lc w l L1 (h.sw.le hle1) ho.ok (h.w.le hle1) ho.wn (by omega) (h.l.le hle1) n2 ho.l8))) ((by rintro _ _ _ ⟨_, rfl, rfl, _, rfl, _, hl, _⟩; exact ⟨hle1.trans hl, rfl, .inl rfl⟩)) ?_
 rintro _ _ _ ⟨v2, rfl, rfl, b2, rfl, hbn2, hle2, hI2⟩
 rename_i L2
 have hle := hle1.trans hle2
 have hI1 : IBlk L2 b1 (takenD s (wantsOf s w)) := hle2 _ _ hI1
 have h2 := h.le hle
 refine DD.run' [7, 8] rfl ?_
 refine .fin rfl ?_
 refine W.go 99 rfl ?_
 rw [takenD_len, sugarD_len]
 have hsa := h2.sw.st
 have hll := h2.l
 refine W.loop (fun m E B L' => ∃ k : Nat, m = s.loaves.length - k ∧ k ≤ s.loaves.length ∧ L2 = L' ∧ (List.range k).any (fun k => decide (s.stock.getD k 0 < tkN (wantsOf s w) k + l.getD k 0)) = false ∧
   E = [(1, .v (.slice wa w.length wc)), (2, .v (.slice la l.length lc)), (3, .p 0 0), (7, .v (.slice (some ⟨b1, 0, none⟩) s.loaves.length s.loaves.length)), (8, .v (.slice (some ⟨b2, 0, none⟩) s.loaves.length s.loaves.length)), (9, .v (.int .i64 k))] ∧ B = [some ⟨cellsS (.v (swA s p)), 26⟩])
  ⟨0, rfl, by omega, rfl, rfl, rfl, rfl⟩ (by exact ⟨rfl, rfl, rfl, rfl, rfl, rfl, trivial⟩) (by exact ⟨rfl, trivial⟩) ?_
 rintro _ _ _ _ ⟨k, rfl, hk, rfl, hno, rfl, rfl⟩ again
 refine W.go 99 rfl ?_
 refine W.split rfl rfl rfl (fun e1 => W.go 99 rfl ?_) (fun e1 => W.go 99 rfl ?_)
 ·have hkl : k < s.loaves.length := by simpa using e1
  obtain ⟨lad, rfl⟩ := hll.addr (show k < l.length by omega)
  obtain ⟨sad, hse⟩ := hsa.addr (show k < s.stock.length by omega)
  rw [hse] at hsa
  have ht := tkN_bd (wantsOf s w) k
  have hlk := getD8 ho.l8 k
  obtain ⟨qa, qb, qc, qd, qe, qf⟩ := p
  obtain rfl : qb = some sad := hse
  refine W.drawn (by kernel_rfl) _ (Le.refl _) ?_
  refine DD.run' [0, 1, 4, 5, 9, 10, 11] rfl ?_
  refine DD.vf 2 rfl rfl rfl rfl rfl (Vf.idx1 rfl rfl rfl rfl rfl rfl rfl (hkl)) ?_
  refine DD.vf 3 rfl rfl rfl rfl rfl (Vf.load rfl rfl rfl (hI1.get (takenD_get hkl))) ?_
  refine DD.vf 6 rfl rfl rfl rfl rfl (Vf.idx1 rfl rfl rfl rfl rfl rfl rfl ((show k < l.length by omega))) ?_
  refine DD.vf 7 rfl rfl rfl rfl rfl (Vf.load rfl rfl rfl (hll.int (getD_some (by omega)))) ?_
  refine DD.run' [8] rfl ?_
  rw [wrap64_in _ (by omega) (by omega)]
  refine DD.vf 12 rfl rfl rfl rfl rfl (Vf.idx1 rfl rfl rfl rfl rfl rfl rfl ((show k < s.stock.length by omega))) ?_
  refine DD.vf 13 rfl rfl rfl rfl rfl (Vf.load rfl rfl rfl (hsa.int (getD_some (by omega)))) ?_
  refine DD.run' [14] rfl ?_
  refine .fin rfl ?_
  refine W.go 99 rfl ?_
  refine W.split rfl rfl rfl (fun e2 => W.go 99 rfl ?_) (fun e2 => W.go 99 rfl ?_)
  ·refine W.ret r rfl rfl ?_
   rw [if_pos (List.any_eq_true.2 ⟨k, List.mem_range.2 hkl, by simpa using e2⟩)]
   exact ⟨rfl, hle⟩
  ·exact W.again (again _ _ _ _ (by omega) ⟨k + 1, rfl, by omega, rfl, by rw [List.range_succ, List.any_append, hno]; simpa using e2, rfl, rfl⟩) (by exact ⟨rfl, rfl, rfl, rfl, rfl, congrArg some (inc64 (by omega)), trivial⟩) (by exact ⟨rfl, trivial⟩)
 have hke : k = s.loaves.length := by simp at e1; omega
 subst hke
 have hno1 := hno
 clear again hno
 rw [if_neg (by rw [hno1]; decide)] at r
 refine W.loop (fun m E B L' => ∃ k : Nat, m = s.loaves.length - k ∧ k ≤ s.loaves.length ∧ L2 = L' ∧ (List.range k).any (fun k => decide (l.getD k 0 * sumL (s.loaves.getD k []) + suN s (wantsOf s w) k < tksN k (wantsOf s w))) = false ∧
   E = [(1, .v (.slice wa w.length wc)), (3, .p 0 0), (8, .v (.slice (some ⟨b2, 0, none⟩) s.loaves.length s.loaves.length)), (10, .v (.int .i64 k))] ∧ B = [some ⟨cellsS (.v (swA s p)), 26⟩])
  ⟨0, rfl, by omega, rfl, rfl, rfl, rfl⟩ (by exact ⟨rfl, rfl, rfl, rfl, trivial⟩) (by exact ⟨rfl, trivial⟩) ?_
 rintro _ _ _ _ ⟨k, rfl, hk, rfl, hno, rfl, rfl⟩ again
 refine W.go 99 rfl ?_
 refine W.split rfl rfl rfl (fun e1 => W.go 99 rfl ?_) (fun e1 => W.go 99 rfl ?_)
 ·have hkl : k < s.loaves.length := by simpa using e1
  refine W.drawn (by kernel_rfl) _ (Le.refl _) ?_
  refine DD.run' [0, 1, 4, 5, 6] rfl ?_
  refine DD.vf 2 rfl rfl rfl rfl rfl (Vf.idx1 rfl rfl rfl rfl rfl rfl rfl (hkl)) ?_
  refine DD.vf 3 rfl rfl rfl rfl rfl (Vf.load rfl rfl rfl (hI2.get (sugarD_get hkl))) ?_
  refine DD.act 7 rfl rfl rfl rfl rfl (Ef.call rfl (rTakes_sp s p wa wc w k L2 h2.sw hok h2.w ho.wn (by omega))) (by rintro _ _ _ ⟨_, rfl, rfl, rfl, rfl⟩; exact ⟨Le.refl _, rfl, .inl rfl⟩) ?_
  rintro _ _ _ ⟨_, rfl, rfl, rfl, rfl⟩
  refine DD.run' [8] rfl ?_
  refine .fin rfl ?_
  refine W.go 99 rfl ?_
  refine W.split rfl rfl rfl (fun e2 => W.go 99 rfl ?_) (fun e2 => W.go 99 rfl ?_)
  ·refine W.ret r rfl rfl ?_
   rw [if_pos (List.any_eq_true.2 ⟨k, List.mem_range.2 hkl, by simpa using e2⟩)]
   exact ⟨rfl, hle⟩
  ·exact W.again (again _ _ _ _ (by omega) ⟨k + 1, rfl, by omega, rfl, by rw [List.range_succ, List.any_append, hno]; simpa using e2, rfl, rfl⟩) (by exact ⟨rfl, rfl, rfl, congrArg some (inc64 (by omega)), trivial⟩) (by exact ⟨rfl, trivial⟩)
 have hke : k = s.loaves.length := by simp at e1; omega
 subst hke
 rw [if_neg (by rw [hno]; decide)] at r
 clear again
 refine W.drawn (by kernel_rfl) _ (Le.refl _) ?_
 refine DD.run' [0, 2, 3] rfl ?_
 have htot := rTotal_sp (X := C.X) (some ⟨b2, 0, none⟩) s.loaves.length _ L2 hI2.ints (by rw [sugarD_len]; omega) (sugarD_bd ho.ok (wantsOf s w) (getD8 ho.l8) (by omega))
 rw [sugarD_len] at htot
 refine DD.act 1 rfl rfl rfl rfl rfl (Ef.call rfl (htot)) (by rintro _ _ _ ⟨_, rfl, rfl, rfl, rfl⟩; exact ⟨Le.refl _, rfl, .inl rfl⟩) ?_
 rintro _ _ _ ⟨_, rfl, rfl, rfl, rfl⟩
 refine DD.act 4 rfl rfl rfl rfl rfl (Ef.call rfl (rTakes_sp s p wa wc w (-1) L2 h2.sw hok h2.w ho.wn (by omega))) (by rintro _ _ _ ⟨_, rfl, rfl, rfl, rfl⟩; exact ⟨Le.refl _, rfl, .inl rfl⟩) ?_
 rintro _ _ _ ⟨_, rfl, rfl, rfl, rfl⟩
 refine DD.run' [5] rfl ?_
 refine .fin rfl ?_
 refine W.go 99 rfl ?_
 refine W.split rfl rfl rfl (fun e2 => W.go 99 rfl ?_) (fun e2 => W.go 99 rfl ?_)
 ·refine W.ret r rfl rfl ?_
  rw [if_pos (by simpa using e2)]
  exact ⟨rfl, hle⟩
 ·refine W.ret r rfl rfl ?_
  rw [if_neg (by simpa using e2)]
  exact ⟨rfl, hle⟩
end Go.Mz


set_option maxRecDepth 100000
namespace Go.Mz
open Go.Conc Go.Proofs
variable {X : Logic Tryz.prog}
theorem rIsWant_sp (s : Sw) (p : Wp) (k : Int) (L : LH) (hn : s.wants.length ≤ 1000) : Sp X 125 [swA s p, .int .i64 k] L (fun v L' => v = .bool (inB k 0 ((s.wants.length : Int) - 1)) ∧ L = L') := by
 have hw1 : IntKind.i64.wrap ((s.wants.length : Int) - 1) = (s.wants.length : Int) - 1 := wrap64_in _ (by omega) (by omega)
 refine Sp.enter (n := 11) Tryz.func125 rfl rfl rfl rfl fun C hX _ hL0 r => ?_
 refine W.go 99 rfl ?_
 rw [hw1]
 refine W.eff rfl rfl rfl (Ef.call rfl (rInside_sp _ _ _ _)) ?_
 rintro _ _ _ ⟨_, rfl, rfl, rfl, rfl⟩
 refine W.go 99 rfl ?_
 exact W.ret r rfl rfl ⟨rfl, rfl⟩
theorem rCheckWants_sp (s : Sw) (p : Wp) (ad : Option Addr) (c : Nat) (l : List Int) (L : LH) (hn : s.wants.length ≤ 1000) (hl : IntsAt L ad l) (n1 : l.length ≤ 1000000) : Sp X 90 [swA s p, .slice ad l.length c] L (fun v L' => v = .int .i64 (readW s l) ∧ L = L') := by
 refine Sp.enter (n := 33) Tryz.func90 rfl rfl rfl rfl fun C hX _ hL0 r => ?_
 refine W.go 99 rfl ?_
 refine W.loop (fun m E B L' => ∃ (i : Nat), m = l.length - i ∧ i ≤ l.length ∧ readGo ((s.wants.length : Int) - 1) (prevO l i) (l.drop i) = readW s l ∧ L = L' ∧
   E = [(1, .v (.slice ad l.length c)), (2, .p 0 0), (5, .v (.int .i64 i))] ∧ B = [some ⟨cellsS (.v (swA s p)), 26⟩])
  ⟨0, rfl, by omega, rfl, rfl, rfl, rfl⟩ (by exact ⟨rfl, rfl, rfl, trivial⟩) (by exact ⟨rfl, trivial⟩) ?_
 rintro _ _ _ _ ⟨i, rfl, h1, hg, rfl, rfl, rfl⟩ again
 refine W.go 99 rfl ?_
 refine W.split rfl rfl rfl (fun e1 => W.go 99 rfl ?_) (fun e1 => W.go 99 rfl ?_)
 ·have hi : i < l.length := by simpa using e1
  obtain ⟨lad, rfl⟩ := hl.addr hi
  rw [List.drop_eq_getElem_cons hi, readGo] at hg
  refine W.drawn (by kernel_rfl) _ (Le.refl _) ?_
  refine DD.run' [0, 1, 2] rfl ?_
  refine DD.vf 3 rfl rfl rfl rfl rfl (Vf.idx1 rfl rfl rfl rfl rfl rfl rfl (hi)) ?_
  refine DD.vf 4 rfl rfl rfl rfl rfl (Vf.load rfl rfl rfl (hl.int (List.getElem?_eq_getElem hi))) ?_
  refine DD.act 5 rfl rfl rfl rfl rfl (Ef.call rfl (rIsWant_sp s p l[i] L hn)) (by rintro _ _ _ ⟨_, rfl, rfl, rfl, rfl⟩; exact ⟨Le.refl _, rfl, .inl rfl⟩) ?_
  rintro _ _ _ ⟨_, rfl, rfl, rfl, rfl⟩
  refine DD.run' [6] rfl ?_
  refine .fin rfl ?_
  refine W.go 99 rfl ?_
  refine W.split rfl rfl rfl (fun e2 => W.go 99 rfl ?_) (fun e2 => W.go 99 rfl ?_)
  ·exact W.ret r rfl rfl ⟨by rw [← hg, if_pos (by simpa using e2)]; rfl, rfl⟩
  rw [if_neg (by simpa using e2)] at hg
  refine W.drawn (by kernel_rfl) _ (Le.refl _) ?_
  refine DD.run' [0, 1, 2] rfl ?_
  refine DD.split 21 rfl (fun e3 => ?_) (fun e3 => ?_)
  ·have hi0 : 0 < i := by simpa using e3
   have hp : prevO l i = some l[i - 1] := by unfold prevO; rw [if_neg (by omega)]; exact List.getElem?_eq_getElem (by omega)
   rw [hp] at hg
   have hw : IntKind.i64.wrap ((i : Int) - 1) = ((i - 1 : Nat) : Int) := by rw [wrap64_in _ (by omega) (by omega)]; omega
   refine DD.run' [3, 4, 7, 8, 9] rfl ?_
   rw [hw]
   refine DD.vf 5 rfl rfl rfl rfl rfl (Vf.idx1 rfl rfl rfl rfl rfl rfl rfl (hi)) ?_
   refine DD.vf 6 rfl rfl rfl rfl rfl (Vf.load rfl rfl rfl (hl.int (List.getElem?_eq_getElem hi))) ?_
   refine DD.vf 10 rfl rfl rfl rfl rfl (Vf.idx1 rfl rfl rfl rfl rfl rfl rfl ((show i - 1 < l.length by omega))) ?_
   refine DD.vf 11 rfl rfl rfl rfl rfl (Vf.load rfl rfl rfl (hl.int (List.getElem?_eq_getElem (show i - 1 < l.length by omega)))) ?_
   refine DD.run' [12, 13] rfl ?_
   refine .fin rfl ?_
   refine W.go 99 rfl ?_
   refine W.split rfl rfl rfl (fun e4 => W.go 99 rfl ?_) (fun e4 => W.go 99 rfl ?_)
   ·exact W.ret r rfl rfl ⟨by rw [← hg, if_pos (by simpa [downB] using e4)]; rfl, rfl⟩
   ·rw [if_neg (by simpa [downB] using e4)] at hg
    exact W.again (again _ _ _ _ (by omega) ⟨i + 1, rfl, by omega, by rw [prevO_succ hi]; exact hg, rfl, rfl, rfl⟩) ⟨rfl, rfl, congrArg some (inc64 (by omega)), trivial⟩ (by exact ⟨rfl, trivial⟩)
  ·have hi0 : i = 0 := by simp at e3; omega
   subst hi0
   refine DD.run' [3, 4, 5, 6, 7, 8, 9, 10, 11, 12, 13] rfl ?_
   refine .fin rfl ?_
   refine W.go 99 rfl ?_
   exact W.again (again _ _ _ _ (by omega) ⟨1, rfl, by omega, by rw [prevO_succ hi]; exact hg, rfl, rfl, rfl⟩) ⟨rfl, rfl, congrArg some (inc64 (by omega)), trivial⟩ (by exact ⟨rfl, trivial⟩)
 ·exact W.ret r rfl rfl ⟨by rw [← hg, List.drop_of_length_le (by simp at e1; omega)]; rfl, rfl⟩
def crushedE (s : Sw) (l : List Int) : Int := if sizedE l.length s.loaves.length s.loaves.length ≠ 0 then sizedE l.length s.loaves.length s.loaves.length else heapE l
theorem rCheckCrushed_sp (s : Sw) (p : Wp) (ad : Option Addr) (c : Nat) (l : List Int) (L : LH) (hl : IntsAt L ad l) (n1 : l.length ≤ 1000000) : Sp X 111 [swA s p, .slice ad l.length c] L (fun v L' => v = .int .i64 (crushedE s l) ∧ L = L') := by
 refine Sp.enter (n := 30) Tryz.func111 rfl rfl rfl rfl fun C hX _ hL0 r => ?_
 refine W.go 99 rfl ?_
 refine W.split rfl rfl rfl (fun c1 => W.go 99 rfl ?_) (fun c1 => W.go 99 rfl ?_)
 ·have h1 : sizedE l.length s.loaves.length s.loaves.length = 7 := by unfold sizedE; rw [if_pos (by simpa using c1)]
  exact W.ret r rfl rfl ⟨by unfold crushedE; rw [h1, if_pos (by decide)]; rfl, rfl⟩
 refine W.split rfl rfl rfl (fun c2 => W.go 99 rfl ?_) (fun c2 => W.go 99 rfl ?_)
 ·have h1 : sizedE l.length s.loaves.length s.loaves.length = 6 := by unfold sizedE; rw [if_neg (by simpa using c1), if_pos (by simpa using c2)]
  exact W.ret r rfl rfl ⟨by unfold crushedE; rw [h1, if_pos (by decide)]; rfl, rfl⟩
 have h1 : sizedE l.length s.loaves.length s.loaves.length = 0 := by unfold sizedE; rw [if_neg (by simpa using c1), if_neg (by simpa using c2)]
 have base : crushedE s l = heapE l := by unfold crushedE; rw [h1, if_neg (by decide)]
 rw [base] at r
 refine W.loop (fun m E B L' => ∃ (i : Nat), m = l.length - i ∧ i ≤ l.length ∧ heapE (l.drop i) = heapE l ∧ L = L' ∧ E = [(1, .v (.slice ad l.length c)), (5, .v (.int .i64 i))] ∧ B = [])
  ⟨0, rfl, by omega, rfl, rfl, rfl, rfl⟩ (by exact ⟨rfl, rfl, trivial⟩) trivial ?_
 rintro _ _ _ _ ⟨i, rfl, h1, hg, rfl, rfl, rfl⟩ again
 refine W.go 99 rfl ?_
 refine W.split rfl rfl rfl (fun e1 => W.go 99 rfl ?_) (fun e1 => W.go 99 rfl ?_)
 ·have hi : i < l.length := by simpa using e1
  obtain ⟨lad, rfl⟩ := hl.addr hi
  rw [List.drop_eq_getElem_cons hi, heapE] at hg
  refine W.vf rfl rfl rfl rfl (Vf.idx1 rfl rfl rfl rfl rfl rfl rfl (hi)) ?_
  refine W.go 99 rfl ?_
  refine W.vf rfl rfl rfl rfl (Vf.load rfl rfl rfl (hl.int (List.getElem?_eq_getElem hi))) ?_
  refine W.go 99 rfl ?_
  refine W.eff rfl rfl rfl (Ef.call rfl (rInside_sp _ _ _ _)) ?_
  rintro _ _ _ ⟨_, rfl, rfl, rfl, rfl⟩
  refine W.go 99 rfl ?_
  refine W.split rfl rfl rfl (fun e2 => W.go 99 rfl ?_) (fun e2 => W.go 99 rfl ?_)
  ·exact W.ret r rfl rfl ⟨by rw [← hg, if_pos (by simpa using e2)]; rfl, rfl⟩
  ·rw [if_neg (by simpa using e2)] at hg
   exact W.again (again _ _ _ _ (by omega) ⟨i + 1, rfl, by omega, hg, rfl, rfl, rfl⟩) ⟨rfl, congrArg some (inc64 (by omega)), trivial⟩ trivial
 ·exact W.ret r rfl rfl ⟨by rw [← hg, List.drop_of_length_le (by simp at e1; omega)]; rfl, rfl⟩
theorem askW_eq (s : Sw) (w l : List Int) : askW s w l = if sawE s ≠ 0 then sawE s else if readW s w ≠ 0 then readW s w else if crushedE s l ≠ 0 then crushedE s l else rightW s (planW s (natsW w) l) := by
 unfold askW crushedE
 by_cases h1 : sawE s = 0
 ·by_cases h2 : readW s w = 0
  ·by_cases h3 : sizedE l.length s.loaves.length s.loaves.length = 0
   ·simp [h1, h2, h3]
   ·simp [h1, h2, h3]
  ·simp [h1, h2]
 ·simp [h1]
theorem plan_ok {s : Sw} {w l : List Int} (h0 : sawE s = 0) (h1 : readW s w = 0) (h2 : crushedE s l = 0) : PlnOk s (natsW w) l ∧ natI (natsW w) = w ∧ (natsW w).length = w.length ∧ ∀ x ∈ l, 0 ≤ x ∧ x ≤ 4 := by
 have hok := sawE_0 h0
 obtain ⟨ha, hb, hc⟩ := read_asc h1
 have hs : sizedE l.length s.loaves.length s.loaves.length = 0 := by
  unfold crushedE at h2
  split at h2
  ·rename_i h; exact absurd h2 h
  ·rename_i h; simpa using h
 have hh : heapE l = 0 := by
  unfold crushedE at h2
  rwa [if_neg (by simp [hs])] at h2
 rw [sizedE_0] at hs
 have hw5 := hok.w5
 have hlen : (natsW w).length ≤ 5 := by
  have := bits5_mask ha fun x hx => Nat.lt_of_lt_of_le (hb x hx) hw5
  rw [← this]; exact bits5_len _
 refine ⟨⟨hok, hb, by omega, by omega, fun x hx => by have := heapE_0 hh x hx; omega⟩, hc, by unfold natsW; simp, heapE_0 hh⟩
theorem rRightX_sp (s : Sw) (p : Wp) (wa la : Option Addr) (wc lc : Nat) (w l : List Int) (L : LH) (h : SwAt L s p) (hn : Sm s) (h1 : IntsAt L wa w) (h2 : IntsAt L la l) (n1 : w.length ≤ 1000000) (n2 : l.length ≤ 1000000) :
  Sp X 51 [swA s p, .slice wa w.length wc, .slice la l.length lc] L (fun v L' => v = .int .i64 (askW s w l) ∧ Le L L') := by
 rw [askW_eq]
 refine Sp.enter (n := 31) Tryz.func51 rfl rfl rfl rfl fun C hX _ hL0 r => ?_
 refine W.go 99 rfl ?_
 refine W.eff rfl rfl rfl (Ef.call rfl (rCheck_sp s p L h hn)) ?_
 rintro _ _ _ ⟨_, rfl, rfl, rfl, rfl⟩
 refine W.go 99 rfl ?_
 refine W.split rfl rfl rfl (fun c1 => W.go 99 rfl ?_) (fun c1 => W.go 99 rfl ?_)
 ·have c1' : sawE s ≠ 0 := by simpa using c1
  refine W.ret r rfl rfl ?_
  rw [if_pos c1']
  exact ⟨rfl, Le.refl _⟩
 have h0 : sawE s = 0 := by simpa using c1
 refine W.eff rfl rfl rfl (Ef.call rfl (rCheckWants_sp s p wa wc w L hn.hw h1 n1)) ?_
 rintro _ _ _ ⟨_, rfl, rfl, rfl, rfl⟩
 refine W.go 99 rfl ?_
 refine W.split rfl rfl rfl (fun c2 => W.go 99 rfl ?_) (fun c2 => W.go 99 rfl ?_)
 ·have c2' : readW s w ≠ 0 := by simpa using c2
  refine W.ret r rfl rfl ?_
  rw [if_neg (by simp [h0]), if_pos c2']
  exact ⟨rfl, Le.refl _⟩
 have hr : readW s w = 0 := by simpa using c2
 refine W.eff rfl rfl rfl (Ef.call rfl (rCheckCrushed_sp s p la lc l L h2 n2)) ?_
 rintro _ _ _ ⟨_, rfl, rfl, rfl, rfl⟩
 refine W.go 99 rfl ?_
 refine W.split rfl rfl rfl (fun c3 => W.go 99 rfl ?_) (fun c3 => W.go 99 rfl ?_)
 ·have c3' : crushedE s l ≠ 0 := by simpa using c3
  refine W.ret r rfl rfl ?_
  rw [if_neg (by simp [h0]), if_neg (by simp [hr]), if_pos c3']
  exact ⟨rfl, Le.refl _⟩
 have hc : crushedE s l = 0 := by simpa using c3
 obtain ⟨hpo, hni, hnl, _⟩ := plan_ok h0 hr hc
 have hrr := rRight_sp (X := C.X) s p wa la wc lc (natsW w) l L ⟨h, by rw [hni]; exact h1, h2⟩ hpo
 rw [hnl] at hrr
 refine W.eff rfl rfl rfl (Ef.call rfl (hrr)) ?_
 rintro _ _ _ ⟨v1, rfl, rfl, rfl, hl⟩
 refine W.go 99 rfl ?_
 refine W.ret r rfl rfl ?_
 rw [if_neg (by simp [h0]), if_neg (by simp [hr]), if_neg (by simp [hc])]
 exact ⟨rfl, hl⟩
end Go.Mz


set_option maxRecDepth 100000
namespace Go.Mz
open Go.Conc Go.Proofs
variable {X : Logic Tryz.prog}
theorem listsD_all (st : List Int) : listsD st [] = listsW st := by unfold listsD; simp
theorem taken_sum {s : Sw} (hok : SOk s) (w : List Nat) {l : List Int} (hl : l.length = s.loaves.length) : sumL (takenD s (wantsOf s w)) + sumL l = sumL (planW s w l).t := by
 rw [planW_eq hok, sum3]
 have h1 := hok.l1
 have h3 := hok.l3
 have far : ∀ k, s.loaves.length ≤ k → tkN (wantsOf s w) k = 0 := fun k hk => by
  unfold tkN
  rw [List.countP_eq_zero.2]
  ·rfl
  ·intro x hx h
   have hw := wants_mem hok hx
   simp [isTk] at h
   have := hw.k1
   omega
 have f1 := far 1
 have f2 := far 2
 have : s.loaves.length = 1 ∨ s.loaves.length = 2 ∨ s.loaves.length = 3 := by omega
 rcases this with e | e | e
 all_goals
  rw [e] at f1 f2 hl
  simp [takenD, e, lfN, List.range_succ, sumL] at f1 f2 ⊢
 ·match l, hl with
  | [a], _ => simp; omega
 ·match l, hl with
  | [a, b], _ => simp; omega
 ·match l, hl with
  | [a, b, c], _ => simp; omega
theorem tk_all : ∀ {xs : List Want}, (∀ x ∈ xs, InP x) → (xs.countP (fun x => x.sort == 2) : Int) ≤ tkN xs 0 + tkN xs 1 + tkN xs 2
 | [], _ => by simp [tkN]
 | x :: xs, h => by
  have ih := tk_all fun y hy => h y (List.mem_cons_of_mem _ hy)
  have hx := (h x List.mem_cons_self).k
  rw [tkN_cons, tkN_cons, tkN_cons, List.countP_cons]
  by_cases hs : x.sort = 2
  ·rcases hx with e | e | e | ⟨e, e'⟩ <;> simp [isTk, hs, e] <;> omega
  ·simp [hs]
   split <;> split <;> split <;> omega
theorem plansW_doc {s : Sw} (hok : SOk s) (w : List Nat) : plansW s w = (listsW s.stock).filter (okW s w) := by
 unfold plansW
 split
 ·rfl
 ·rename_i hc
  symm
  rw [List.filter_eq_nil_iff]
  intro l hl hokl
  apply hc
  have hlm := listsW_mem hl
  have hr : rightW s (planW s w l) = 0 := by unfold okW at hokl; simpa using hokl
  rw [right_eq hok] at hr
  have hst := hok.st
  have h1 := hok.l1
  have h3 := hok.l3
  have hany : (List.range s.loaves.length).any (fun k => decide (s.stock.getD k 0 < tkN (wantsOf s w) k + l.getD k 0)) = false := by
   cases h : (List.range s.loaves.length).any (fun k => decide (s.stock.getD k 0 < tkN (wantsOf s w) k + l.getD k 0)) with
   | false => rfl
   | true => rw [h, if_pos rfl] at hr; cases hr
  rw [List.any_eq_false] at hany
  have hk : ∀ k, k < s.loaves.length → tkN (wantsOf s w) k ≤ s.stock.getD k 0 := fun k hk => by
   have := hany k (List.mem_range.2 hk)
   have h2 := (hlm.2 k).1
   simp only [decide_eq_true_eq] at this
   omega
  have far : ∀ k, s.loaves.length ≤ k → tkN (wantsOf s w) k = 0 := fun k hk => by
   unfold tkN
   rw [List.countP_eq_zero.2]
   ·rfl
   ·intro x hx h
    have hw := wants_mem hok hx
    simp [isTk] at h
    have := hw.k1
    omega
  have ht := tk_all (xs := wantsOf s w) hok.inp
  have e0 := hk 0
  have e1 := hk 1
  have e2 := hk 2
  have f1 := far 1
  have f2 := far 2
  unfold cutsW
  have hs : ∀ st : List Int, st.length = s.loaves.length → sumL st = st.getD 0 0 + (if 1 < s.loaves.length then st.getD 1 0 else 0) + (if 2 < s.loaves.length then st.getD 2 0 else 0) := fun st hl => by
   have : s.loaves.length = 1 ∨ s.loaves.length = 2 ∨ s.loaves.length = 3 := by omega
   rcases this with e | e | e
   all_goals rw [e] at hl ⊢
   ·match st, hl with
    | [a], _ => simp [sumL]
   ·match st, hl with
    | [a, b], _ => simp [sumL]
   ·match st, hl with
    | [a, b, c], _ => simp [sumL]
  rw [hs _ hst]
  split <;> split <;> omega
def docU (s : Sw) (w : List Nat) (j : Nat) : Option Cr := firstBy ltCr ((((listsW s.stock).take j).filter (okW s w)).map (crOf s w))
theorem docU_no {s : Sw} {w : List Nat} {j : Nat} {l : List Int} (h : (listsW s.stock)[j]? = some l) (ho : okW s w l = false) : docU s w (j + 1) = docU s w j := by
 obtain ⟨hj, rfl⟩ := List.getElem?_eq_some_iff.1 h
 unfold docU
 rw [List.take_succ_eq_append_getElem hj, List.filter_append, List.filter_cons_of_neg (by rw [ho]; decide), List.filter_nil, List.append_nil]
theorem docU_yes {s : Sw} {w : List Nat} {j : Nat} {l : List Int} (h : (listsW s.stock)[j]? = some l) (ho : okW s w l = true) : docU s w (j + 1) = takeBy ltCr (docU s w j) (crOf s w l) := by
 obtain ⟨hj, rfl⟩ := List.getElem?_eq_some_iff.1 h
 unfold docU
 rw [List.take_succ_eq_append_getElem hj, List.filter_append, List.filter_cons_of_pos ho, List.filter_nil, List.map_append, List.map_cons, List.map_nil, firstBy_snoc]
theorem docU_all {s : Sw} (hok : SOk s) (w : List Nat) : docU s w (listsW s.stock).length = crushW s w := by
 unfold docU crushW
 rw [List.take_length, plansW_doc hok]
def BstD (s : Sw) (w : List Nat) (o : Option Cr) (v6 : Value) (v7 : Int) (L : LH) : Prop := match o with
 | none => v6 = .slice none 0 0 ∧ v7 = -1
 | some c => ∃ ad cap, v6 = .slice ad c.l.length cap ∧ v7 = c.c ∧ IntsAt L ad c.l ∧ c = crOf s w c.l ∧ c.l ∈ listsW s.stock
theorem BstD.le {s : Sw} {w : List Nat} {o : Option Cr} {v6 : Value} {v7 : Int} {L L' : LH} (h : BstD s w o v6 v7 L) (hl : Le L L') : BstD s w o v6 v7 L' := by
 cases o with
 | none => exact h
 | some c => obtain ⟨ad, cap, h1, h2, h3, h4⟩ := h; exact ⟨ad, cap, h1, h2, h3.le hl, h4⟩
theorem list_ok {s : Sw} (hok : SOk s) {w : List Nat} (hw : WnOk s w) (hn : w.length ≤ 100) {l : List Int} (hl : l ∈ listsW s.stock) : PlnOk s w l := by
 have hm := listsW_mem hl
 have hst := hok.st
 refine ⟨hok, hw, hn, by omega, fun x hx => ?_⟩
 obtain ⟨k, hk, rfl⟩ := List.getElem_of_mem hx
 have h1 := hm.2 k
 have h2 := h1.2 (by omega)
 have h3 := hok.sr (s.stock.getD k 0) (by rw [List.getD_eq_getElem?_getD, List.getElem?_eq_getElem (by omega)]; exact List.getElem_mem _)
 rw [List.getD_eq_getElem?_getD, List.getElem?_eq_getElem hk] at h1 h2
 simp only [Option.getD_some] at h1 h2
 omega
theorem crOf_bd {s : Sw} {w : List Nat} {l : List Int} (ho : PlnOk s w l) : 0 ≤ (crOf s w l).c ∧ (crOf s w l).c ≤ 1000 := by
 show 0 ≤ sumL (planW s w l).t ∧ sumL (planW s w l).t ≤ 1000
 rw [← taken_sum ho.ok w ho.l1]
 have h3 := ho.ok.l3
 have hn := ho.n
 have h1 := sumL_bk 100 (takenD s (wantsOf s w)) fun y hy => by
  obtain ⟨k, _, rfl⟩ := List.mem_map.1 hy
  have h4 := tkN_bd (wantsOf s w) k
  have h5 := wantsOf_len s w
  omega
 have h2 := sumL_bk 8 l ho.l8
 have hl := ho.l1
 rw [takenD_len] at h1
 omega
def CrD (o : Option Cr) (L : LH) (v : Value) (L' : LH) : Prop := Le L L' ∧ match o with
 | none => v = .tuple #[.slice none 0 0, .int .i64 (-1)]
 | some c => ∃ ad cap, v = .tuple #[.slice ad c.l.length cap, .int .i64 c.c] ∧ IntsAt L' ad c.l ∧ 0 ≤ c.c
theorem rCrush_sp (s : Sw) (p : Wp) (wa : Option Addr) (wc : Nat) (w : List Nat) (L : LH) (h : SwAt L s p) (hok : SOk s) (hwl : IntsAt L wa (natI w)) (hw : WnOk s w) (n1 : w.length ≤ 100) :
  Sp X 91 [swA s p, .slice wa w.length wc] L (CrD (crushW s w) L) := by
 have hl3 := hok.l3
 have hst := hok.st
 have h729 : (listsW s.stock).length ≤ 729 := Nat.le_trans (listsW_len hok.sr) (Nat.pow_le_pow_right (by decide) (show s.stock.length ≤ 3 by omega))
 refine Sp.enter (n := 71) Tryz.func91 rfl rfl rfl rfl fun C hX _ hL0 r => ?_
 refine W.go 99 rfl ?_
 have hli := lists_sp (X := C.X) p.sc s.stock hok.sr (by omega) s.stock.length p.sa none 0 [] L (by simp) h.st SlAt.empty (Nat.le_refl _)
 rw [listsD_all] at hli
 refine W.eff rfl rfl rfl (Ef.call rfl (hli)) ?_
 rintro _ _ _ ⟨v1, rfl, rfl, ra, rc, rfl, hle, hrows⟩
 refine W.go 99 rfl ?_
 rename_i L1
 refine W.loop (fun m E B L' => ∃ (j : Nat) (v6 : Value) (v7 : Int), m = (listsW s.stock).length - j ∧ j ≤ (listsW s.stock).length ∧ Le L1 L' ∧ BstD s w (docU s w j) v6 v7 L' ∧
   E = [(1, .v (.slice wa w.length wc)), (2, .p 0 0), (6, .v v6), (7, .v (.int .i64 v7)), (8, .v (.slice ra (listsW s.stock).length rc)), (9, .v (.int .i64 j))] ∧ B = [some ⟨cellsS (.v (swA s p)), 26⟩])
  ⟨0, _, _, rfl, by omega, Le.refl _, ⟨rfl, rfl⟩, rfl, rfl⟩ (by exact ⟨rfl, rfl, rfl, rfl, rfl, rfl, trivial⟩) (by exact ⟨rfl, trivial⟩) ?_
 rintro _ _ _ L2 ⟨j, v6, v7, rfl, hj, hl12, hbd, rfl, rfl⟩ again
 have hl2 := hle.trans hl12
 refine W.go 99 rfl ?_
 refine W.split rfl rfl rfl (fun e1 => W.go 99 rfl ?_) (fun e1 => W.go 99 rfl ?_)
 ·have hjl : j < (listsW s.stock).length := by simpa using e1
  obtain ⟨l, hl⟩ : ∃ l, (listsW s.stock)[j]? = some l := ⟨_, List.getElem?_eq_getElem hjl⟩
  have hlm := List.mem_of_getElem? hl
  have ho := list_ok hok hw n1 hlm
  obtain ⟨rad, rfl⟩ := hrows.addr hjl
  obtain ⟨la, lc, hlc, hls, _⟩ := hrows.row hl
  have hpa : ∀ L', Le L2 L' → PlnAt L' s p wa w la l := fun L' hl' => ⟨h.le (hl2.trans hl'), hwl.le (hl2.trans hl'), hls.le (hl12.trans hl')⟩
  refine W.drawn (by kernel_rfl) _ (Le.refl _) ?_
  refine DD.run' [0, 1, 2, 3] rfl ?_
  refine DD.vf 4 rfl rfl rfl rfl rfl (Vf.idx1 rfl rfl rfl rfl rfl rfl rfl (hjl)) ?_
  refine DD.vf 5 rfl rfl rfl rfl rfl (Vf.load rfl rfl rfl (hl12.cell hlc)) ?_
  refine DD.act 6 rfl rfl rfl rfl rfl (Ef.call rfl ((rRight_sp s p wa la wc lc w l L2 (hpa _ (Le.refl _)) ho))) ((by rintro _ _ _ ⟨_, rfl, rfl, rfl, hl⟩; exact ⟨hl, rfl, .inl rfl⟩)) ?_
  rintro _ _ _ ⟨v2, rfl, rfl, rfl, hl3'⟩
  rename_i L3
  refine DD.run' [7] rfl ?_
  refine .fin rfl ?_
  refine W.go 99 rfl ?_
  refine W.split rfl rfl rfl (fun e2 => W.go 99 rfl ?_) (fun e2 => W.go 99 rfl ?_)
  ·have hno : okW s w l = false := by unfold okW; simpa using e2
   exact W.again (again _ _ _ _ (by omega) ⟨j + 1, v6, v7, rfl, by omega, hl12.trans hl3', by rw [docU_no hl hno]; exact hbd.le hl3', rfl, rfl⟩) (by exact ⟨rfl, rfl, rfl, rfl, rfl, congrArg some (inc64 (by omega)), trivial⟩) (by exact ⟨rfl, trivial⟩)
  have hyes : okW s w l = true := by unfold okW; simpa using e2
  have hcb := crOf_bd ho
  have hts := taken_sum hok w ho.l1
  have hcl := ho.l1
  refine W.drawn (by kernel_rfl) _ (Le.refl _) ?_
  refine DD.run' [0, 1, 4, 5] rfl ?_
  refine DD.vf 6 rfl rfl rfl rfl rfl (Vf.idx1 rfl rfl rfl rfl rfl rfl rfl (hjl)) ?_
  refine DD.vf 7 rfl rfl rfl rfl rfl (Vf.load rfl rfl rfl ((hl12.trans hl3').cell hlc)) ?_
  refine DD.act 2 rfl rfl rfl rfl rfl (Ef.call rfl ((rTaken_sp s p wa wc w L3 (hpa _ hl3').sw hok (hpa _ hl3').w hw (by omega)))) ((by rintro _ _ _ ⟨_, rfl, rfl, _, rfl, _, hl, _⟩; exact ⟨hl, rfl, .inl rfl⟩)) ?_
  rintro _ _ _ ⟨v3, rfl, rfl, b4, rfl, hb4, hl4, hI4⟩
  rename_i L4
  have htk := rTotal_sp (X := C.X) (some ⟨b4, 0, none⟩) (takenD s (wantsOf s w)).length _ L4 hI4.ints (by rw [takenD_len]; omega) fun y hy => by
   obtain ⟨k, _, rfl⟩ := List.mem_map.1 hy
   have h4 := tkN_bd (wantsOf s w) k
   have h5 := wantsOf_len s w
   omega
  refine DD.act 3 rfl rfl rfl rfl rfl (Ef.call rfl (htk)) ((by rintro _ _ _ ⟨_, rfl, rfl, rfl, rfl⟩; exact ⟨hl4, rfl, .inl rfl⟩)) ?_
  rintro _ _ _ ⟨_, rfl, rfl, rfl, rfl⟩
  have hl24 := hl3'.trans hl4
  have htl := rTotal_sp (X := C.X) la lc l L4 (hpa _ hl24).l (by omega) fun y hy => by have := ho.l8 y hy; omega
  refine DD.act 8 rfl rfl rfl rfl rfl (Ef.call rfl (htl)) ((by rintro _ _ _ ⟨_, rfl, rfl, rfl, rfl⟩; exact ⟨hl4, rfl, .inl rfl⟩)) ?_
  rintro _ _ _ ⟨_, rfl, rfl, rfl, rfl⟩
  refine DD.run' [9, 10] rfl ?_
  refine .fin rfl ?_
  rw [hts]
  change 0 ≤ sumL (planW s w l).t ∧ sumL (planW s w l).t ≤ 1000 at hcb
  rw [wrap64_in _ (by omega) (by omega)]
  refine W.weak (E' := [(1, .v (.slice wa w.length wc)), (2, .p 0 0), (6, .v v6), (7, .v (.int .i64 v7)), (8, .v (.slice (some rad) (listsW s.stock).length rc)), (9, .v (.int .i64 j)), (10, .v (.int .i64 (sumL (planW s w l).t)))]) (B' := [some ⟨cellsS (.v (swA s p)), 26⟩]) (by exact ⟨rfl, rfl, rfl, rfl, rfl, rfl, rfl, trivial⟩) (by exact ⟨rfl, trivial⟩) ?_
  have hlt4 := hl12.trans hl24
  have hbd := hbd.le hl24
  have hcv : (crOf s w l).c = sumL (planW s w l).t := rfl
  have hstep := docU_yes hl hyes
  have take : ∀ L5, Le L4 L5 → takeBy ltCr (docU s w j) (crOf s w l) = some (crOf s w l) → BstD s w (docU s w (j + 1)) (.slice la l.length lc) (sumL (planW s w l).t) L5 := fun L5 hl5 ht => by
   rw [hstep, ht]
   exact ⟨la, lc, rfl, rfl, (hpa _ (hl24.trans hl5)).l, rfl, hlm⟩
  refine W.go 99 rfl ?_
  refine W.drawn (by kernel_rfl) _ (Le.refl _) ?_
  refine DD.run' [0, 1, 2] rfl ?_
  cases hd : docU s w j with
  | none =>
   rw [hd] at hbd
   obtain ⟨rfl, rfl⟩ := hbd
   refine DD.split 40 rfl (fun _ => ?_) (fun c => absurd c (by decide))
   refine DD.run' [3, 4, 5, 6, 7, 8, 9, 10, 11, 12, 13, 14, 15, 16, 17, 18, 19, 20, 21, 22, 23, 24, 25] rfl ?_
   refine .fin rfl ?_
   refine W.go 99 rfl ?_
   refine W.vf rfl rfl rfl rfl (Vf.idx1 rfl rfl rfl rfl rfl rfl rfl (hjl)) ?_
   refine W.go 99 rfl ?_
   refine W.vf rfl rfl rfl rfl (Vf.load rfl rfl rfl (hlt4.cell hlc)) ?_
   refine W.go 99 rfl ?_
   exact W.again (again _ _ _ _ (by omega) ⟨j + 1, _, _, rfl, by omega, hlt4, take _ (Le.refl _) (by rw [hd]; rfl), rfl, rfl⟩) (by exact ⟨rfl, rfl, rfl, rfl, rfl, congrArg some (inc64 (by omega)), trivial⟩) (by exact ⟨rfl, trivial⟩)
  | some c =>
   rw [hd] at hbd
   obtain ⟨ba, bc, rfl, rfl, hbi, hbc, hbm⟩ := hbd
   have hob := list_ok hok hw n1 hbm
   have hcc := crOf_bd hob
   rw [← hbc] at hcc
   refine DD.split 40 rfl (fun e => absurd e (by simp; omega)) (fun _ => ?_)
   refine DD.run' [3, 4, 5, 6, 7] rfl ?_
   have hlc2 : ltCr (crOf s w l) c = (decide (sumL (planW s w l).t < c.c) || (decide (sumL (planW s w l).t = c.c) && decide (leftW (planW s w l) < leftW (planW s w c.l)))) := by
    have : c.p = leftW (planW s w c.l) := congrArg Cr.p hbc
    unfold ltCr
    rw [this]
    rfl
   have keep : ∀ L5, Le L4 L5 → ltCr (crOf s w l) c = false → BstD s w (docU s w (j + 1)) (.slice ba c.l.length bc) c.c L5 := fun L5 hl5 ht => by
    rw [hstep, hd]
    show BstD s w (if ltCr (crOf s w l) c then some (crOf s w l) else some c) _ _ _
    rw [if_neg (by rw [ht]; decide)]
    exact ⟨ba, bc, rfl, rfl, hbi.le hl5, hbc, hbm⟩
   have win : ltCr (crOf s w l) c = true → takeBy ltCr (docU s w j) (crOf s w l) = some (crOf s w l) := fun ht => by
    rw [hd]
    show (if ltCr (crOf s w l) c then some (crOf s w l) else some c) = _
    rw [if_pos ht]
   refine DD.split 45 rfl (fun e3 => ?_) (fun e3 => ?_)
   ·refine DD.run' [8, 9, 10, 11, 12, 13, 14, 15, 16, 17, 18, 19, 20, 21, 22, 23, 24, 25] rfl ?_
    refine .fin rfl ?_
    refine W.go 99 rfl ?_
    refine W.vf rfl rfl rfl rfl (Vf.idx1 rfl rfl rfl rfl rfl rfl rfl (hjl)) ?_
    refine W.go 99 rfl ?_
    refine W.vf rfl rfl rfl rfl (Vf.load rfl rfl rfl (hlt4.cell hlc)) ?_
    refine W.go 99 rfl ?_
    exact W.again (again _ _ _ _ (by omega) ⟨j + 1, _, _, rfl, by omega, hlt4, take _ (Le.refl _) (win (by rw [hlc2, e3]; rfl)), rfl, rfl⟩) (by exact ⟨rfl, rfl, rfl, rfl, rfl, congrArg some (inc64 (by omega)), trivial⟩) (by exact ⟨rfl, trivial⟩)
   refine DD.run' [8, 9, 10, 11] rfl ?_
   refine DD.split 49 rfl (fun e4 => ?_) (fun e4 => ?_)
   ·refine DD.run' [12, 13, 14, 15, 19, 20, 21] rfl ?_
    refine DD.vf 16 rfl rfl rfl rfl rfl (Vf.idx1 rfl rfl rfl rfl rfl rfl rfl (hjl)) ?_
    refine DD.vf 17 rfl rfl rfl rfl rfl (Vf.load rfl rfl rfl (hlt4.cell hlc)) ?_
    refine DD.act 18 rfl rfl rfl rfl rfl (Ef.call rfl ((rOver_sp s p wa la wc lc w l L4 (hpa _ hl24) ho))) ((by rintro _ _ _ ⟨_, rfl, rfl, rfl, hl⟩; exact ⟨hl, rfl, .inl rfl⟩)) ?_
    rintro _ _ _ ⟨v5, rfl, rfl, rfl, hl5⟩
    rename_i L5
    refine DD.act 22 rfl rfl rfl rfl rfl (Ef.call rfl ((rOver_sp s p wa ba wc bc w c.l L5 ⟨(hpa _ (hl24.trans hl5)).sw, (hpa _ (hl24.trans hl5)).w, hbi.le hl5⟩ hob))) ((by rintro _ _ _ ⟨_, rfl, rfl, rfl, hl⟩; exact ⟨hl5.trans hl, rfl, .inl rfl⟩)) ?_
    rintro _ _ _ ⟨v6, rfl, rfl, rfl, hl6⟩
    rename_i L6
    have hl46 := hl5.trans hl6
    refine DD.run' [23, 24, 25] rfl ?_
    refine .fin rfl ?_
    refine W.go 99 rfl ?_
    have e4' : sumL (planW s w l).t = c.c := by simpa using e4
    refine W.split rfl rfl rfl (fun e5 => W.go 99 rfl ?_) (fun e5 => W.go 99 rfl ?_)
    ·refine W.vf rfl rfl rfl rfl (Vf.idx1 rfl rfl rfl rfl rfl rfl rfl (hjl)) ?_
     refine W.go 99 rfl ?_
     refine W.vf rfl rfl rfl rfl (Vf.load rfl rfl rfl ((hlt4.trans hl46).cell hlc)) ?_
     refine W.go 99 rfl ?_
     exact W.again (again _ _ _ _ (by omega) ⟨j + 1, _, _, rfl, by omega, hlt4.trans hl46, take _ hl46 (win (by rw [hlc2, e3, e5, decide_eq_true e4']; rfl)), rfl, rfl⟩) (by exact ⟨rfl, rfl, rfl, rfl, rfl, congrArg some (inc64 (by omega)), trivial⟩) (by exact ⟨rfl, trivial⟩)
    ·exact W.again (again _ _ _ _ (by omega) ⟨j + 1, _, _, rfl, by omega, hlt4.trans hl46, keep _ hl46 (by rw [hlc2, e3, e5, Bool.and_false]; rfl), rfl, rfl⟩) (by exact ⟨rfl, rfl, rfl, rfl, rfl, congrArg some (inc64 (by omega)), trivial⟩) (by exact ⟨rfl, trivial⟩)
   ·have e4' : ¬ sumL (planW s w l).t = c.c := by simpa using e4
    refine DD.run' [12, 13, 14, 15, 16, 17, 18, 19, 20, 21, 22, 23, 24, 25] rfl ?_
    refine .fin rfl ?_
    refine W.go 99 rfl ?_
    exact W.again (again _ _ _ _ (by omega) ⟨j + 1, _, _, rfl, by omega, hlt4, keep _ (Le.refl _) (by rw [hlc2, e3, decide_eq_false e4']; rfl), rfl, rfl⟩) (by exact ⟨rfl, rfl, rfl, rfl, rfl, congrArg some (inc64 (by omega)), trivial⟩) (by exact ⟨rfl, trivial⟩)
 ·have hje : j = (listsW s.stock).length := by simp at e1; omega
  subst hje
  rw [docU_all hok] at hbd
  refine W.ret r rfl rfl ?_
  refine ⟨hl2, ?_⟩
  cases hc : crushW s w with
  | none => rw [hc] at hbd; obtain ⟨rfl, rfl⟩ := hbd; rfl
  | some c =>
   rw [hc] at hbd
   obtain ⟨ba, bc, rfl, rfl, hbi, hbc, hbm⟩ := hbd
   have hcc := crOf_bd (list_ok hok hw n1 hbm)
   rw [← hbc] at hcc
   exact ⟨ba, bc, rfl, hbi, hcc.1⟩
end Go.Mz


set_option maxRecDepth 100000
namespace Go.Mz
open Go.Conc Go.Proofs
variable {X : Logic Tryz.prog}
theorem wants_ok {s : Sw} {w : List Int} (hok : SOk s) (h1 : readW s w = 0) : WnOk s (natsW w) ∧ natI (natsW w) = w ∧ (natsW w).length = w.length ∧ (natsW w).length ≤ 5 := by
 obtain ⟨ha, hb, hc⟩ := read_asc h1
 refine ⟨hb, hc, by unfold natsW; simp, ?_⟩
 have := bits5_mask ha fun x hx => Nat.lt_of_lt_of_le (hb x hx) hok.w5
 rw [← this]; exact bits5_len _
theorem rCrushX_sp (s : Sw) (p : Wp) (wa : Option Addr) (wc : Nat) (w : List Int) (L : LH) (h : SwAt L s p) (hn : Sm s) (h1 : IntsAt L wa w) (n1 : w.length ≤ 1000000) :
  Sp X 34 [swA s p, .slice wa w.length wc] L (ListQ (CrushE s w) L) := by
 refine Sp.enter (n := 32) Tryz.func34 rfl rfl rfl rfl fun C hX _ hL0 r => ?_
 refine W.go 99 rfl ?_
 refine W.eff rfl rfl rfl (Ef.call rfl (rCheck_sp s p L h hn)) ?_
 rintro _ _ _ ⟨_, rfl, rfl, rfl, rfl⟩
 refine W.go 99 rfl ?_
 refine W.split rfl rfl rfl (fun c1 => W.go 99 rfl ?_) (fun c1 => W.go 99 rfl ?_)
 ·have c1' : sawE s ≠ 0 := by simpa using c1
  have hCE : CrushE s w = ([], 0, sawE s) := by unfold CrushE; rw [if_pos c1']
  rw [hCE] at r
  refine W.ret r rfl rfl ?_
  exact ⟨none, 0, rfl, SlAt.empty, Le.refl _⟩
 have h0 : sawE s = 0 := by simpa using c1
 have hok := sawE_0 h0
 refine W.eff rfl rfl rfl (Ef.call rfl (rCheckWants_sp s p wa wc w L hn.hw h1 n1)) ?_
 rintro _ _ _ ⟨_, rfl, rfl, rfl, rfl⟩
 refine W.go 99 rfl ?_
 refine W.split rfl rfl rfl (fun c2 => W.go 99 rfl ?_) (fun c2 => W.go 99 rfl ?_)
 ·have c2' : readW s w ≠ 0 := by simpa using c2
  have hCE : CrushE s w = ([], 0, readW s w) := by unfold CrushE; rw [if_neg (by simp [h0]), if_pos c2']
  rw [hCE] at r
  refine W.ret r rfl rfl ?_
  exact ⟨none, 0, rfl, SlAt.empty, Le.refl _⟩
 have hr : readW s w = 0 := by simpa using c2
 obtain ⟨hw, hni, hnl, hn5⟩ := wants_ok hok hr
 have hcr := rCrush_sp (X := C.X) s p wa wc (natsW w) L h hok (by rw [hni]; exact h1) hw (by omega)
 rw [hnl] at hcr
 have hCE : CrushE s w = crushE s (natsW w) := by unfold CrushE; rw [if_neg (by simp [h0]), if_neg (by simp [hr])]
 rw [hCE] at r
 unfold crushE at r
 cases hc : crushW s (natsW w) with
 | none =>
  rw [hc] at hcr r
  refine W.eff rfl rfl rfl (Ef.call rfl (hcr)) ?_
  rintro _ _ _ ⟨v1, rfl, rfl, hl, rfl⟩
  refine W.go 99 rfl ?_
  refine W.split rfl rfl rfl (fun c => ?_) (fun c => absurd c (by decide))
  refine W.go 99 rfl ?_
  refine W.ret r rfl rfl ?_
  exact ⟨none, 0, rfl, SlAt.empty, hl⟩
 | some c =>
  rw [hc] at hcr r
  refine W.eff rfl rfl rfl (Ef.call rfl (hcr)) ?_
  rintro _ _ _ ⟨v1, rfl, rfl, hl, ad, cap, rfl, hi, h0'⟩
  refine W.go 99 rfl ?_
  refine W.split rfl rfl rfl (fun e => absurd e (by simp; omega)) (fun _ => ?_)
  refine W.go 99 rfl ?_
  refine W.ret r rfl rfl ?_
  exact ⟨ad, cap, rfl, hi, hl⟩
end Go.Mz


set_option maxRecDepth 100000
namespace Go.Mz
open Go.Conc Go.Proofs
variable {X : Logic Tryz.prog}
structure ServH (s : Sw) (w : List Nat) (l : List Int) : Prop where
 asc : Asc w
 wn : WnOk s w
 len : l.length = s.loaves.length
 l2 : ∀ x ∈ l, 0 ≤ x ∧ x ≤ 2
theorem ServedOf_sp (s : Sw) (p : Wp) (b : Nat) (ad : Option Addr) (cap : Nat) (l : List Int) (n : Nat) (L : LH) (h : HatAt L b ad cap l n) (hn : n ≤ 800000) (hl : l.length ≤ 140737488355328) (hm : Sm s) :
  Sp X 31 [pt b, swA s p] L (fun v L' => ∃ w t wa wc ta tc m, v = .tuple #[.slice wa w.length wc, .slice ta t.length tc] ∧ ServH s w t ∧ m ≤ n + 3000 ∧ HatAt L' b ad cap l m ∧ Le (L.but b) L' ∧ IntsAt (L'.but b) wa (natI w) ∧ IntsAt (L'.but b) ta t) := by
 have n1 := hm.hl
 have n3 := hm.hw
 refine Sp.enter (n := 41) Tryz.func31 rfl rfl rfl rfl fun C hX _ hL0 r => ?_
 refine W.go 99 rfl ?_
 refine W.loop (fun m E B L' => ∃ (i : Nat) (w : List Nat) (v : Value) (I : LH) (q : Nat), m = s.wants.length - i ∧ i ≤ s.wants.length ∧ Asc w ∧ (∀ y ∈ w, y < i) ∧ w.length ≤ i ∧ q ≤ n + i ∧ HatGr L b ad cap l q 1 3 encI L' v (natI w) I ∧
   E = [(0, .v (pt b)), (3, .p 0 0), (6, .v v), (7, .v (.slice none 0 0)), (8, .v (.int .i64 i))] ∧ B = [some ⟨cellsS (.v (swA s p)), 26⟩])
  ⟨0, [], _, _, n, rfl, by omega, .nil, (fun y hy => by cases hy), by simp, by omega, HatGr.nil h, rfl, rfl⟩ (by exact ⟨rfl, rfl, rfl, rfl, rfl, trivial⟩) (by exact ⟨rfl, trivial⟩) ?_
 rintro _ _ _ L1 ⟨i, w, v, I, q, rfl, hi, hasc, hwi, hwl, hq, hg, rfl, rfl⟩ again
 refine W.go 99 rfl ?_
 refine W.split rfl rfl rfl (fun e1 => W.go 99 rfl ?_) (fun e1 => W.go 99 rfl ?_)
 ·have hil : i < s.wants.length := by simpa using e1
  refine W.eff rfl rfl rfl (Ef.call rfl (Seldom_sp b ad cap l q 2 L1 hg.hat (by omega) hl (by omega))) ?_
  rintro _ _ _ ⟨_, rfl, rfl, ⟨y, rfl⟩, hk, hs⟩
  refine W.go 99 rfl ?_
  obtain ⟨I1, hg1⟩ := hg.step hk hs
  obtain ⟨fa, fc, rfl, _⟩ := hg1.g.slice
  rename_i L2
  refine W.split rfl rfl rfl (fun e2 => ?_) (fun e2 => ?_)
  ·refine W.go 99 rfl ?_
   refine W.eff rfl rfl rfl (Ef.grow rfl rfl rfl rfl rfl rfl rfl rfl rfl encI_len encI_sg hg1.g (ls := [(i : Int)]) (.own rfl rfl rfl rfl) (by rw [natI_len]; simp; omega)) ?_
   rintro _ _ _ ⟨v', rfl, rfl, hg3, _⟩
   rw [← natI_snoc] at hg3
   refine W.go 99 rfl ?_
   refine W.again (again _ _ _ _ (by omega) ⟨i + 1, w ++ [i], v', I1, q + 1, rfl, by omega, ?_, ?_, by simp; omega, by omega, ⟨hg3, hg1.h, hg1.i⟩, rfl, rfl⟩) (by exact ⟨rfl, rfl, rfl, rfl, congrArg some (inc64 (by omega)), trivial⟩) (by exact ⟨rfl, trivial⟩)
   ·exact List.pairwise_append.2 ⟨hasc, List.pairwise_singleton _ _, fun x hx y hy => by rw [List.mem_singleton.1 hy]; exact hwi x hx⟩
   ·intro y hy
    rcases List.mem_append.1 hy with hy | hy
    ·have := hwi y hy; omega
    ·rw [List.mem_singleton.1 hy]; omega
  ·refine W.go 99 rfl ?_
   exact W.again (again _ _ _ _ (by omega) ⟨i + 1, w, _, I1, q + 1, rfl, by omega, hasc, fun y hy => by have := hwi y hy; omega, by omega, by omega, hg1, rfl, rfl⟩) (by exact ⟨rfl, rfl, rfl, rfl, congrArg some (inc64 (by omega)), trivial⟩) (by exact ⟨rfl, trivial⟩)
 have hie : i = s.wants.length := by simp at e1; omega
 subst hie
 clear again
 obtain ⟨wa, wc, rfl, _⟩ := hg.g.slice
 obtain ⟨sd1, hb1⟩ := hg.hat.blk
 have hws := (hg.g.sl_but encI_len hb1 (by decide)).2
 have hL1 := hg.le
 refine W.loop (fun m E B L' => ∃ (i : Nat) (t : List Int) (v : Value) (I : LH) (q2 : Nat), m = s.loaves.length - i ∧ i ≤ s.loaves.length ∧ t.length = i ∧ (∀ x ∈ t, 0 ≤ x ∧ x ≤ 2) ∧ q2 ≤ q + 2 * i ∧ HatGr L1 b ad cap l q2 1 3 encI L' v t I ∧
   E = [(0, .v (pt b)), (3, .p 0 0), (6, .v (.slice wa (natI w).length wc)), (7, .v v), (9, .v (.int .i64 i))] ∧ B = [some ⟨cellsS (.v (swA s p)), 26⟩])
  ⟨0, [], _, _, q, rfl, by omega, rfl, (fun x hx => by cases hx), by omega, HatGr.nil hg.hat, rfl, rfl⟩ (by exact ⟨rfl, rfl, rfl, rfl, rfl, trivial⟩) (by exact ⟨rfl, trivial⟩) ?_
 rintro _ _ _ L3 ⟨i, t, v, I2, q2, rfl, hi2, htl, ht2, hq2, hg2, rfl, rfl⟩ again
 refine W.go 99 rfl ?_
 refine W.split rfl rfl rfl (fun e2 => W.go 99 rfl ?_) (fun e2 => W.go 99 rfl ?_)
 ·have hil : i < s.loaves.length := by simpa using e2
  obtain ⟨ta, tc, rfl, _⟩ := hg2.g.slice
  refine W.eff rfl rfl rfl (Ef.call rfl (To_sp b ad cap l q2 2 L3 hg2.hat (by omega) hl (by omega))) ?_
  rintro _ _ _ ⟨_, rfl, rfl, ⟨y, rfl, hy⟩, hk, hs⟩
  refine W.go 99 rfl ?_
  obtain ⟨I3, hg3⟩ := hg2.step hk hs
  rename_i L4
  refine W.pub 35 (.inr ⟨_, _, _, rfl⟩) rfl rfl ?_
  intro b9 hb9 _
  have hmr := hg3.more (Le.put hb9 (.cells ([0, 1, (y : Int)].flatMap encI).toArray 3))
  have c6 := One_sp (X := C.X) b ad (some ⟨b9, 0, none⟩) cap 3 l [0, 1, (y : Int)] (q2 + 1) _ hmr.hat (intsB [0, 1, (y : Int)] (put_same _ _ _)) (by omega) hl (by simp) (by simp) (fun a ha => by cases ha; exact hg3.hat.off hb9)
  refine W.eff rfl rfl rfl (Ef.call rfl (c6)) ?_
  rintro _ _ _ ⟨v6, rfl, rfl, ⟨am, rfl, ham⟩, hk6, hs6⟩
  refine W.go 99 rfl ?_
  obtain ⟨I4, hg4⟩ := hmr.step hk6 hs6
  refine W.eff rfl rfl rfl (Ef.grow rfl rfl rfl rfl rfl rfl rfl rfl rfl encI_len encI_sg hg4.g (ls := [am]) (.own rfl rfl rfl rfl) (by simp; omega)) ?_
  rintro _ _ _ ⟨v', rfl, rfl, hg5, _⟩
  refine W.go 99 rfl ?_
  refine W.again (again _ _ _ _ (by omega) ⟨i + 1, t ++ [am], v', I4, q2 + 1 + 1, rfl, by omega, by simp [htl], ?_, by omega, ⟨hg5, hg4.h, hg4.i⟩, rfl, rfl⟩) (by exact ⟨rfl, rfl, rfl, rfl, congrArg some (inc64 (by omega)), trivial⟩) (by exact ⟨rfl, trivial⟩)
  intro x hx
  rcases List.mem_append.1 hx with hx | hx
  ·exact ht2 x hx
  ·rw [List.mem_singleton.1 hx]; simp at ham; omega
 have hie : i = s.loaves.length := by simp at e2; omega
 subst hie
 obtain ⟨ta, tc, rfl, _⟩ := hg2.g.slice
 obtain ⟨sd3, hb3⟩ := hg2.hat.blk
 have hts := (hg2.g.sl_but encI_len hb3 (by decide)).2
 refine W.ret r rfl rfl ?_
 rw [natI_len]
 exact ⟨w, t, wa, wc, ta, tc, q2, rfl, ⟨hasc, hwi, htl, ht2⟩, by omega, hg2.hat, but_trans hL1 hg2.le, hws.le (but_but hg2.le), hts⟩
end Go.Mz


set_option maxRecDepth 100000
namespace Go.Mz
open Go.Conc Go.Proofs
variable {Post : Value → World → Prop} {W0 : World}
structure HPOk (L : LH) (x : Rw Int) : Prop where
 i : IntsAt L x.1.1 x.2
 l : x.1.2.1 = x.2.length
 n : x.2.length ≤ 20
theorem HPOk.le {L L' : LH} {x : Rw Int} (h : HPOk L x) (hl : Le L L') : HPOk L' x := ⟨h.i.le hl, h.l, h.n⟩
theorem asc5 {s : Sw} (h5 : s.wants.length ≤ 5) {w : List Nat} (ha : Asc w) (hw : WnOk s w) : w.length ≤ 5 := by
 have := bits5_mask ha fun x hx => Nat.lt_of_lt_of_le (hw x hx) h5
 rw [← this]; exact bits5_len _
theorem crush_len {s : Sw} (w : List Nat) : (crushE s w).1.length ≤ s.stock.length := by
 unfold crushE
 cases h : crushW s w with
 | none => exact Nat.zero_le _
 | some c => exact Nat.le_of_eq (crushW_some h).2
end Go.Mz


set_option maxRecDepth 100000
namespace Go.Mz
open Go.Conc Go.Proofs
variable {X : Logic Tryz.prog}
theorem Grow.setN {α : Type} {I L : LH} {k : Nat} {e : TypeId} {enc : α → List Value} {v : Value} {l : List α} {d : Nat} (h : Grow I k e enc L v l) (hk : ∀ x, (enc x).length = k) (hd : d < l.length) (x : α) :
  ∃ b cap c, v = .slice (some ⟨b, 0, none⟩) l.length cap ∧ I b = none ∧ L b = some (.cells c e (0, 0), true) ∧ d * k + k ≤ c.size ∧ Grow I k e enc (L.put b (.cells (putRow c (d * k) (enc x)) e)) v (l.set d x) := by
 obtain ⟨hI, ob, ho, hn⟩ := h
 cases ob with
 | none => obtain ⟨_, h, _⟩ := ho; omega
 | some b =>
  obtain ⟨cap, c, h1, h2, h3, h4, h5, h6⟩ := ho
  have hsz : d * k + k ≤ c.size := by
   rw [h3, ← Nat.succ_mul]
   exact Nat.mul_le_mul_right _ (by omega)
  have hb := hn b rfl
  refine ⟨b, cap, c, h1, hb, h2, hsz, fun b' y hy => ?_, some b, ⟨cap, putRow c (d * k) (enc x), ?_, put_same _ _ _, ?_, ?_, ?_, fun i y hy => ?_⟩, fun b' hb' => by cases hb'; exact hb⟩
  ·rw [put_ne _ _ (fun e => by subst e; rw [hb] at hy; cases hy)]; exact hI _ _ hy
  ·rw [List.length_set]; exact h1
  ·rw [putRow_size]; exact h3
  ·rw [List.length_set]; exact h4
  ·have : ∀ l : List α, (l.flatMap enc).length = l.length * k := fun l => by
    induction l with
    | nil => simp
    | cons a l ih => rw [List.flatMap_cons, List.length_append, hk, ih, List.length_cons, Nat.succ_mul]; omega
   exact this _
  ·rw [flat_set_get hk l d x i hd] at hy
   rw [putRow_get]
   split at hy
   ·rename_i h7
    rw [if_neg (by omega)]
    have hlt : i - d * k < (enc x).length := by rw [hk]; omega
    rw [List.getElem?_eq_getElem hlt] at hy
    rw [dif_pos ⟨hlt, by omega⟩]; exact hy
   ·rename_i h7
    have := h6 i y hy
    split
    ·exact this
    ·rw [dif_neg (by rw [hk]; omega)]; exact this
def stayD (s : Sw) (w : List Nat) (l : List Int) (i : Nat) : List Int := (List.range s.stock.length).map fun k => if k < i then s.stock.getD k 0 - (tkN (wantsOf s w) k + l.getD k 0) else s.stock.getD k 0
theorem stayD_len (s : Sw) (w : List Nat) (l : List Int) (i : Nat) : (stayD s w l i).length = s.stock.length := by simp [stayD]
theorem stayD_0 (s : Sw) (w : List Nat) (l : List Int) : stayD s w l 0 = s.stock := by
 unfold stayD
 refine List.ext_getElem? fun j => ?_
 rw [List.getElem?_map]
 by_cases hj : j < s.stock.length
 ·rw [List.getElem?_range hj, getD_some hj]; simp
 ·rw [List.getElem?_eq_none (by simp; omega), List.getElem?_eq_none (by omega)]; rfl
theorem stayD_all {s : Sw} (hok : SOk s) (w : List Nat) (l : List Int) : stayD s w l s.stock.length = stayW s (planW s w l) := by
 unfold stayD stayW
 refine List.map_congr_left fun k hk => ?_
 have hk := List.mem_range.1 hk
 have hst := hok.st
 have h3 := hok.l3
 rw [if_pos hk, planW_eq hok, rng3_get (by omega)]
 unfold lfN
 rw [if_pos (by omega)]
theorem stayD_step {s : Sw} {w : List Nat} {l : List Int} {i : Nat} (hi : i < s.stock.length) : (stayD s w l i).set i (s.stock.getD i 0 - (tkN (wantsOf s w) i + l.getD i 0)) = stayD s w l (i + 1) :=
 map_set hi (by rw [if_pos (by omega)]) fun j _ hne => by
  by_cases h : j < i
  ·rw [if_pos h, if_pos (by omega)]
  ·rw [if_neg h, if_neg (by omega)]
theorem stayD_get {s : Sw} {w : List Nat} {l : List Int} {i : Nat} (hi : i < s.stock.length) : (stayD s w l i)[i]? = some (s.stock.getD i 0) := by
 unfold stayD
 rw [List.getElem?_map, List.getElem?_range hi]
 simp
theorem rLeft_sp (s : Sw) (p : Wp) (wa la : Option Addr) (wc lc : Nat) (w l : List Int) (L : LH) (h : SwAt L s p) (hn : Sm s) (h1 : IntsAt L wa w) (h2 : IntsAt L la l) (n1 : w.length ≤ 1000000) (n2 : l.length ≤ 1000000) :
  Sp X 49 [swA s p, .slice wa w.length wc, .slice la l.length lc] L (ListQ (LeftE s w l) L) := by
 refine Sp.enter (n := 55) Tryz.func49 rfl rfl rfl rfl fun C hX _ hL0 r => ?_
 refine W.go 99 rfl ?_
 refine W.eff rfl rfl rfl (Ef.call rfl (rRightX_sp s p wa la wc lc w l L h hn h1 h2 n1 n2)) ?_
 rintro _ _ _ ⟨v1, rfl, rfl, rfl, hle⟩
 refine W.go 99 rfl ?_
 rename_i L1
 refine W.split rfl rfl rfl (fun c1 => W.go 99 rfl ?_) (fun c1 => W.go 99 rfl ?_)
 ·have c1' : askW s w l ≠ 0 := by simpa using c1
  have hCE : LeftE s w l = ([], 0, askW s w l) := by unfold LeftE; rw [if_pos c1']
  rw [hCE] at r
  refine W.ret r rfl rfl ?_
  exact ⟨none, 0, rfl, SlAt.empty, hle⟩
 have ha : askW s w l = 0 := by simpa using c1
 have hCE : LeftE s w l = (stayW s (planW s (natsW w) l), leftW (planW s (natsW w) l), 0) := by unfold LeftE; rw [if_neg (by simp [ha])]
 rw [hCE] at r
 obtain ⟨h0, hr, hc⟩ : sawE s = 0 ∧ readW s w = 0 ∧ crushedE s l = 0 := by
  rw [askW_eq] at ha
  split at ha
  ·rename_i e; exact absurd ha e
  ·rename_i e0
   split at ha
   ·rename_i e; exact absurd ha e
   ·rename_i e1
    split at ha
    ·rename_i e; exact absurd ha e
    ·rename_i e2; exact ⟨by simpa using e0, by simpa using e1, by simpa using e2⟩
 obtain ⟨hpo, hni, hnl, hl4⟩ := plan_ok h0 hr hc
 have hok := hpo.ok
 have hst := hok.st
 have hl3 := hok.l3
 have hn100 := hpo.n
 rw [← stayD_all hok] at r
 have hpa : ∀ L', Le L L' → PlnAt L' s p wa (natsW w) la l := fun L' hl => ⟨h.le hl, by rw [hni]; exact h1.le hl, h2.le hl⟩
 refine W.pub 20 (.inr ⟨_, _, _, rfl⟩) rfl rfl ?_
 intro b20 hb20 _
 have hs1 := (h.le hle).st
 refine W.eff rfl rfl rfl (Ef.grow rfl rfl rfl rfl rfl rfl rfl rfl rfl encI_len encI_sg (Grow.new (Le.put hb20 _) (put_same _ _ _) hb20) (ls := s.stock) (.sl (hs1.le (Le.put hb20 _)) encI_len rfl) (by simp; omega)) ?_
 rintro _ _ _ ⟨v2, rfl, rfl, hg, _⟩
 refine W.go 99 rfl ?_
 rename_i L2 _
 rw [List.nil_append] at hg
 obtain ⟨ad2, cap2, rfl, _⟩ := hg.slice
 have hle2 := hle.trans hg.1
 have htk := rTaken_sp (X := C.X) s p wa wc (natsW w) L2 (h.le hle2) hok (hpa _ hle2).w hpo.wn (by omega)
 rw [hnl] at htk
 refine W.eff rfl rfl rfl (Ef.call rfl (htk)) ?_
 rintro _ _ _ ⟨v3, rfl, rfl, b3, rfl, hb3, hl23, hI⟩
 refine W.go 99 rfl ?_
 rename_i L3
 rw [takenD_len]
 obtain ⟨hI1, ob, how, hob⟩ := hg
 have hob3 : ob ≠ some b3 := fun e => by
  subst e
  obtain ⟨c, e⟩ := how.ty
  rw [hb3] at e; cases e
 have hg3 : Grow (off ob L3) 1 3 encI L3 (.slice ad2 s.stock.length cap2) s.stock := Own.grow (how.le hl23)
 have hI3 : IBlk (off ob L3) b3 (takenD s (wantsOf s (natsW w))) := (off_get hob3).trans hI
 have hL3 : Le L (off ob L3) := hle.trans (le_off (hI1.trans hl23) hob)
 generalize off ob L3 = I3 at hg3 hI3 hL3
 clear hI how hob hob3 hI1
 refine W.loop (fun m E B L' => ∃ (i : Nat), m = s.stock.length - i ∧ i ≤ s.stock.length ∧ Grow I3 1 3 encI L' (.slice ad2 s.stock.length cap2) (stayD s (natsW w) l i) ∧
   E = [(1, .v (.slice wa w.length wc)), (2, .v (.slice la l.length lc)), (3, .p 0 0), (10, .v (.slice ad2 s.stock.length cap2)), (11, .v (.slice (some ⟨b3, 0, none⟩) s.loaves.length s.loaves.length)), (12, .v (.int .i64 i))] ∧ B = [some ⟨cellsS (.v (swA s p)), 26⟩])
  ⟨0, rfl, by omega, by rw [stayD_0]; exact hg3, rfl, rfl⟩ (by exact ⟨rfl, rfl, rfl, rfl, rfl, rfl, trivial⟩) (by exact ⟨rfl, trivial⟩) ?_
 clear hg3
 rintro _ _ _ L4 ⟨i, rfl, hi, hg, rfl, rfl⟩ again
 have hL4 := hL3.trans hg.1
 have hI4 : IBlk L4 b3 (takenD s (wantsOf s (natsW w))) := hg.1 _ _ hI3
 refine W.go 99 rfl ?_
 refine W.split rfl rfl rfl (fun e1 => W.go 99 rfl ?_) (fun e1 => W.go 99 rfl ?_)
 ·have hil : i < s.stock.length := by simpa using e1
  obtain ⟨lad, rfl⟩ := h2.addr (show i < l.length by have := hpo.l1; omega)
  have hb1 := hok.sr (s.stock.getD i 0) (by rw [List.getD_eq_getElem?_getD, List.getElem?_eq_getElem hil]; exact List.getElem_mem _)
  have hb2 := tkN_bd (wantsOf s (natsW w)) i
  have hb3' := wantsOf_len s (natsW w)
  have hb4 := getD8 hpo.l8 i
  obtain ⟨q, cap, c, hv, hqI, hq, hqs, hset⟩ := hg.setN encI_len (show i < (stayD s (natsW w) l i).length by rw [stayD_len]; exact hil) (s.stock.getD i 0 - tkN (wantsOf s (natsW w)) i - l.getD i 0)
  rw [stayD_len] at hv
  cases hv
  have hown := (hg.at encI_len).2
  refine W.drawn (by kernel_rfl) I3 hg.1 ?_
  refine DD.run' [0, 1, 2, 3, 6, 7, 11, 12] rfl ?_
  refine DD.vf 4 rfl rfl rfl rfl rfl (Vf.idx1 rfl rfl rfl rfl rfl rfl rfl (hil)) ?_
  refine DD.vf 8 rfl rfl rfl rfl rfl (Vf.idx1 rfl rfl rfl rfl rfl rfl rfl ((show i < s.loaves.length by omega))) ?_
  refine DD.vf 9 rfl rfl rfl rfl rfl (Vf.load rfl rfl rfl (hI3.get (takenD_get (by omega)))) ?_
  refine DD.vf 13 rfl rfl rfl rfl rfl (Vf.idx1 rfl rfl rfl rfl rfl rfl rfl ((show i < l.length by have := hpo.l1; omega))) ?_
  refine DD.vf 14 rfl rfl rfl rfl rfl (Vf.load rfl rfl rfl ((h2.le hL3).int (getD_some (by have := hpo.l1; omega)))) ?_
  refine DD.act 5 rfl rfl rfl rfl rfl (Ef.val rfl (Vf.load rfl rfl rfl (hown.int (stayD_get hil)))) (by rintro _ _ _ ⟨rfl, rfl, rfl⟩; exact ⟨hg.1, rfl, .inl rfl⟩) ?_
  rintro _ _ _ ⟨rfl, rfl, rfl⟩
  refine DD.run' [10] rfl ?_
  rw [wrap64_in _ (by omega) (by omega)]
  refine DD.run' [15] rfl ?_
  rw [wrap64_in _ (by omega) (by omega)]
  refine DD.vf 16 rfl rfl rfl rfl rfl (Vf.idx1 rfl rfl rfl rfl rfl rfl rfl (hil)) ?_
  refine DD.act 17 rfl rfl rfl rfl rfl (Ef.stoF (b := q) (off := i * 1) (congrArg (fun a => some (SV.v (.pointer (some a)))) (show Addr.add ⟨q, 0, none⟩ i = ⟨q, i * 1, none⟩ by rw [add_of]; simp)) ⟨_, rfl, rfl⟩ rfl hq rfl hqs (singles rfl)) (by rintro _ _ _ ⟨rfl, rfl, rfl⟩; exact ⟨hset.1, rfl, .inl rfl⟩) ?_
  rintro _ _ _ ⟨rfl, rfl, rfl⟩
  refine .fin rfl ?_
  refine W.go 99 rfl ?_
  refine W.again (again _ _ _ _ (by omega) ⟨i + 1, rfl, by omega, ?_, rfl, rfl⟩) (by exact ⟨rfl, rfl, rfl, rfl, rfl, congrArg some (inc64 (by omega)), trivial⟩) (by exact ⟨rfl, trivial⟩)
  rw [← stayD_step hil]
  rw [show s.stock.getD i 0 - (tkN (wantsOf s (natsW w)) i + l.getD i 0) = s.stock.getD i 0 - tkN (wantsOf s (natsW w)) i - l.getD i 0 by omega]
  exact hset
 ·have hie : i = s.stock.length := by simp at e1; omega
  subst hie
  have hov := rOver_sp (X := C.X) s p wa la wc lc (natsW w) l L4 (hpa _ hL4) hpo
  rw [hnl] at hov
  refine W.eff rfl rfl rfl (Ef.call rfl (hov)) ?_
  rintro _ _ _ ⟨v6, rfl, rfl, rfl, hl6⟩
  refine W.go 99 rfl ?_
  refine W.ret r rfl rfl ?_
  exact ⟨ad2, cap2, by rw [stayD_len]; rfl, (hg.at encI_len).2.le hl6, hL4.trans hl6⟩
end Go.Mz

