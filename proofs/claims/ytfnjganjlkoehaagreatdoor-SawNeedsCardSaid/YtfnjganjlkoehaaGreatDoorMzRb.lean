/- Lemmas on which the claim leans. -/
import Derived.Test.YtfnjganjlkoehaaGreatDoorMzRa
import Derived.KernelRfl
set_option maxRecDepth 100000
namespace Go.Mz
open Go.Conc Go.ConcN Go.Proofs Go.ChangeShapes Go.WideShapes
section
variable {H : Type} {enc : TypeId × Value → H} {W : World} {sp : Nat → Bool} {held : Bool}
theorem cellsOf3 : Tryz.prog.cellsOf 3 = 1 := by kernel_rfl
theorem cellsOf22 : Tryz.prog.cellsOf 22 = 1 := by kernel_rfl
theorem cellsOf23 : Tryz.prog.cellsOf 23 = 1 := by kernel_rfl
theorem cellsOf24 : Tryz.prog.cellsOf 24 = 1 := by kernel_rfl
theorem cellsOf26 : Tryz.prog.cellsOf 26 = 4 := by kernel_rfl
theorem cellsOf28 : Tryz.prog.cellsOf 28 = 4 := by kernel_rfl
theorem bytesOf3 : Tryz.prog.bytesOf 3 = 8 := by kernel_rfl
theorem el3 (n : Nat) (cs : List Value) (y : DataW H × List MemPlace) (h : DataW.trod enc Tryz.prog W 0 sp held n 3 cs = some y) (i : Nat) (hi : i < 1) : ∃ z, cs[i]? = some (.int .i64 z) := by
 obtain ⟨z, rfl, _⟩ := DataW.trod_int Tryz.underlying3 h
 obtain rfl : i = 0 := by omega
 exact ⟨z, rfl⟩
theorem el28 (n : Nat) (cs : List Value) (y : DataW H × List MemPlace) (h : DataW.trod enc Tryz.prog W 0 sp held n 28 cs = some y) : cs.length = 4 ∧ ∀ i, i < 4 → ∃ z, cs[i]? = some (.int .i64 z) := by
 have := trod_cells Tryz.underlying28 (fun i hi => match i, hi with
  | 0, _ => ⟨_, rfl, Tryz.underlying3, cellsOf3, rfl⟩
  | 1, _ => ⟨_, rfl, Tryz.underlying3, cellsOf3, rfl⟩
  | 2, _ => ⟨_, rfl, Tryz.underlying3, cellsOf3, rfl⟩
  | 3, _ => ⟨_, rfl, Tryz.underlying3, cellsOf3, rfl⟩) h
 rw [cellsOf28] at this
 exact this
theorem trod_cap {t e : TypeId} {fuel : Nat} {ad : Option Addr} {k cap : Nat} {x : DataW H × List MemPlace} (ht : Tryz.prog.underlying t = some (.slice e)) (h : DataW.trod enc Tryz.prog W 0 sp held fuel t [.slice ad k cap] = some x) : k ≤ cap := by
 rcases DataW.trod_slice ht h with ⟨e1, _⟩ | ⟨a, len, cap', elems, rest, n, _, e1, _, _, hm, _⟩
 ·cases e1; exact Nat.le_refl _
 ·cases e1; exact hm
theorem openI {fuel : Nat} {cs : List Value} {x : DataW H × List MemPlace} (h : DataW.trod enc Tryz.prog W 0 sp held fuel 23 cs = some x) : ∃ (ad : Option Addr) (cap : Nat) (l : List Int), cs = [.slice ad l.length cap] ∧ IntsAt (startL W) ad l ∧ (l.length = 0 ∨ ∃ es s, x.1 = .slice es s ∧ es.length = l.length) :=
 open_rows (k := 1) (encA := encI) (mk := fun z => z 0) Tryz.underlying23 cellsOf3 el3 (fun z j v hv => match j, hv with
  | 0, hv => by cases hv; exact ⟨by decide, rfl⟩) h
theorem openWt {fuel : Nat} {cs : List Value} {x : DataW H × List MemPlace} (h : DataW.trod enc Tryz.prog W 0 sp held fuel 24 cs = some x) : ∃ (ad : Option Addr) (cap : Nat) (l : List Want), cs = [.slice ad l.length cap] ∧ SlAt (startL W) ad 4 encWt l ∧ (l.length = 0 ∨ ∃ es s, x.1 = .slice es s ∧ es.length = l.length) :=
 open_rows (k := 4) (encA := encWt) (mk := fun z => ⟨z 0, z 1, z 2, z 3⟩) Tryz.underlying24 cellsOf28 (fun n cs y h => (el28 n cs y h).2) (fun z j v hv => match j, hv with
  | 0, hv => by cases hv; exact ⟨by decide, rfl⟩
  | 1, hv => by cases hv; exact ⟨by decide, rfl⟩
  | 2, hv => by cases hv; exact ⟨by decide, rfl⟩
  | 3, hv => by cases hv; exact ⟨by decide, rfl⟩) h
theorem openRR {fuel : Nat} {cs : List Value} {x : DataW H × List MemPlace} (h : DataW.trod enc Tryz.prog W 0 sp held fuel 22 cs = some x) : ∃ (ad : Option Addr) (cap : Nat) (ls : List (List Int)), cs = [.slice ad ls.length cap] ∧ RowsAt (startL W) ad 1 encI ls := by
 rcases DataW.trod_slice Tryz.underlying22 h with ⟨rfl, rfl⟩ | ⟨a, len, cap, elems, rest, n, _, rfl, rfl, hb, hl, hm, hlen, hel2, _, _⟩
 ·exact ⟨none, 0, [], rfl, [], rfl, fun i x hx => by simp at hx, fun x hx => by cases hx⟩
 ·have each : ∀ i, i < len → ∃ q : Rw Int, (startL W).cell? (a.add i) = some (slV q.1) ∧ RwOk (startL W) 1 encI q := by
   intro i hi
   have h1 := hel2 i hi
   rw [List.getElem?_eq_getElem (by omega)] at h1
   obtain ⟨cs', h2, h3⟩ := Option.bind_eq_some_iff.1 h1
   rw [cellsOf23] at h2
   obtain ⟨_, hlen', hcell⟩ := World.cells?_some h2
   obtain ⟨ad, cp, l, rfl, hi2, _⟩ := openI h3
   have hcp := trod_cap Tryz.underlying23 h3
   refine ⟨((ad, l.length, cp), l), ?_, hi2, rfl, hcp⟩
   have := hcell 0 (by decide)
   rw [add_add] at this
   have := start_cell this
   simpa using this
  obtain ⟨rs, h1, h2⟩ := list_choose len each
  refine ⟨some a, cap, rs.map Prod.snd, by rw [List.length_map, h1], rs, rfl, fun i q hq => ⟨a, rfl, fun j v hv => ?_⟩, fun q hq => ?_⟩
  ·match j, hv with
   | 0, hv =>
    cases hv
    simpa using (h2 i q hq).1
  ·obtain ⟨i, hi, rfl⟩ := List.getElem_of_mem hq
   exact (h2 i _ (List.getElem?_eq_getElem hi)).2
theorem list4 {α : Type} {l : List α} (h : l.length = 4) : ∃ a b c d, l = [a, b, c, d] := by
 match l, h with
 | [a, b, c, d], _ => exact ⟨a, b, c, d, rfl⟩
theorem open_want {base : Nat} {v : Value} {d : DataW H} {ps : List MemPlace} (hv : Value.okWide Tryz.prog W .any base 28 v) (h : DataW.Trod enc Tryz.prog W 0 sp held 28 v d ps) : ∃ c : Want, v = .agg (encWt c).toArray := by
 obtain ⟨cs, rfl, _⟩ := okWide_struct Tryz.underlying28 hv
 obtain ⟨fuel, hf⟩ := h
 obtain ⟨hl, hz⟩ := el28 _ _ _ hf
 obtain ⟨a, b, c, d', hc⟩ := list4 hl
 rw [hc] at hz
 obtain ⟨z0, h0⟩ := hz 0 (by decide)
 obtain ⟨z1, h1⟩ := hz 1 (by decide)
 obtain ⟨z2, h2⟩ := hz 2 (by decide)
 obtain ⟨z3, h3⟩ := hz 3 (by decide)
 cases h0; cases h1; cases h2; cases h3
 exact ⟨⟨z0, z1, z2, z3⟩, congrArg Value.agg (Array.toList_inj.1 hc)⟩
theorem open_nums {base : Nat} {v : Value} {d : DataW H} {ps : List MemPlace} (hv : Value.okWide Tryz.prog W .any base 23 v) (h : DataW.Trod enc Tryz.prog W 0 sp held 23 v d ps) (hw : ∀ m ∈ d.weights Tryz.prog 23, m ≤ reachBytes) :
  ∃ (ad : Option Addr) (cap : Nat) (l : List Int), v = .slice ad l.length cap ∧ IntsAt (startL W) ad l ∧ l.length ≤ 140737488355328 := by
 obtain ⟨a0, len, cap, rfl⟩ := okWide_slice Tryz.underlying23 hv
 obtain ⟨fuel, hf⟩ := h
 obtain ⟨ad, cp, l, hc, hi, hl⟩ := openI hf
 have hc' : [Value.slice a0 len cap] = [Value.slice ad l.length cp] := by simpa [Value.cells] using hc
 cases hc'
 refine ⟨_, _, l, rfl, hi, ?_⟩
 rcases hl with hl | ⟨es, s, rfl, he⟩
 ·omega
 ·have := hw ((es.length + s.length) * Tryz.prog.bytesOf 3) (by unfold DataW.weights; rw [Tryz.underlying23]; exact List.mem_cons_self)
  rw [bytesOf3] at this
  unfold reachBytes at this
  omega
theorem open_saw {base : Nat} {v : Value} {d : DataW H} {ps : List MemPlace} (hv : Value.okWide Tryz.prog W .any base 26 v) (h : DataW.Trod enc Tryz.prog W 0 sp held 26 v d ps) :
  ∃ (s : Sw) (p : Wp), v = swA s p ∧ SwAt (startL W) s p := by
 obtain ⟨cs, rfl, _⟩ := okWide_struct Tryz.underlying26 hv
 obtain ⟨fuel, hf⟩ := h
 obtain ⟨xs, n, rfl, hx, hlc, hlx, hall⟩ := DataW.trod_struct Tryz.underlying26 hf
 rw [cellsOf26] at hlc
 obtain ⟨c0, c1, c2, c3, hc⟩ := list4 hlc
 obtain ⟨x0, x1, x2, x3, rfl⟩ := list4 hlx
 rw [hc] at hall
 have h0 := hall 0 _ rfl
 have h1 := hall 1 _ rfl
 have h2 := hall 2 _ rfl
 have h3 := hall 3 _ rfl
 simp only [cellsOf22, cellsOf23, cellsOf24, cellsOf3, List.drop_succ_cons, List.drop_zero, List.take_succ_cons, List.take_zero, List.getElem?_cons_zero, List.getElem?_cons_succ] at h0 h1 h2 h3
 obtain ⟨la, k0, l0, e0, i0⟩ := openRR h0
 obtain ⟨sa, k1, l1, e1, i1, _⟩ := openI h1
 obtain ⟨z2, e2, _⟩ := DataW.trod_int Tryz.underlying3 h2
 obtain ⟨wa, k3, l3, e3, i3, _⟩ := openWt h3
 cases e0; cases e1; cases e2; cases e3
 exact ⟨⟨l0, l1, z2, l3⟩, ⟨la, sa, wa, k0, k1, k3⟩, congrArg Value.agg (Array.toList_inj.1 hc), i0, i1, i3, trod_cap Tryz.underlying24 h3⟩
end
end Go.Mz

