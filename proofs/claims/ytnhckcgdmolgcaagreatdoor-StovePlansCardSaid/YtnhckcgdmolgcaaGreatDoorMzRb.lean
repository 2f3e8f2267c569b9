/- Lemmas on which the claim leans. -/
import Derived.Test.YtnhckcgdmolgcaaGreatDoorMzRa
import Derived.KernelRfl
set_option maxRecDepth 100000
namespace Go.Mz
open Go.Conc Go.ConcN Go.Proofs Go.ChangeShapes Go.WideShapes
section
variable {H : Type} {enc : TypeId × Value → H} {W : World} {sp : Nat → Bool} {held : Bool}
theorem cellsOf3 : Tryz.prog.cellsOf 3 = 1 := by kernel_rfl
theorem cellsOf22 : Tryz.prog.cellsOf 22 = 1 := by kernel_rfl
theorem cellsOf23 : Tryz.prog.cellsOf 23 = 1 := by kernel_rfl
theorem cellsOf25 : Tryz.prog.cellsOf 25 = 6 := by kernel_rfl
theorem cellsOf27 : Tryz.prog.cellsOf 27 = 4 := by kernel_rfl
theorem cellsOf30 : Tryz.prog.cellsOf 30 = 2 := by kernel_rfl
theorem cellsOf59 : Tryz.prog.cellsOf 59 = 2 := by kernel_rfl
theorem bytesOf59 : Tryz.prog.bytesOf 59 = 16 := by kernel_rfl
theorem bytesOf27 : Tryz.prog.bytesOf 27 = 32 := by kernel_rfl
theorem bytesOf3 : Tryz.prog.bytesOf 3 = 8 := by kernel_rfl
theorem el3 (n : Nat) (cs : List Value) (y : DataW H × List MemPlace) (h : DataW.trod enc Tryz.prog W 0 sp held n 3 cs = some y) (i : Nat) (hi : i < 1) : ∃ z, cs[i]? = some (.int .i64 z) := by
 obtain ⟨z, rfl, _⟩ := DataW.trod_int Tryz.underlying3 h
 obtain rfl : i = 0 := by omega
 exact ⟨z, rfl⟩
theorem el59 (n : Nat) (cs : List Value) (y : DataW H × List MemPlace) (h : DataW.trod enc Tryz.prog W 0 sp held n 59 cs = some y) (i : Nat) (hi : i < 2) : ∃ z, cs[i]? = some (.int .i64 z) :=
 (trod_cells Tryz.underlying59 (fun i hi => match i, hi with
  | 0, _ => ⟨_, rfl, Tryz.underlying3, cellsOf3, rfl⟩
  | 1, _ => ⟨_, rfl, Tryz.underlying3, cellsOf3, rfl⟩) h).2 i hi
theorem el30 (n : Nat) (cs : List Value) (y : DataW H × List MemPlace) (h : DataW.trod enc Tryz.prog W 0 sp held n 30 cs = some y) : cs.length = 2 ∧ ∀ i, i < 2 → ∃ z, cs[i]? = some (.int .i64 z) := by
 have := trod_cells Tryz.underlying30 (fun i hi => match i, hi with
  | 0, _ => ⟨_, rfl, Tryz.underlying3, cellsOf3, rfl⟩
  | 1, _ => ⟨_, rfl, Tryz.underlying3, cellsOf3, rfl⟩) h
 rw [cellsOf30] at this
 exact this
theorem el27 (n : Nat) (cs : List Value) (y : DataW H × List MemPlace) (h : DataW.trod enc Tryz.prog W 0 sp held n 27 cs = some y) : cs.length = 4 ∧ ∀ i, i < 4 → ∃ z, cs[i]? = some (.int .i64 z) := by
 have := trod_cells Tryz.underlying27 (fun i hi => match i, hi with
  | 0, _ => ⟨_, rfl, Tryz.underlying3, cellsOf3, rfl⟩
  | 1, _ => ⟨_, rfl, Tryz.underlying3, cellsOf3, rfl⟩
  | 2, _ => ⟨_, rfl, Tryz.underlying3, cellsOf3, rfl⟩
  | 3, _ => ⟨_, rfl, Tryz.underlying3, cellsOf3, rfl⟩) h
 rw [cellsOf27] at this
 exact this
theorem openI {fuel : Nat} {cs : List Value} {x : DataW H × List MemPlace} (h : DataW.trod enc Tryz.prog W 0 sp held fuel 28 cs = some x) : ∃ (ad : Option Addr) (cap : Nat) (l : List Int), cs = [.slice ad l.length cap] ∧ IntsAt (startL W) ad l ∧ (l.length = 0 ∨ ∃ es s, x.1 = .slice es s ∧ es.length = l.length) :=
 open_rows (k := 1) (encA := encI) (mk := fun z => z 0) Tryz.underlying28 cellsOf3 el3 (fun z j v hv => match j, hv with
  | 0, hv => by cases hv; exact ⟨by decide, rfl⟩) h
theorem openSh {fuel : Nat} {cs : List Value} {x : DataW H × List MemPlace} (h : DataW.trod enc Tryz.prog W 0 sp held fuel 22 cs = some x) : ∃ (ad : Option Addr) (cap : Nat) (l : List Shelf), cs = [.slice ad l.length cap] ∧ SlAt (startL W) ad 2 encSh l ∧ (l.length = 0 ∨ ∃ es s, x.1 = .slice es s ∧ es.length = l.length) :=
 open_rows (k := 2) (encA := encSh) (mk := fun z => ⟨z 0, z 1⟩) Tryz.underlying22 cellsOf59 el59 (fun z j v hv => match j, hv with
  | 0, hv => by cases hv; exact ⟨by decide, rfl⟩
  | 1, hv => by cases hv; exact ⟨by decide, rfl⟩) h
theorem openCo {fuel : Nat} {cs : List Value} {x : DataW H × List MemPlace} (h : DataW.trod enc Tryz.prog W 0 sp held fuel 23 cs = some x) : ∃ (ad : Option Addr) (cap : Nat) (l : List Cone), cs = [.slice ad l.length cap] ∧ SlAt (startL W) ad 4 encCo l ∧ (l.length = 0 ∨ ∃ es s, x.1 = .slice es s ∧ es.length = l.length) :=
 open_rows (k := 4) (encA := encCo) (mk := fun z => ⟨z 0, z 1, z 2, z 3⟩) Tryz.underlying23 cellsOf27 (fun n cs y h => (el27 n cs y h).2) (fun z j v hv => match j, hv with
  | 0, hv => by cases hv; exact ⟨by decide, rfl⟩
  | 1, hv => by cases hv; exact ⟨by decide, rfl⟩
  | 2, hv => by cases hv; exact ⟨by decide, rfl⟩
  | 3, hv => by cases hv; exact ⟨by decide, rfl⟩) h
theorem list6 {α : Type} {l : List α} (h : l.length = 6) : ∃ a b c d e f, l = [a, b, c, d, e, f] := by
 match l, h with
 | [a, b, c, d, e, f], _ => exact ⟨a, b, c, d, e, f, rfl⟩
theorem list4 {α : Type} {l : List α} (h : l.length = 4) : ∃ a b c d, l = [a, b, c, d] := by
 match l, h with
 | [a, b, c, d], _ => exact ⟨a, b, c, d, rfl⟩
theorem open_cone {base : Nat} {v : Value} {d : DataW H} {ps : List MemPlace} (hv : Value.okWide Tryz.prog W .any base 27 v) (h : DataW.Trod enc Tryz.prog W 0 sp held 27 v d ps) : ∃ c : Cone, v = .agg (encCo c).toArray := by
 obtain ⟨cs, rfl, _⟩ := okWide_struct Tryz.underlying27 hv
 obtain ⟨fuel, hf⟩ := h
 obtain ⟨hl, hz⟩ := el27 _ _ _ hf
 obtain ⟨a, b, c, d', hc⟩ := list4 hl
 rw [hc] at hz
 obtain ⟨z0, h0⟩ := hz 0 (by decide)
 obtain ⟨z1, h1⟩ := hz 1 (by decide)
 obtain ⟨z2, h2⟩ := hz 2 (by decide)
 obtain ⟨z3, h3⟩ := hz 3 (by decide)
 cases h0; cases h1; cases h2; cases h3
 exact ⟨⟨z0, z1, z2, z3⟩, congrArg Value.agg (Array.toList_inj.1 hc)⟩
theorem open_nums {base : Nat} {v : Value} {d : DataW H} {ps : List MemPlace} (hv : Value.okWide Tryz.prog W .any base 28 v) (h : DataW.Trod enc Tryz.prog W 0 sp held 28 v d ps) (hw : ∀ m ∈ d.weights Tryz.prog 28, m ≤ reachBytes) :
  ∃ (ad : Option Addr) (cap : Nat) (l : List Int), v = .slice ad l.length cap ∧ IntsAt (startL W) ad l ∧ l.length ≤ 140737488355328 := by
 obtain ⟨a0, len, cap, rfl⟩ := okWide_slice Tryz.underlying28 hv
 obtain ⟨fuel, hf⟩ := h
 obtain ⟨ad, cp, l, hc, hi, hl⟩ := openI hf
 have hc' : [Value.slice a0 len cap] = [Value.slice ad l.length cp] := by simpa [Value.cells] using hc
 cases hc'
 refine ⟨_, _, l, rfl, hi, ?_⟩
 rcases hl with hl | ⟨es, s, rfl, he⟩
 ·omega
 ·have := hw ((es.length + s.length) * Tryz.prog.bytesOf 3) (by unfold DataW.weights; rw [Tryz.underlying28]; exact List.mem_cons_self)
  rw [bytesOf3] at this
  unfold reachBytes at this
  omega
theorem open_stove {base : Nat} {v : Value} {d : DataW H} {ps : List MemPlace} (hv : Value.okWide Tryz.prog W .any base 25 v) (h : DataW.Trod enc Tryz.prog W 0 sp held 25 v d ps) (hw : ∀ m ∈ d.weights Tryz.prog 25, m ≤ reachBytes) :
  ∃ (s : St) (p : Pt), v = stA s p ∧ StAt (startL W) s p := by
 obtain ⟨cs, rfl, _⟩ := okWide_struct Tryz.underlying25 hv
 obtain ⟨fuel, hf⟩ := h
 obtain ⟨xs, n, rfl, hx, hlc, hlx, hall⟩ := DataW.trod_struct Tryz.underlying25 hf
 rw [cellsOf25] at hlc
 obtain ⟨c0, c1, c2, c3, c4, c5, hc⟩ := list6 hlc
 obtain ⟨x0, x1, x2, x3, x4, x5, rfl⟩ := list6 hlx
 rw [hc] at hall
 have h0 := hall 0 _ rfl
 have h1 := hall 1 _ rfl
 have h2 := hall 2 _ rfl
 have h3 := hall 3 _ rfl
 have h4 := hall 4 _ rfl
 have h5 := hall 5 _ rfl
 simp only [cellsOf22, cellsOf23, cellsOf3, List.drop_succ_cons, List.drop_zero, List.take_succ_cons, List.take_zero, List.getElem?_cons_zero, List.getElem?_cons_succ] at h0 h1 h2 h3 h4 h5
 obtain ⟨sa, k1, l1, e0, i0, w0⟩ := openSh h0
 obtain ⟨ca, k2, l2, e1, i1, w1⟩ := openCo h1
 obtain ⟨z2, e2, _⟩ := DataW.trod_int Tryz.underlying3 h2
 obtain ⟨z3, e3, _⟩ := DataW.trod_int Tryz.underlying3 h3
 obtain ⟨z4, e4, _⟩ := DataW.trod_int Tryz.underlying3 h4
 obtain ⟨z5, e5, _⟩ := DataW.trod_int Tryz.underlying3 h5
 cases e0; cases e1; cases e2; cases e3; cases e4; cases e5
 simp only [Prod.mk.injEq] at hx
 obtain ⟨rfl, _⟩ := hx
 have hw' : ∀ m, m ∈ x0.1.weights Tryz.prog 22 ∨ m ∈ x1.1.weights Tryz.prog 23 → m ≤ reachBytes := fun m hm => hw m (by
  unfold DataW.weights
  rw [Tryz.underlying25]
  simp only [List.map_cons, List.map_nil, DataW.weightsEach, List.mem_append]
  rcases hm with hm | hm
  ·exact .inl hm
  ·exact .inr (.inl hm))
 refine ⟨⟨l1, l2, z2, z3, z4, z5⟩, ⟨sa, ca, k1, k2⟩, congrArg Value.agg (Array.toList_inj.1 hc), i0, i1, ?_, ?_⟩
 ·show l1.length ≤ _
  rcases w0 with hl | ⟨es, s, he, hl⟩
  ·omega
  ·have := hw' ((es.length + s.length) * Tryz.prog.bytesOf 59) (.inl (by rw [he]; unfold DataW.weights; rw [Tryz.underlying22]; exact List.mem_cons_self))
   rw [bytesOf59] at this
   unfold reachBytes at this
   omega
 ·show l2.length ≤ _
  rcases w1 with hl | ⟨es, s, he, hl⟩
  ·omega
  ·have := hw' ((es.length + s.length) * Tryz.prog.bytesOf 27) (.inr (by rw [he]; unfold DataW.weights; rw [Tryz.underlying23]; exact List.mem_cons_self))
   rw [bytesOf27] at this
   unfold reachBytes at this
   omega
end
end Go.Mz

