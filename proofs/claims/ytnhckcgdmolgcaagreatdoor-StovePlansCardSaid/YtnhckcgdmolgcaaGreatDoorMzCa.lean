/- Lemmas on which the claim leans. -/
import Derived.Test.YtnhckcgdmolgcaaGreatDoorMzLa
import Derived.Test.YtnhckcgdmolgcaaGreatDoorMzRd
import Derived.Test.YtnhckcgdmolgcaaGreatDoorMzSaa
import Derived.Test.YtnhckcgdmolgcaaGreatDoorMzSba
set_option maxRecDepth 100000
namespace Go.Mz
open Go.Conc Go.ConcN Go.Proofs Go.ChangeShapes Go.WideShapes
section
variable {H : Type} {enc : TypeId × Value → H} {W : World} {sp : Nat → Bool} {held : Bool}
theorem bytesOf30 : Tryz.prog.bytesOf 30 = 16 := by kernel_rfl
theorem openSt {fuel : Nat} {cs : List Value} {x : DataW H × List MemPlace} (h : DataW.trod enc Tryz.prog W 0 sp held fuel 41 cs = some x) : ∃ (ad : Option Addr) (cap : Nat) (l : List Stand), cs = [.slice ad l.length cap] ∧ SlAt (startL W) ad 2 encSt l ∧ (l.length = 0 ∨ ∃ es s, x.1 = .slice es s ∧ es.length = l.length) :=
 open_rows (k := 2) (encA := encSt) (mk := fun z => ⟨z 0, z 1⟩) Tryz.underlying41 cellsOf30 (fun n cs y h => (el30 n cs y h).2) (fun z j v hv => match j, hv with
  | 0, hv => by cases hv; exact ⟨by decide, rfl⟩
  | 1, hv => by cases hv; exact ⟨by decide, rfl⟩) h
theorem open_stands {base : Nat} {v : Value} {d : DataW H} {ps : List MemPlace} (hv : Value.okWide Tryz.prog W .any base 41 v) (h : DataW.Trod enc Tryz.prog W 0 sp held 41 v d ps) (hw : ∀ m ∈ d.weights Tryz.prog 41, m ≤ reachBytes) :
  ∃ (ad : Option Addr) (cap : Nat) (l : List Stand), v = .slice ad l.length cap ∧ SlAt (startL W) ad 2 encSt l ∧ l.length ≤ 140737488355328 := by
 obtain ⟨a0, len, cap, rfl⟩ := okWide_slice Tryz.underlying41 hv
 obtain ⟨fuel, hf⟩ := h
 obtain ⟨ad, cp, l, hc, hi, hl⟩ := openSt hf
 have hc' : [Value.slice a0 len cap] = [Value.slice ad l.length cp] := by simpa [Value.cells] using hc
 cases hc'
 refine ⟨_, _, l, rfl, hi, ?_⟩
 rcases hl with hl | ⟨es, s, rfl, he⟩
 ·omega
 ·have := hw ((es.length + s.length) * Tryz.prog.bytesOf 30) (by unfold DataW.weights; rw [Tryz.underlying41]; exact List.mem_cons_self)
  rw [bytesOf30] at this
  unfold reachBytes at this
  omega
end
end Go.Mz

