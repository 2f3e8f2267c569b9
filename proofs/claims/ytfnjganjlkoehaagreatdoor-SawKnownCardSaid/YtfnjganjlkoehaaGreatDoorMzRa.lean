/- Lemmas on which the claim leans. -/
import Derived.Test.YtfnjganjlkoehaaGreatDoorMzAs
import Derived.ProofKit
import Derived.Conc.LeavingOf
import Derived.Conc.CrowdRun
set_option maxRecDepth 100000
namespace Go.Mz
open Go.Conc Go.ConcN
def startL (W : World) : LH := fun b => (W.heap[b]?).map fun o => (o, false)
theorem start_sub (W : World) : Sub (startL W) W := fun b o wr h => by
 unfold startL at h
 cases hb : W.heap[b]? with
 | none => rw [hb] at h; cases h
 | some x => rw [hb] at h; cases h; rfl
theorem start_cell {W : World} {a : Addr} {v : Value} (h : W.cell? a = some v) : (startL W).cell? a = some v := by
 unfold World.cell? at h
 unfold LH.cell? startL
 cases hb : W.heap[a.block]? with
 | none => rw [hb] at h; cases h
 | some x => rw [hb] at h; cases x <;> first | exact h | cases h
theorem root_runs {P : Program} {Q : Value → World → Prop} {W : World} {g : Goroutine} (h : FGo P Q W g (startL W)) : RunsGood P Q (solo g W) #[] := by
 have h1 := h #[g] W none #[] (fun _ => 0) (fun _ => False) rfl (start_sub W) ⟨rfl, rfl, rfl⟩ ⟨fun i g' hi hg => ?_, fun j hj => ?_⟩ ⟨?_, ?_, ?_, ?_, ?_⟩ (fun b hb => hb.elim)
 ·exact h1
 ·exfalso
  rw [Array.getElem?_eq_none (by simp; omega)] at hg; cases hg
 ·simp [Deaf, Trace.deaf]
 ·exact noRace_nil
 ·intro i a b h; simp [touchAt, Trace.act?] at h
 ·intro i g' h; simp [Trace.g?] at h
 ·simp [Deaf, Trace.deaf]
 ·intro i a b h; simp [touchAt, Trace.act?] at h
section
variable {H : Type} {enc : TypeId × Value → H} {P : Program} {W : World} {sp : Nat → Bool} {held : Bool}
theorem all_stays (hl : laidOutB P = true) : ∀ {ts : List TypeId} {vs : List Value} {ds : List (DataW H)} {ps : List MemPlace} {W' : World}, (∀ t ∈ ts, P.readableRec t = true ∧ t < P.types.size) → DataW.TrodAll enc P W 0 (fun _ => true) true ts vs ds ps → Go.RowKit.Below W.heap.size W W' → (∀ x ∈ ps, x.block < W.heap.size) →
  DataW.TrodAll enc P W' 0 (fun b => decide (b < W.heap.size)) true ts vs ds ps
 | [], [], [], ps, W', _, h, _, _ => h
 | t :: ts, v :: vs, d :: ds, ps, W', hr, h, hb, hlt => by
  obtain ⟨p, q, h1, h2, rfl⟩ := h
  obtain ⟨r1, r2⟩ := hr t List.mem_cons_self
  exact ⟨p, q, Go.RowKit.Below.trod hl r1 r2 h1 hb (fun x hx => hlt x (List.mem_append_left _ hx)), all_stays hl (fun t ht => hr t (List.mem_cons_of_mem _ ht)) h2 hb (fun x hx => hlt x (List.mem_append_right _ hx)), rfl⟩
 | [], _ :: _, _, _, _, _, h, _, _ => by cases h
 | [], [], _ :: _, _, _, _, h, _, _ => by cases h
 | _ :: _, [], _, _, _, _, h, _, _ => by cases h
 | _ :: _, _ :: _, [], _, _, _, h, _, _ => by cases h
end
end Go.Mz

