/- Lemmas on which the claim leans. -/
import Derived.Conc.CrowdSel
set_option linter.unusedSimpArgs false
namespace Go.Mz
open Go.Conc
theorem sel_recv_meets_some {P : Program} {gs : Array Goroutine} {w w₁ : World} {sl : Option (Nat × Nat)} {i k : Nat} {g g₂ : Goroutine} {es : Array Event} {cases : Array CommCase} {shape : CommShape} {blocking : Bool} {c cap s r : Nat} {closed tm : Bool} {z : Value}
  (hi : gs[i]? = some g) (h : stepG P (i == 0) g w = .comm g₂ cases blocking shape w₁ es) (hk : cases[k]? = some (rcase c z))
  (ho : ∀ (m : Nat) (c' : CommCase), m ≠ k → cases[m]? = some c' → NoWays w₁ (gs.setIfInBounds i ph) c')
  (hc : w₁.heap[c]? = some (.chan cap #[] closed s r tm))
  (hne : partners (gs.setIfInBounds i ph) c true ≠ [])
  (hall : ∀ j k, (j, k) ∈ partners (gs.setIfInBounds i ph) c true → k = 0 ∧ j ≠ i ∧ ∃ gj vj zj shj, gs[j]? = some (parked gj #[scase c vj zj] shj)) :
  ∃ (j : Nat) (gj : Goroutine) (vj zj : Value) (shj : CommShape) (d : Nat), j ≠ i ∧ gs[j]? = some (parked gj #[scase c vj zj] shj) ∧
   runT P (crowd gs w sl) i = (.next (crowd ((gs.setIfInBounds j (gj.finishComm P #[scase c vj zj] shj 0 undef false)).setIfInBounds i (g₂.finishComm P cases shape k vj true)) ((w₁.at d).setChan c cap #[] closed (s + 1) (r + 1) tm) sl),
    MemOp.ofEvents i g.frame.fn g.frame.place es ++ #[{ g := j, fn := gj.frame.fn, pos := gj.frame.place, act := .send c s }, { g := i, fn := g₂.frame.fn, pos := g₂.frame.place, act := .recv c r cap },
     { g := j, fn := gj.frame.fn, pos := gj.frame.place, act := .sendDone c s }, { g := i, fn := g₂.frame.fn, pos := g₂.frame.place, act := .recvDone c r }]) := by
 generalize hps : partners (gs.setIfInBounds i ph) c true = ps at hne hall
 have hlen : 0 < ps.length := List.length_pos_iff.2 hne
 obtain ⟨b, d, hb, hpick⟩ : ∃ b d, b < ps.length ∧ (if (Question.extern "which waiting goroutine is the partner" ps.length).forced = true then (b = 0 ∧ d = w₁.drawn) else (b = (Question.extern "which waiting goroutine is the partner" ps.length).cut (w₁.tape w₁.drawn (.extern "which waiting goroutine is the partner" ps.length)) ∧ d = w₁.drawn + 1)) := by
  by_cases hf : (Question.extern "which waiting goroutine is the partner" ps.length).forced = true
  ·exact ⟨0, w₁.drawn, hlen, by rw [if_pos hf]; exact ⟨rfl, rfl⟩⟩
  ·refine ⟨_, w₁.drawn + 1, ?_, by rw [if_neg hf]; exact ⟨rfl, rfl⟩⟩
   simp only [Question.cut]
   rw [if_neg (by omega)]
   exact Nat.mod_lt _ hlen
 obtain ⟨⟨j, k'⟩, hjk⟩ : ∃ p, ps[b]? = some p := ⟨ps[b], List.getElem?_eq_getElem hb⟩
 obtain ⟨rfl, hij, gj, vj, zj, shj, hj⟩ := hall j k' (List.mem_of_getElem? hjk)
 refine ⟨j, gj, vj, zj, shj, d, hij, hj, ?_⟩
 have hj' := stand_get (i := i) hij hj
 have hfp := finishPartner_at P (gs.setIfInBounds i ph) hj' (cs := #[scase c vj zj]) (sh := shj) rfl 0 undef
 have hgd : (gs.setIfInBounds i ph).getD j default = parked gj #[scase c vj zj] shj := by rw [Array.getD_eq_getD_getElem?, hj']; rfl
 have hov : offeredValue (gs.setIfInBounds i ph) j 0 = vj := by simp [offeredValue, hj', parked, scase]
 have hw : ways w₁ (gs.setIfInBounds i ph) (rcase c z) = ps.map fun (h, k) => Way.partner h k := by
  simp only [ways, rcase, hc, hps]
  cases ps with
  | nil => exact absurd rfl hne
  | cons p ps => simp
 have hgm := getD_map_partner ps b (j, 0) hjk
 rw [runT_crowd_comm hi h]
 unfold communicate
 simp only [ready_one hk (by rw [hw]; cases ps with
  | nil => exact absurd rfl hne
  | cons p ps => simp) ho, hw]
 rw [if_neg]
 ·by_cases hf : (Question.extern "which waiting goroutine is the partner" ps.length).forced = true
  ·rw [if_pos hf] at hpick
   obtain ⟨rfl, rfl⟩ := hpick
   have hf' : ps.length = 1 := by simpa [Question.forced] using hf
   have e0 : ps[0]'hlen = (j, 0) := (List.getElem?_eq_some_iff.1 hjk).2
   simp [choose, Sem.run, Question.forced, bind, Sem.bind, pure, hf', hgm, hjk, e0, hj', hov, rcase, hc, World.setChan, crowd, hfp, hgd, set_stand2, finishComm_parked, scase, parked, World.at]
   rfl
  ·rw [if_neg hf] at hpick
   obtain ⟨rfl, rfl⟩ := hpick
   have hf' : ¬ ps.length = 1 := by simpa [Question.forced] using hf
   simp [choose, Sem.run, Question.forced, bind, Sem.bind, pure, hf', hgm, hjk, hj', hov, rcase, hc, World.setChan, crowd, hfp, hgd, set_stand2, finishComm_parked, scase, parked, World.at]
   rfl
 ·rw [Bool.not_eq_true]; exact any_ill (made_of_one hk (made_recv z hc) ho)
end Go.Mz

