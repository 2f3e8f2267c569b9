/- Lemmas on which the claim leans. -/
import Derived.Test.YtjhpkghkgaekcaaGreatDoorMzAi
import Derived.Conc.Beside
namespace Go.Mz
open Go.Conc
open Go.ConcN (sumTo upd sumTo_upd upd_ne upd_same)
def OsL (o o' : Os) : Prop := ∃ d : Nat, o' = { o with wall := o.wall + d, mono := o.mono + d }
theorem OsL.refl (o : Os) : OsL o o := ⟨0, rfl⟩
theorem OsL.eq {a b c : Os} (h : OsL a b) (e : c = b) : OsL a c := by rw [e]; exact h
structure Same (W w : World) : Prop where
 tape : w.tape = W.tape
 os : OsL W.os w.os
 out : w.output = W.output
theorem Same.tr {W w w' : World} {L L' : LH} {es : Array Event} (h : Same W w) (ht : Tr L L' w w' es) : Same W w' := ⟨ht.tape.trans h.tape, h.os.eq ht.os, ht.out.trans h.out⟩
theorem Same.at {W w : World} (h : Same W w) (d : Nat) : Same W (w.at d) := ⟨h.tape, h.os, h.out⟩
def RunsGood (P : Program) (Post : Value → World → Prop) (m : Machine) (t : Trace) : Prop :=
 ∃ n last o w' t', runNT P (n + 1) m t = (.ended o w', t') ∧ runN P n m = .next last ∧ step P last = .ended o w' ∧ Good P Post last o w' t'
theorem RunsGood.next {P : Program} {Post : Value → World → Prop} {m m' : Machine} {t : Trace} {ops : Array MemOp} (h : stepT P m = (.next m', ops)) (hr : RunsGood P Post m' (t ++ ops)) : RunsGood P Post m t := by
 obtain ⟨n, last, o, w, t', h1, h2, h3, h4⟩ := hr
 exact ⟨n + 1, last, o, w, t', by rw [runNT_succ_next h]; exact h1, by rw [runN_succ_next h]; exact h2, h3, h4⟩
def blkOf : Loc → Option Nat
 | .cell a => some a.block
 | .obj r => some r
 | _ => none
theorem touch_ofEvent {e : Event} {L : LH} (h : EvOk L e) {x : Touch} (hx : (MemAct.ofEvent e).touch? = some x) : ∃ b o wr, blkOf x.loc = some b ∧ L b = some (o, wr) ∧ (x.write = true → wr = true) := by
 obtain ⟨loc, w, sy⟩ := e
 cases loc with
 | cell a =>
  obtain ⟨h1, o, wr, h2, h3⟩ := h
  simp only [MemAct.ofEvent, MemAct.touch?, Option.some.injEq] at hx
  subst hx
  exact ⟨_, o, wr, rfl, h2, h3⟩
 | obj r =>
  obtain ⟨h1, o, wr, h2, h3⟩ := h
  simp only at h1
  subst h1
  simp only [MemAct.ofEvent, MemAct.touch?, Option.some.injEq] at hx
  subst hx
  exact ⟨_, o, wr, rfl, h2, h3⟩
 | mark m => rcases h with rfl | ⟨f, rfl⟩ <;> simp [MemAct.ofEvent, MemAct.touch?] at hx
 | output => exact h.elim
 | goroutines => exact h.elim
structure Past0 (S : Nat → Prop) (n : Nat) (t : Trace) : Prop where
 clean : ∀ said, ¬ Race said t
 known : ∀ i a b, touchAt t i = some a → blkOf a.loc = some b → Knows t 0 i ∨ (S b ∧ a.kind = .atomic)
 over : t.HandedOver
 hears : Deaf t 0 = 0
 seen : ∀ i a b, touchAt t i = some a → blkOf a.loc = some b → b < n
theorem Past0.own {S : Nat → Prop} {n n' : Nat} {t : Trace} (h : Past0 S n t) (hn : n ≤ n') {L : LH} {fn : FuncId} {pos : String} {es : Array Event} (hes : ∀ e ∈ es, EvOk L e) (hL : ∀ b, L b ≠ none → b < n' ∧ ¬ S b) :
  Past0 S n' (t ++ MemOp.ofEvents 0 fn pos es) := by
 have hop : ∀ op ∈ MemOp.ofEvents 0 fn pos es, op.g = 0 ∧ ∃ e ∈ es, op.act = .ofEvent e := fun op hop => by
  obtain ⟨e, he, hx⟩ := Go.Conc.mem_ofEvents hop
  rw [hx]; exact ⟨rfl, e, he, rfl⟩
 refine ⟨fun said => noRace_append (h.clean said) (fun op ho => (hop op ho).1) fun i a ha op ho b hb hc => ?_, fun i a b ha hb => ?_, handedOver_app h.over fun op ho => .inl (hop op ho).1, ?_, fun i a b ha hb => ?_⟩
 ·obtain ⟨_, ev, hev, hact⟩ := hop op ho
  rw [hact] at hb
  obtain ⟨bl, o, wr, h1, h2, _⟩ := touch_ofEvent (hes ev hev) hb
  rw [← hc.1] at h1
  rcases h.known i a bl ha h1 with hk | ⟨hs, _⟩
  ·exact hk
  ·exact absurd hs (hL bl (by rw [h2]; simp)).2
 ·obtain ⟨x, hx, hxa⟩ := touch_of ha
  rcases getElem?_append_cases hx with ⟨_, hx'⟩ | ⟨_, hxu⟩
  ·exact (h.known i a b (by rw [touchAt_of hx']; exact hxa) hb).imp (·.app _) id
  ·have := knows_own hx
   rw [(hop x hxu).1] at this
   exact .inl this
 ·rw [Deaf_own, deafBehind_still (fun e he => ?_)]
  ·exact h.hears
  ·have := hes e he
   obtain ⟨loc, wr, sy⟩ := e
   cases loc with
   | mark m => rcases this with rfl | ⟨f, rfl⟩ <;> simp
   | _ => simp
 ·obtain ⟨x, hx, hxa⟩ := touch_of ha
  rcases getElem?_append_cases hx with ⟨_, hx'⟩ | ⟨_, hxu⟩
  ·exact Nat.lt_of_lt_of_le (h.seen i a b (by rw [touchAt_of hx']; exact hxa) hb) hn
  ·obtain ⟨_, ev, hev, hact⟩ := hop x hxu
   rw [hact] at hxa
   obtain ⟨bl, o, wr, h1, h2, _⟩ := touch_ofEvent (hes ev hev) hxa
   rw [hb] at h1
   cases h1
   exact (hL b (by rw [h2]; simp)).1
theorem Past0.mute {S : Nat → Prop} {n : Nat} {t : Trace} (h : Past0 S n t) {g : Nat} (hg : g ≠ 0) {fn : FuncId} {pos : String} {es : Array Event} (hm : ∀ e ∈ es, e.mute = true) : Past0 S n (t ++ MemOp.ofEvents g fn pos es) := by
 have hop : ∀ op ∈ MemOp.ofEvents g fn pos es, op.g = g ∧ op.act.touch? = none := fun op hop => by
  obtain ⟨e, he, hx⟩ := Go.Conc.mem_ofEvents hop
  rw [hx]; exact ⟨rfl, touch_mute (hm e he)⟩
 have old : ∀ {idx : Nat} {a : Touch}, touchAt (t ++ MemOp.ofEvents g fn pos es) idx = some a → touchAt t idx = some a := by
  intro idx a ha
  obtain ⟨x, hx, hxa⟩ := touch_of ha
  rcases getElem?_append_cases hx with ⟨hi, hx'⟩ | ⟨_, hxu⟩
  ·rw [touchAt_of hx']; exact hxa
  ·rw [(hop x hxu).2] at hxa; cases hxa
 refine ⟨fun said => noRace_append (h.clean said) (fun op ho => (hop op ho).1) fun i a _ op ho b hb _ => (by rw [(hop op ho).2] at hb; cases hb), fun i a b ha hb => (h.known i a b (old ha) hb).imp (·.app _) id,
  handedOver_app h.over fun op ho => .inr (hop op ho).2, (Deaf_other t hg _ fun op ho => (hop op ho).1).trans h.hears, fun i a b ha hb => h.seen i a b (old ha) hb⟩
def FGo (P : Program) (Post : Value → World → Prop) (W : World) (g : Goroutine) (L : LH) : Prop :=
 ∀ gs w sl t q S, gs[0]? = some g → Sub L w → Same W w → Leavers P t gs q → Past0 S w.heap.size t → (∀ b, S b → b < w.heap.size ∧ L b = none) → RunsGood P Post (crowd gs w sl) t
theorem Tr.dom' {L L' : LH} {w w' : World} {es : Array Event} {S : Nat → Prop} (h : Tr L L' w w' es) (hS : ∀ b, S b → b < w.heap.size ∧ L b = none) : ∀ b, L' b ≠ none → b < w'.heap.size ∧ ¬ S b := by
 intro b hb
 refine ⟨h.sub.lt hb, fun hs => ?_⟩
 obtain ⟨h1, h2⟩ := hS b hs
 rcases h.dom b hb with e | e
 ·exact e h2
 ·omega
theorem FGo.step {P : Program} {Post : Value → World → Prop} {W : World} (g : Goroutine) (L : LH) (hrun : g.status = .running) (hstep : LStep P true g L (FGo P Post W)) : FGo P Post W g L := by
 intro gs w sl t q S h0 hs hW hL hP hS
 generalize hM : sumTo gs.size q = M
 induction M using Nat.strongRecOn generalizing gs w sl t q with
 | ind M ih =>
 have haw : ∀ g ∈ gs, awake g := by
  intro g' hg
  obtain ⟨i, hi, rfl⟩ := Array.mem_iff_getElem.1 hg
  rcases Nat.eq_zero_or_pos i with rfl | hpos
  ·have : gs[0] = g := by simpa [Array.getElem?_eq_getElem hi] using h0
   rw [this]; exact awake_of (.inl hrun)
  ·exact awake_of ((hL.old i _ hpos (Array.getElem?_eq_getElem hi)).status.elim .inl fun x => .inr (.inr x))
 obtain ⟨i, g₁, d, sl', hi, hg, hst⟩ := crowd_pick (P := P) (w := w) (sl := sl) haw ⟨0, g, h0, hrun⟩
 rcases Nat.eq_zero_or_pos i with rfl | hpos
 ·obtain rfl : g₁ = g := by rw [h0] at hi; exact (Option.some.inj hi).symm
  obtain ⟨g', w', es, L', hgo, htr, hK⟩ := hstep (w.at d) hs
  have hrunT := runT_crowd_go (P := P) (sl := sl') (i := 0) hi (show stepG P (0 == 0) g₁ (w.at d) = _ from hgo)
  have hsz : ((gs.map (woken P g₁ g' w')).setIfInBounds 0 g').size = gs.size := by simp
  have hlt : 0 < gs.size := (Array.getElem?_eq_some_iff.1 h0).1
  refine RunsGood.next (hst.trans hrunT) (hK _ w' sl' _ q S (by simp [hlt]) htr.sub ((hW.at d).tr htr) ⟨fun j x hj hx => ?_, fun j hj => ?_⟩ (hP.own htr.size htr.ev (htr.dom' hS)) fun b hb => ?_)
  ·have hne : 0 ≠ j := by omega
   rw [Array.getElem?_setIfInBounds_ne hne, Array.getElem?_map] at hx
   obtain ⟨y, hy, rfl⟩ := Option.map_eq_some_iff.1 hx
   have hq := hL.old j y hj hy
   rw [woken_quitsD hq, Deaf_other t (by omega) _ (fun op hop => by obtain ⟨e, _, hx⟩ := Go.Conc.mem_ofEvents hop; rw [hx])]
   exact hq
  ·rw [Deaf_other t (g' := 0) (by simp at hj; omega) _ (fun op hop => by obtain ⟨e, _, hx⟩ := Go.Conc.mem_ofEvents hop; rw [hx])]
   exact hL.above j (by simpa using hj)
  ·obtain ⟨h1, h2⟩ := hS b hb
   refine ⟨Nat.lt_of_lt_of_le h1 htr.size, ?_⟩
   cases hx : L' b with
   | none => rfl
   | some x =>
    rcases htr.dom b (by rw [hx]; simp) with e | e
    ·exact absurd h2 e
    ·have : b < (w.at d).heap.size := h1
     omega
 ·have hq := hL.old i g₁ hpos hi
  have hi0 : (i == 0) = false := by simp; omega
  have hlt : i < gs.size := (Array.getElem?_eq_some_iff.1 hi).1
  cases hqi : q i with
  | zero => rw [hqi] at hq; rw [hq.1] at hg; cases hg
  | succ k =>
   rw [hqi] at hq
   rcases hq with ⟨hf, _⟩ | ⟨_, g', es, hm, hstp, hq'⟩
   ·rw [hf] at hg; cases hg
   have hrunT := runT_crowd_go (P := P) (sl := sl') (i := i) hi (by rw [hi0]; exact hstp (w.at d))
   have hsz : ((gs.map (woken P g₁ g' (w.at d))).setIfInBounds i g').size = gs.size := by simp
   have hsum : sumTo gs.size (upd q i k) + (k + 1) = sumTo gs.size q + k := by
    have := sumTo_upd q k id hlt
    simpa [hqi] using this
   refine RunsGood.next (hst.trans hrunT) (ih _ ?_ _ (w.at d) sl' _ (upd q i k) ?_ hs (hW.at d) ⟨fun j x hj hx => ?_, fun j hj => ?_⟩ (hP.mute (by omega) hm) hS (by rw [hsz]))
   ·rw [← hM]; omega
   ·have hne : i ≠ 0 := by omega
    rw [Array.getElem?_setIfInBounds_ne hne, Array.getElem?_map, h0]
    simp [woken_run hrun]
   ·by_cases hji : i = j
    ·subst hji
     rw [Array.getElem?_setIfInBounds_self_of_lt (by simpa using hlt)] at hx
     obtain rfl := Option.some.inj hx
     rw [upd_same, Deaf_own]
     exact hq'
    ·rw [Array.getElem?_setIfInBounds_ne hji, Array.getElem?_map] at hx
     obtain ⟨y, hy, rfl⟩ := Option.map_eq_some_iff.1 hx
     have hqj := hL.old j y hj hy
     rw [woken_quitsD hqj, upd_ne q k (Ne.symm hji), Deaf_other t hji _ (fun op hop => by obtain ⟨e, _, hx⟩ := Go.Conc.mem_ofEvents hop; rw [hx])]
     exact hqj
   ·rw [Deaf_other t (g' := i) (by simp at hj; omega) _ (fun op hop => by obtain ⟨e, _, hx⟩ := Go.Conc.mem_ofEvents hop; rw [hx])]
    exact hL.above j (by simpa using hj)
theorem FGo.done {P : Program} {Post : Value → World → Prop} {W : World} {g : Goroutine} {L : LH} (hrun : g.status = .running)
  (h : ∀ w, Sub L w → Same W w → ∃ v es, stepG P true g w = .ended (.done v) w es ∧ (∀ e ∈ es, EvOk L e) ∧ Post v w) : FGo P Post W g L := by
 intro gs w sl t q S h0 hs hW hL hP hS
 generalize hM : sumTo gs.size q = M
 induction M using Nat.strongRecOn generalizing gs w sl t q with
 | ind M ih =>
 have haw : ∀ g ∈ gs, awake g := by
  intro g' hg
  obtain ⟨i, hi, rfl⟩ := Array.mem_iff_getElem.1 hg
  rcases Nat.eq_zero_or_pos i with rfl | hpos
  ·have : gs[0] = g := by simpa [Array.getElem?_eq_getElem hi] using h0
   rw [this]; exact awake_of (.inl hrun)
  ·exact awake_of ((hL.old i _ hpos (Array.getElem?_eq_getElem hi)).status.elim .inl fun x => .inr (.inr x))
 obtain ⟨i, g₁, d, sl', hi, hg, hst⟩ := crowd_pick (P := P) (w := w) (sl := sl) haw ⟨0, g, h0, hrun⟩
 rcases Nat.eq_zero_or_pos i with rfl | hpos
 ·obtain rfl : g₁ = g := by rw [h0] at hi; exact (Option.some.inj hi).symm
  obtain ⟨v, es, hend, hes, hpost⟩ := h (w.at d) hs (hW.at d)
  have hrunT := runT_many_ended (P := P) (sl := sl') (i := 0) hi (show stepG P (0 == 0) g₁ (w.at d) = _ from hend)
  have hP' := hP.own (fn := g₁.frame.fn) (pos := g₁.frame.place) (Nat.le_refl _) hes fun b hb => ⟨Sub.lt hs hb, fun x => hb (hS b x).2⟩
  have hfin := hst.trans hrunT
  refine ⟨0, crowd gs w sl, .done v, w.at d, _, by simp [runNT, hfin], rfl, by simp [Go.step, hfin], v, rfl, hpost, hP'.clean, hP'.over, ⟨fun x hx => ?_, rfl⟩, fun j x hx hj => ?_⟩
  ·obtain ⟨j, hj⟩ := List.mem_iff_getElem?.1 hx
   rw [List.getElem?_drop] at hj
   exact ⟨_, (hL.old (1 + j) x (by omega) (by simpa [crowd] using hj)).leaves⟩
  ·have hq := hL.old j x (by omega) hx
   refine ⟨q j, ?_⟩
   have e : (t ++ MemOp.ofEvents 0 g₁.frame.fn g₁.frame.place es).deaf j (t ++ MemOp.ofEvents 0 g₁.frame.fn g₁.frame.place es).size = Deaf t j :=
    Deaf_other t (g := j) (g' := 0) (by omega) _ (fun op hop => by obtain ⟨e, _, hx⟩ := Go.Conc.mem_ofEvents hop; rw [hx])
   rw [e]
   exact hq.hears _
 ·have hq := hL.old i g₁ hpos hi
  have hi0 : (i == 0) = false := by simp; omega
  have hlt : i < gs.size := (Array.getElem?_eq_some_iff.1 hi).1
  cases hqi : q i with
  | zero => rw [hqi] at hq; rw [hq.1] at hg; cases hg
  | succ k =>
   rw [hqi] at hq
   rcases hq with ⟨hf, _⟩ | ⟨_, g', es, hm, hstp, hq'⟩
   ·rw [hf] at hg; cases hg
   have hrunT := runT_crowd_go (P := P) (sl := sl') (i := i) hi (by rw [hi0]; exact hstp (w.at d))
   have hsz : ((gs.map (woken P g₁ g' (w.at d))).setIfInBounds i g').size = gs.size := by simp
   have hsum : sumTo gs.size (upd q i k) + (k + 1) = sumTo gs.size q + k := by
    have := sumTo_upd q k id hlt
    simpa [hqi] using this
   refine RunsGood.next (hst.trans hrunT) (ih _ ?_ _ (w.at d) sl' _ (upd q i k) ?_ hs (hW.at d) ⟨fun j x hj hx => ?_, fun j hj => ?_⟩ (hP.mute (by omega) hm) hS (by rw [hsz]))
   ·rw [← hM]; omega
   ·have hne : i ≠ 0 := by omega
    rw [Array.getElem?_setIfInBounds_ne hne, Array.getElem?_map, h0]
    simp [woken_run hrun]
   ·by_cases hji : i = j
    ·subst hji
     rw [Array.getElem?_setIfInBounds_self_of_lt (by simpa using hlt)] at hx
     obtain rfl := Option.some.inj hx
     rw [upd_same, Deaf_own]
     exact hq'
    ·rw [Array.getElem?_setIfInBounds_ne hji, Array.getElem?_map] at hx
     obtain ⟨y, hy, rfl⟩ := Option.map_eq_some_iff.1 hx
     have hqj := hL.old j y hj hy
     rw [woken_quitsD hqj, upd_ne q k (Ne.symm hji), Deaf_other t hji _ (fun op hop => by obtain ⟨e, _, hx⟩ := Go.Conc.mem_ofEvents hop; rw [hx])]
     exact hqj
   ·rw [Deaf_other t (g' := i) (by simp at hj; omega) _ (fun op hop => by obtain ⟨e, _, hx⟩ := Go.Conc.mem_ofEvents hop; rw [hx])]
    exact hL.above j (by simpa using hj)
def LFGo (P : Program) (Post : Value → World → Prop) (W : World) : Logic P := ⟨true, FGo P Post W, fun g L hr hs => FGo.step g L hr hs⟩
end Go.Mz


namespace Go.Mz
open Go.Conc
open Go.ConcN (sumTo upd sumTo_upd upd_ne upd_same)
inductive Tree where
 | leaf
 | node (f : World → Tree)
open Classical in
section
variable {Ls : Nat → LH} {Sh Am Pt : Nat → Prop} {w w' : World} {t : Trace}
end
end Go.Mz

