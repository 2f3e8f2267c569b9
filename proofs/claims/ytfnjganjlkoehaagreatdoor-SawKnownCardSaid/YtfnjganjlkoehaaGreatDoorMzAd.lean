/- Lemmas on which the claim leans. -/
import Derived.Test.YtfnjganjlkoehaaGreatDoorMzAc
import Derived.Conc.CrowdTrace
namespace Go.Mz
open Go.Conc
open Go.ConcN (sumTo upd sumTo_upd upd_ne upd_same)
section
variable {Ls Ls' : Nat → LH} {Sh Am Pt : Nat → Prop} {w w' : World} {t u : Trace}
def AsideSh (Sh : Nat → Prop) (w w' : World) : Prop := w'.heap.size = w.heap.size ∧ ∀ b, ¬ Sh b → w'.heap[b]? = w.heap[b]?
theorem AsideSh.refl (Sh : Nat → Prop) (w : World) : AsideSh Sh w w := ⟨rfl, fun _ _ => rfl⟩
theorem Res.sync (h : Res Ls Sh Am Pt w t) (hw : AsideSh Sh w w') {i : Nat} (hi : Pt i) (hg : ∀ op ∈ u, op.g = i)
  (ht : ∀ op ∈ u, ∀ x, op.act.touch? = some x → x.kind ≠ .plain ∧ (∃ b, blkOf x.loc = some b ∧ Am b) ∧ (x.kind = .said → ∀ idx a, touchAt t idx = some a → a.loc = x.loc → a.kind = .said → Knows t i idx)) : Res Ls Sh Am Pt w' (t ++ u) := by
 refine ⟨fun j b o wr hb => ?_, h.apart, h.sh, fun b hb => by rw [hw.1]; exact h.shlt b hb, fun j idx a b o wr ha hb hlj hww => ?_, fun idx a b ha hb => ?_, fun said => ?_, h.amsh, fun idx a b ha hb hs hp j hj => ?_⟩
 ·rw [hw.2 b (fun hs => by rw [h.sh j b hs] at hb; cases hb)]
  exact h.sub j b o wr hb
 ·obtain ⟨x, hx, hxa⟩ := touch_of ha
  rcases getElem?_append_cases hx with ⟨hi, hx'⟩ | ⟨_, hxu⟩
  ·exact (h.know j idx a b o wr (by rw [touchAt_of hx']; exact hxa) hb hlj hww).app _
  ·obtain ⟨_, ⟨b', hb', hs⟩, _⟩ := ht x hxu a hxa
   rw [hb] at hb'
   cases hb'
   rw [h.sh j b (h.amsh b hs)] at hlj
   cases hlj
 ·rw [hw.1]
  obtain ⟨x, hx, hxa⟩ := touch_of ha
  rcases getElem?_append_cases hx with ⟨hi, hx'⟩ | ⟨_, hxu⟩
  ·exact h.seen idx a b (by rw [touchAt_of hx']; exact hxa) hb
  ·obtain ⟨_, ⟨b', hb', hs⟩, _⟩ := ht x hxu a hxa
   rw [hb] at hb'
   cases hb'
   exact h.shlt b (h.amsh b hs)
 ·refine noRace_append (h.clean said) hg fun idx a ha op hop b hb hc => ?_
  obtain ⟨h1, ⟨bl, h2, h3⟩, h4⟩ := ht op hop b hb
  obtain ⟨c1, c2, c3, c4⟩ := hc
  rcases c4 with c4 | c4 | ⟨_, c4, c5⟩
  ·exact h.atomic idx a bl ha (by rw [c1]; exact h2) h3 c4 i hi
  ·exact absurd c4 h1
  ·exact h4 c5 idx a ha c1 c4
 ·obtain ⟨x, hx, hxa⟩ := touch_of ha
  rcases getElem?_append_cases hx with ⟨hi, hx'⟩ | ⟨_, hxu⟩
  ·exact (h.atomic idx a b (by rw [touchAt_of hx']; exact hxa) hb hs hp j hj).app _
  ·exact absurd hp (ht x hxu a hxa).1
theorem noRace_mute {said : Bool} (h : ¬ Race said t) (hn : ∀ op ∈ u, op.act.touch? = none) : ¬ Race said (t ++ u) := by
 rintro ⟨i, j, hij, ⟨a, b, ha, hb, hc⟩, n1, n2⟩
 obtain ⟨x, hx, hxa⟩ := touch_of ha
 obtain ⟨y, hy, hyb⟩ := touch_of hb
 rcases getElem?_append_cases hy with ⟨hj, hy'⟩ | ⟨_, hyu⟩
 ·have hi : i < t.size := Nat.lt_trans hij hj
  have hx' : t[i]? = some x := by rw [← getElem?_append_old (u := u) hi]; exact hx
  exact h ⟨i, j, hij, ⟨a, b, by simp [Trace.act?, hx', hxa], by simp [Trace.act?, hy', hyb], hc⟩, fun e => n1 (hb_app u e), fun e => n2 (hb_app u e)⟩
 ·rw [hn y hyu] at hyb; cases hyb
theorem Res.mute (h : Res Ls Sh Am Pt w t) (hw : AsideSh Sh w w') (hn : ∀ op ∈ u, op.act.touch? = none) : Res Ls Sh Am Pt w' (t ++ u) := by
 have old : ∀ {idx : Nat} {a : Touch}, touchAt (t ++ u) idx = some a → touchAt t idx = some a := by
  intro idx a ha
  obtain ⟨x, hx, hxa⟩ := touch_of ha
  rcases getElem?_append_cases hx with ⟨hi, hx'⟩ | ⟨_, hxu⟩
  ·rw [touchAt_of hx']; exact hxa
  ·rw [hn x hxu] at hxa; cases hxa
 refine ⟨fun j b o wr hb => ?_, h.apart, h.sh, fun b hb => by rw [hw.1]; exact h.shlt b hb, fun j idx a b o wr ha hb hlj hww => (h.know j idx a b o wr (old ha) hb hlj hww).app _, fun idx a b ha hb => by rw [hw.1]; exact h.seen idx a b (old ha) hb,
  fun said => noRace_mute (h.clean said) hn, h.amsh, fun idx a b ha hb hs hp j hj => (h.atomic idx a b (old ha) hb hs hp j hj).app _⟩
 ·rw [hw.2 b (fun hs => by rw [h.sh j b hs] at hb; cases hb)]
  exact h.sub j b o wr hb
open Classical in
open Classical in
def LH.join (L G : LH) : LH := fun b => match L b with | some x => some x | none => G b
def LH.nil : LH := fun _ => none
theorem Res.less (h : Res Ls Sh Am Pt w t) {i : Nat} {L' : LH} (hl : ∀ b o wr, L' b = some (o, wr) → ∃ wr', Ls i b = some (o, wr') ∧ (wr = true → wr' = true)) : Res (upd Ls i L') Sh Am Pt w t := by
 refine ⟨fun j => ?_, fun j k b o hjk hj => ?_, fun j b hb => ?_, h.shlt, fun j idx a b o wr ha hb hlj hw => ?_, h.seen, h.clean, h.amsh, h.atomic⟩
 ·by_cases e : j = i
  ·subst e; rw [upd_same]
   intro b o wr hb
   obtain ⟨wr', h1, _⟩ := hl b o wr hb
   exact h.sub j b o wr' h1
  ·rw [upd_ne _ _ e]; exact h.sub j
 ·by_cases ej : j = i
  ·subst ej
   rw [upd_same] at hj
   rw [upd_ne _ _ (Ne.symm hjk)]
   obtain ⟨wr', h1, h2⟩ := hl b o true hj
   rw [h2 rfl] at h1
   exact h.apart j k b o hjk h1
  ·rw [upd_ne _ _ ej] at hj
   by_cases ek : k = i
   ·subst ek
    rw [upd_same]
    have := h.apart j k b o hjk hj
    cases hx : L' b with
    | none => rfl
    | some x =>
     obtain ⟨wr', h1, _⟩ := hl b x.1 x.2 hx
     rw [this] at h1; cases h1
   ·rw [upd_ne _ _ ek]; exact h.apart j k b o hjk hj
 ·by_cases e : j = i
  ·subst e; rw [upd_same]
   cases hx : L' b with
   | none => rfl
   | some x =>
    obtain ⟨wr', h1, _⟩ := hl b x.1 x.2 hx
    rw [h.sh j b hb] at h1; cases h1
  ·rw [upd_ne _ _ e]; exact h.sh j b hb
 ·by_cases e : j = i
  ·subst e; rw [upd_same] at hlj
   obtain ⟨wr', h1, h2⟩ := hl b o wr hlj
   exact h.know j idx a b o wr' ha hb h1 (hw.imp id h2)
  ·rw [upd_ne _ _ e] at hlj; exact h.know j idx a b o wr ha hb hlj hw
theorem Res.hand (h : Res Ls Sh Am Pt w t) {i j : Nat} (hij : i ≠ j) {Li Lj : LH}
  (hi : ∀ b o wr, Li b = some (o, wr) → ∃ wr', Ls i b = some (o, wr') ∧ (wr = true → wr' = true))
  (hj : ∀ b o wr, Lj b = some (o, wr) → Ls j b = some (o, wr) ∨ ∃ wr', Ls i b = some (o, wr') ∧ (wr = true → wr' = true))
  (hap1 : ∀ b o, Li b = some (o, true) → Lj b = none) (hap2 : ∀ b o, Lj b = some (o, true) → Li b = none)
  (hk : ∀ idx a b o wr, touchAt t idx = some a → blkOf a.loc = some b → Ls i b = some (o, wr) → (a.write = true ∨ wr = true) → Knows t j idx) : Res (upd (upd Ls i Li) j Lj) Sh Am Pt w t := by
 have old : ∀ k b o wr, upd (upd Ls i Li) j Lj k b = some (o, wr) → ∃ k' wr', Ls k' b = some (o, wr') ∧ (wr = true → wr' = true) ∧ ((k ≠ j ∧ k' = k) ∨ (k = j ∧ (k' = j ∨ k' = i))) := by
  intro k b o wr hb
  by_cases ej : k = j
  ·subst ej
   rw [upd_same] at hb
   rcases hj b o wr hb with e | ⟨wr', e, h2⟩
   ·exact ⟨k, wr, e, id, .inr ⟨rfl, .inl rfl⟩⟩
   ·exact ⟨i, wr', e, h2, .inr ⟨rfl, .inr rfl⟩⟩
  ·rw [upd_ne _ _ ej] at hb
   by_cases ei : k = i
   ·subst ei
    rw [upd_same] at hb
    obtain ⟨wr', e, h2⟩ := hi b o wr hb
    exact ⟨k, wr', e, h2, .inl ⟨ej, rfl⟩⟩
   ·rw [upd_ne _ _ ei] at hb
    exact ⟨k, wr, hb, id, .inl ⟨ej, rfl⟩⟩
 refine ⟨fun k b o wr hb => ?_, fun k l b o hkl hb => ?_, fun k b hb => ?_, h.shlt, fun k idx a b o wr ha hb hlk hw => ?_, h.seen, h.clean, h.amsh, h.atomic⟩
 ·obtain ⟨k', wr', e, _⟩ := old k b o wr hb
  exact h.sub k' b o wr' e
 ·cases hx : upd (upd Ls i Li) j Lj l b with
  | none => rfl
  | some x =>
   exfalso
   obtain ⟨k', wk, e1, f1, g1⟩ := old k b o true hb
   obtain ⟨l', wl, e2, f2, g2⟩ := old l b x.1 x.2 hx
   rw [f1 rfl] at e1
   by_cases hkl' : k' = l'
   ·-- both out of one: it is i and j
    subst hkl'
    have hk2 : (k = i ∧ l = j) ∨ (k = j ∧ l = i) := by omega
    rcases hk2 with ⟨rfl, rfl⟩ | ⟨rfl, rfl⟩
    ·rw [upd_ne _ _ hkl, upd_same] at hb
     rw [upd_same] at hx
     rw [hap1 b o hb] at hx; cases hx
    ·rw [upd_same] at hb
     rw [upd_ne _ _ (Ne.symm hkl), upd_same] at hx
     rw [hap2 b o hb] at hx; cases hx
   ·rw [h.apart k' l' b o hkl' e1] at e2; cases e2
 ·cases hx : upd (upd Ls i Li) j Lj k b with
  | none => rfl
  | some x =>
   obtain ⟨k', wr', e, _⟩ := old k b x.1 x.2 hx
   rw [h.sh k' b hb] at e; cases e
 ·obtain ⟨k', wr', e, f, g⟩ := old k b o wr hlk
  rcases g with ⟨_, rfl⟩ | ⟨rfl, rfl | rfl⟩
  ·exact h.know _ idx a b o wr' ha hb e (hw.imp id f)
  ·exact h.know _ idx a b o wr' ha hb e (hw.imp id f)
  ·exact hk idx a b o wr' ha hb e (hw.imp id f)
end
end Go.Mz

