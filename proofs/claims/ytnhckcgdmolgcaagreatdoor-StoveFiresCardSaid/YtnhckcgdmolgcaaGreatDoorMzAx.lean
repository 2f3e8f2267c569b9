/- Lemmas on which the claim leans. -/
import Derived.Test.YtnhckcgdmolgcaaGreatDoorMzAw
set_option maxRecDepth 100000
namespace Go.Mz
open Go.Conc Go.Proofs
theorem le_but {L L1 : LH} {b : Nat} (hb : L b = none) (hl : Le L L1) : Le L (L1.but b) := fun b' x hx => by
  rw [but_get (fun e => by subst e; rw [hb] at hx; cases hx)]; exact hl _ _ hx
theorem vast_no {s : St} (h : vastB s = false) : s.shelves.length ≤ 20 ∧ s.cones.length ≤ 20 := by
  unfold vastB at h
  simp only [Bool.or_eq_false_iff, decide_eq_false_iff_not] at h
  omega
theorem sl_block {α : Type} {L : LH} {b : Nat} {l : List α} {k : Nat} {e : TypeId} {enc : α → List Value} (hk : ∀ x, (enc x).length = k) (h : L b = some (.cells (l.flatMap enc).toArray e (0, 0), true)) : SlAt L (some ⟨b, 0, none⟩) k enc l := by
  have hl : ∀ l : List α, (l.flatMap enc).length = l.length * k := fun l => by
    induction l with
    | nil => simp
    | cons a l ih => rw [List.flatMap_cons, List.length_append, hk, ih, List.length_cons, Nat.succ_mul]; omega
  exact Own.at (e := e) (len := l.length) (cap := l.length) (ob := some b) ⟨l.length, (l.flatMap enc).toArray, rfl, h, by simp [hl], Nat.le_refl _, hl l, fun i x hx => by simpa using hx⟩ hk
def encSP (x : St × Pt) : List Value := bxS x.1 x.2
theorem encSP_len (x : St × Pt) : (encSP x).length = 6 := rfl
abbrev HP := Rf × List Int
def encHP (x : HP) : List Value := [slV x.1]
theorem encHP_len (x : HP) : (encHP x).length = 1 := rfl
structure HPOk (L : LH) (x : HP) : Prop where
  i : IntsAt L x.1.1 x.2
  l : x.1.2.1 = x.2.length
  n : x.2.length ≤ 20
structure SPOk (L : LH) (x : St × Pt) : Prop where
  st : StAt L x.1 x.2
  s : x.1.shelves.length ≤ 20
  c : x.1.cones.length ≤ 20
theorem HPOk.le {L L' : LH} {x : HP} (h : HPOk L x) (hl : Le L L') : HPOk L' x := ⟨h.i.le hl, h.l, h.n⟩
theorem SPOk.le {L L' : LH} {x : St × Pt} (h : SPOk L x) (hl : Le L L') : SPOk L' x := ⟨h.st.le hl, h.s, h.c⟩
structure SevAt (L : LH) (ba bb : Nat) (Ss : List (St × Pt)) (Hs : List HP) : Prop where
  ss : SlAt L (some ⟨ba, 0, none⟩) 6 encSP Ss
  hs : SlAt L (some ⟨bb, 0, none⟩) 1 encHP Hs
  so : ∀ x ∈ Ss, SPOk L x
  ho : ∀ x ∈ Hs, HPOk L x
theorem SevAt.le {L L' : LH} {ba bb : Nat} {Ss : List (St × Pt)} {Hs : List HP} (h : SevAt L ba bb Ss Hs) (hl : Le L L') : SevAt L' ba bb Ss Hs := ⟨h.ss.le hl, h.hs.le hl, fun x hx => (h.so x hx).le hl, fun x hx => (h.ho x hx).le hl⟩
section
variable {X : Logic Tryz.prog}
theorem sev_sp (s : St) (p : Pt) (c : Cone) (ha : Option Addr) (hc : Nat) (hs : List Int) (b : Nat) (ad : Option Addr) (cap : Nat) (l : List Int) (n : Nat) (L : LH) (hst : StAt (L.but b) s p) (hh : IntsAt (L.but b) ha hs) (h : HatAt L b ad cap l n) (hn : n ≤ 600000) (hl : l.length ≤ 140737488355328) (h1 : s.shelves.length ≤ 20) (h2 : s.cones.length ≤ 20) (h3 : hs.length ≤ 20) :
    Sp X 23 [stA s p, .agg (encCo c).toArray, .slice ha hs.length hc, pt b] L (fun v L' => ∃ own p1 t ta tc cs2 p2 ba bb m, v = .tuple #[.slice (some ⟨ba, 0, none⟩) 4 4, .slice (some ⟨bb, 0, none⟩) 4 4] ∧
      (StoveH own 3 3 ∨ StoveH own 2 4) ∧ heatsE own t = 0 ∧ cs2.length = own.cones.length ∧ m ≤ n + 60 ∧ HatAt L' b ad cap l m ∧ Le (L.but b) L' ∧
      SevAt (L'.but b) ba bb [(s, p), (own, p1), ({ own with cones := cs2 }, p2), (own, p1)] [((ha, hs.length, hc), hs), ((ta, t.length, tc), t), ((ta, t.length, tc), t), ((ha, hs.length, hc), hs)]) := by
  refine (several_sp s p c ha hc hs b ad cap l n L (hst.le (but_le _ _)) (hh.le (but_le _ _)) h hn hl).mono ?_ (fun _ _ h => h)
  rintro v L' ⟨own, p1, t, ta, tc, cs2, p2, ba, bb, m, rfl, k1, k2, hs1, ht, hc2, hm, hh', hle, s1, s2, i1, n1, n2⟩
  have hok : Ok own := hs1.elim (fun h => h.ok) (fun h => h.ok)
  have o1 := hok.s3
  have o2 := hok.c3
  have o3 := (hok_of ht).len
  have o4 := hok.d4
  have o5 := hok.d1
  have f := but_but hle
  refine ⟨own, p1, t, ta, tc, cs2, p2, ba, bb, m, rfl, hs1, ht, hc2, hm, hh', hle, sl_block (e := 25) encSP_len ?_, sl_block (e := 28) encHP_len ?_, fun x hx => ?_, fun x hx => ?_⟩
  · rw [but_get n1, k1]
    simp [encSP]
  · rw [but_get n2, k2]; rfl
  · simp only [List.mem_cons, List.not_mem_nil, or_false] at hx
    rcases hx with rfl | rfl | rfl | rfl
    · exact ⟨hst.le f, h1, h2⟩
    · exact ⟨s1, by show own.shelves.length ≤ 20; omega, by show own.cones.length ≤ 20; omega⟩
    · exact ⟨s2, by show own.shelves.length ≤ 20; omega, by show cs2.length ≤ 20; omega⟩
    · exact ⟨s1, by show own.shelves.length ≤ 20; omega, by show own.cones.length ≤ 20; omega⟩
  · simp only [List.mem_cons, List.not_mem_nil, or_false] at hx
    rcases hx with rfl | rfl | rfl | rfl
    · exact ⟨hh.le f, rfl, h3⟩
    · exact ⟨i1, rfl, by show t.length ≤ 20; omega⟩
    · exact ⟨i1, rfl, by show t.length ≤ 20; omega⟩
    · exact ⟨hh.le f, rfl, h3⟩
end
end Go.Mz

