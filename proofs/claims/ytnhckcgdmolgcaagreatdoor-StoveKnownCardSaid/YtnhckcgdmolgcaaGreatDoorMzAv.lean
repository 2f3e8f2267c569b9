/- Lemmas on which the claim leans. -/
import Derived.Test.YtnhckcgdmolgcaaGreatDoorMzAu
set_option maxRecDepth 100000
namespace Go.Mz
open Go.Conc Go.Proofs
theorem sl_block {α : Type} {L : LH} {b : Nat} {l : List α} {k : Nat} {e : TypeId} {enc : α → List Value} (hk : ∀ x, (enc x).length = k) (h : L b = some (.cells (l.flatMap enc).toArray e (0, 0), true)) : SlAt L (some ⟨b, 0, none⟩) k enc l := by
 have hl : ∀ l : List α, (l.flatMap enc).length = l.length * k := fun l => by
  induction l with
  | nil => simp
  | cons a l ih => rw [List.flatMap_cons, List.length_append, hk, ih, List.length_cons, Nat.succ_mul]; omega
 exact Own.at (e := e) (len := l.length) (cap := l.length) (ob := some b) ⟨l.length, (l.flatMap enc).toArray, rfl, h, by simp [hl], Nat.le_refl _, hl l, fun i x hx => by simpa using hx⟩ hk
def encSP (x : St × Pt) : List Value := bxS x.1 x.2
abbrev HP := Rf × List Int
def encHP (x : HP) : List Value := [slV x.1]
structure HPOk (L : LH) (x : HP) : Prop where
 i : IntsAt L x.1.1 x.2
 l : x.1.2.1 = x.2.length
 n : x.2.length ≤ 20
structure SPOk (L : LH) (x : St × Pt) : Prop where
 st : StAt L x.1 x.2
 s : x.1.shelves.length ≤ 20
 c : x.1.cones.length ≤ 20
theorem HPOk.le {L L' : LH} {x : HP} (h : HPOk L x) (hl : Le L L') : HPOk L' x := ⟨h.i.le hl, h.l, h.n⟩
theorem SPOk.le {L L' : LH} {x : St × Pt} (h : SPOk L x) (hl : Le L L') : SPOk L' x := ⟨h.st.le hl, h.s, h.c⟩
structure SevAt (L : LH) (ba bb : Nat) (Ss : List (St × Pt)) (Hs : List HP) : Prop where
 ss : SlAt L (some ⟨ba, 0, none⟩) 6 encSP Ss
 hs : SlAt L (some ⟨bb, 0, none⟩) 1 encHP Hs
 so : ∀ x ∈ Ss, SPOk L x
 ho : ∀ x ∈ Hs, HPOk L x
theorem SevAt.le {L L' : LH} {ba bb : Nat} {Ss : List (St × Pt)} {Hs : List HP} (h : SevAt L ba bb Ss Hs) (hl : Le L L') : SevAt L' ba bb Ss Hs := ⟨h.ss.le hl, h.hs.le hl, fun x hx => (h.so x hx).le hl, fun x hx => (h.ho x hx).le hl⟩
section
variable {X : Logic Tryz.prog}
end
end Go.Mz

