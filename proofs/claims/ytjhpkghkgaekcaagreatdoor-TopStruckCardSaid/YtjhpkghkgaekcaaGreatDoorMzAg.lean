/- Lemmas on which the claim leans. -/
import Derived.Test.YtjhpkghkgaekcaaGreatDoorMzAf
namespace Go.Mz
open Go.Conc
def LH.calm (L : LH) : LH := fun b => match L b with
 | some (.loop _, _) => none
 | some (.deferred _, _) => none
 | x => x
theorem calm_le (L : LH) : Le L.calm L := fun b x h => by
 unfold LH.calm at h
 split at h
 ·cases h
 ·cases h
 ·exact h
theorem calm_mono {L L' : LH} (h : Le L L') : Le L.calm L'.calm := fun b x hx => by
 have h1 := calm_le L b x hx
 have h2 := h b x h1
 unfold LH.calm at hx ⊢
 rw [h1] at hx
 rw [h2]
 exact hx
theorem calm_putL {L : LH} {l : Nat} {o o' : Loop} {wr : Bool} (h : L l = some (.loop o, wr)) : (L.put l (.loop o')).calm = L.calm := by
 funext b
 unfold LH.calm
 by_cases e : b = l
 ·subst e; rw [put_same, h]
 ·rw [put_ne _ _ e]
theorem calm_cells {L : LH} {b : Nat} {cs : Array Value} {t : TypeId} {fz : Nat × Nat} {wr : Bool} (h : L b = some (.cells cs t fz, wr)) : L.calm b = some (.cells cs t fz, wr) := by
 unfold LH.calm; rw [h]
theorem le_put_none {L0 L : LH} {b : Nat} (h : Le L0 L) (hb : L0 b = none) (o : Obj) : Le L0 (L.put b o) := fun b' x hx => by
 rw [put_ne _ _ (fun e => by subst e; rw [hb] at hx; cases hx)]; exact h b' x hx
section
variable {P : Program} {α : Type} {C : Cx P} {n : Nat} {ds : List Deferred} {k : List Item} {E : Env} {B : List (Option Bx)} {L : LH}
theorem W.iter {enc : α → List Value} {xs : List α} {K : LH → Prop} {g : FuncId} {cap : List Value} {fo : Operand} {ps : Array Tmp} {asg body : Code} {sv : SV}
  (Lb : LH) (hLb : Le Lb L) (I : List α → LH → Prop) (Z : Code → LH → Prop) (it : Iter C.X g cap enc xs K) (hcl : Callable P g) (hro : C.ro = none) (E' : Env) (hE' : SubE E E') (h0 : scE 0 E' = true)
  (hf : evS (get E) fo = some sv) (hv : den nm0 sv = some (.func (.func g) #[] cap.toArray))
  (hm : ∀ pre L1 L2, Le L1 L2 → I pre L1 → I pre L2) (hz : ∀ j L1 L2, Le L1 L2 → Z j L1 → Z j L2)
  (hK : ∀ pre L', Le Lb L' → I pre L' → K L') (hI : I [] L.calm)
  (hn : (ps.toList.all fun p => Nat.blt p n) = true) (hln : ∀ x, (enc x).length = ps.size)
  (hb : ∀ (d l : Nat) (pre : List α) (x : α) (post : List α) (L' : LH) (q lb : Loop), xs = pre ++ x :: post → Le Lb L' → I pre L' → Lb l = none → Lb d = none → l ≠ d →
   L' l = some (.loop q, true) → L' d = some (.deferred (some []), true) →
   ∀ C' : Cx P, C'.X = C.X → C'.f = C.f →
    (∀ (k : List Item) (E : Env) (B : List (Option Bx)), (∀ L2, L2 l = some (.loop lb, true) → (∀ b, b ≠ l → L2 b = L' b) → W C' n [] k E B L2) → W C' n [] (.beginRound :: k) E B L') →
    (∀ (k : List Item) (E : Env) (B : List (Option Bx)) (L'' : LH), Leaves k none → L'' l = some (.loop lb, true) → L'' d = some (.deferred (some []), true) → Le Lb L'' → I (pre ++ [x]) L''.calm → W C' n [] k E B L'') →
    (∀ (k : List Item) (E : Env) (B : List (Option Bx)) (L'' : LH) (j : Code), Leaves k (some j) → L'' l = some (.loop lb, true) → L'' d = some (.deferred (some []), true) → Le Lb L'' → Z j L''.calm → W C' n [] k E B L'') →
    W C' n [] [.code asg, .beginRound, .code body] (parEnv ps.toList (enc x) E') [] L')
  (w1 : ∀ (d l : Nat) (L' : LH), Le Lb L' → Lb l = none → Lb d = none → I xs L' → L' d = some (.deferred (some []), true) → W C n (⟨.collected d, #[]⟩ :: ds) k E B L')
  (w2 : ∀ (d l : Nat) (j : Code) (L' : LH), Le Lb L' → Lb l = none → Lb d = none → Z j L' → L' d = some (.deferred (some []), true) → W C n (⟨.collected d, #[]⟩ :: ds) (.code j :: k) E B L') :
  W C n ds (.code (.rangeFunc fo ps asg body) :: k) E B L := by
 refine W.range hro E' hE' h0 hf hv (fun T d l st pd L' => Le Lb L' ∧ Lb l = none ∧ Lb d = none ∧ l ≠ d ∧ L' d = some (.deferred (some []), true) ∧ (∃ st pd, L' l = some (lpO st pd C.f T ps asg body d, true)) ∧ ((pd = none ∧ I xs L'.calm) ∨ ∃ j, pd = some j ∧ Z j L'.calm)) ?_ ?_
 ·intro T d l hT hE hd0 hl0 hne _ _
  have hd := none_of_le hLb hd0
  have hl := none_of_le hLb hl0
  have hJ : Le Lb ((L.put d (.deferred (some []))).put l (lpO .ready none C.f T ps asg body d)) := le_put_none (le_put_none hLb hd _) hl _
  have hfl : ((L.put d (.deferred (some []))).put l (lpO .ready none C.f T ps asg body d)).calm = L.calm := by
   funext b
   unfold LH.calm
   by_cases e : b = l
   ·subst e; rw [put_same, hl0]
   ·rw [put_ne _ _ e]
    by_cases e : b = d
    ·subst e; rw [put_same, hd0]
    ·rw [put_ne _ _ e]
  have hs := it (.func (.yield l) #[] #[]) (fun pre L' => Le Lb L' ∧ I pre L'.calm ∧ L' l = some (lpO .ready none C.f T ps asg body d, true) ∧ L' d = some (.deferred (some []), true))
   (fun L' => Le Lb L' ∧ (∃ j, L' l = some (lpO .done (some j) C.f T ps asg body d, true) ∧ Z j L'.calm) ∧ L' d = some (.deferred (some []), true)) _
   ⟨⟨_, _, _, rfl⟩, fun pre L' h => hK pre L' h.1 (hm _ _ _ (calm_le _) h.2.1), ?_⟩ ⟨hJ, by rw [hfl]; exact hI, put_same _ _ _, by rw [put_ne _ _ (Ne.symm hne)]; exact put_same _ _ _⟩
  ·refine (Sp.toV (f1 := []) (f2 := cap) (args := [.func (.yield l) #[] #[]]) hs).mono ?_
   rintro v L' ⟨_, ⟨L1, ⟨q1, q2, q3, q4⟩, q5, _⟩ | ⟨L1, ⟨q1, ⟨j, q2, q3⟩, q4⟩, q5, _⟩⟩
   ·exact ⟨_, _, by decide, q5 _ _ q3, q1.trans q5, hl, hd, hne, q5 _ _ q4, ⟨_, _, q5 _ _ q3⟩, .inl ⟨rfl, hm _ _ _ (calm_mono q5) q2⟩⟩
   ·exact ⟨_, _, by decide, q5 _ _ q2, q1.trans q5, hl, hd, hne, q5 _ _ q4, ⟨_, _, q5 _ _ q2⟩, .inr ⟨j, rfl, hz _ _ _ (calm_mono q5) q3⟩⟩
  ·rintro pre x post L' hx ⟨q1, q2, q3, q4⟩
   refine SpV.round (n := n) (E' := E') q3 (hln x) hT hE hn fun C' c1 c2 c3 _ rt => ?_
   refine hb d l pre x post L' _ ⟨.busy, none, C.f, T, ps, asg, body, d⟩ hx q1 (hm _ _ _ (calm_le _) q2) hl hd hne q3 q4 C' c1 c2 (fun k E B hw => W.beginR c3 q3 rfl (hw _ (put_same _ _ _) fun b hb' => put_ne _ _ hb')) ?_ ?_
   ·intro k E B L'' hk g1 g2 g3 g4
    refine W.endR rt c3 hk g1 (.inl ⟨rfl, le_put_none g3 hl _, ?_, put_same _ _ _, by rw [put_ne _ _ (Ne.symm hne)]; exact g2⟩)
    rw [calm_putL g1]; exact g4
   ·intro k E B L'' j hk g1 g2 g3 g4
    refine W.endR rt c3 hk g1 (.inr ⟨rfl, le_put_none g3 hl _, ⟨j, put_same _ _ _, ?_⟩, by rw [put_ne _ _ (Ne.symm hne)]; exact g2⟩)
    rw [calm_putL g1]; exact g4
 ·rintro T d l st pd L' ⟨q1, q2, q3, q4, q5, ⟨st', pd', q6⟩, ⟨rfl, q7⟩ | ⟨j, rfl, q7⟩⟩
  ·exact w1 d l _ (le_put_none q1 q2 _) q2 q3 (hm _ _ _ (calm_le _) (by rw [calm_putL q6]; exact q7)) (by rw [put_ne _ _ (Ne.symm q4)]; exact q5)
  ·exact w2 d l j _ (le_put_none q1 q2 _) q2 q3 (hz _ _ _ (calm_le _) (by rw [calm_putL q6]; exact q7)) (by rw [put_ne _ _ (Ne.symm q4)]; exact q5)
end
end Go.Mz

