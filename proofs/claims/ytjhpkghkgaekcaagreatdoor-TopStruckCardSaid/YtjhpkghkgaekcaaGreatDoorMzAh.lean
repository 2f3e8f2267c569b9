/- Lemmas on which the claim leans. -/
import Derived.Test.YtjhpkghkgaekcaaGreatDoorMzAg
import Derived.Laws.Strings2
namespace Go.Mz
open Go.Conc
def Own (L : LH) (k : Nat) (e : TypeId) (v : Value) (len : Nat) (cs : List Value) : Option Nat → Prop
 | none => (∃ cap, v = .slice none 0 cap ∧ cap = 0) ∧ len = 0 ∧ cs = []
 | some b => ∃ (cap : Nat) (c : Array Value), v = .slice (some ⟨b, 0, none⟩) len cap ∧ L b = some (.cells c e (0, 0), true) ∧ c.size = cap * k ∧ len ≤ cap ∧ cs.length = len * k ∧ ∀ (i : Nat) (x : Value), cs[i]? = some x → c[i]? = some x
theorem Own.nil {L : LH} {k : Nat} {e : TypeId} : Own L k e (.slice none 0 0) 0 [] none := ⟨⟨0, rfl, rfl⟩, rfl, rfl⟩
theorem Own.len {L : LH} {k : Nat} {e : TypeId} {v : Value} {len : Nat} {cs : List Value} {ob : Option Nat} (h : Own L k e v len cs ob) : cs.length = len * k := by
 cases ob with
 | none => obtain ⟨_, rfl, rfl⟩ := h; simp
 | some b => obtain ⟨_, _, _, _, _, _, h, _⟩ := h; exact h
theorem Own.le {L L' : LH} {k : Nat} {e : TypeId} {v : Value} {len : Nat} {cs : List Value} {ob : Option Nat} (h : Own L k e v len cs ob) (hl : Le L L') : Own L' k e v len cs ob := by
 cases ob with
 | none => exact h
 | some b => obtain ⟨cap, c, h1, h2, h3⟩ := h; exact ⟨cap, c, h1, hl _ _ h2, h3⟩
theorem Own.keep {L L' : LH} {k : Nat} {e : TypeId} {v : Value} {len : Nat} {cs : List Value} {ob : Option Nat} (h : Own L k e v len cs ob) (hl : ∀ b, ob = some b → L' b = L b) : Own L' k e v len cs ob := by
 cases ob with
 | none => exact h
 | some b => obtain ⟨cap, c, h1, h2, h3⟩ := h; exact ⟨cap, c, h1, (hl b rfl).trans h2, h3⟩
theorem Own.slice {L : LH} {k : Nat} {e : TypeId} {v : Value} {len : Nat} {cs : List Value} {ob : Option Nat} (h : Own L k e v len cs ob) : ∃ ad cap, v = .slice ad len cap ∧ len ≤ cap := by
 cases ob with
 | none => obtain ⟨⟨cap, h1, h0⟩, h2, _⟩ := h; subst h2 h0; exact ⟨none, 0, h1, Nat.le_refl _⟩
 | some b => obtain ⟨cap, c, h1, _, _, h2, _⟩ := h; exact ⟨_, cap, h1, h2⟩
theorem Own.blk {L : LH} {k : Nat} {e : TypeId} {v : Value} {len : Nat} {cs : List Value} {b : Nat} (h : Own L k e v len cs (some b)) : L b ≠ none := by
 obtain ⟨cap, c, _, h1, _⟩ := h
 rw [h1]; simp
theorem flat_get {α : Type} {enc : α → List Value} {k : Nat} (hk : ∀ x, (enc x).length = k) : ∀ {l : List α} {i j : Nat} {x : α} {v : Value}, l[i]? = some x → (enc x)[j]? = some v → (l.flatMap enc)[i * k + j]? = some v
 | [], _, _, _, _, hx, _ => by simp at hx
 | y :: l, 0, j, x, v, hx, hv => by
  have hj : j < k := by
   have := (List.getElem?_eq_some_iff.1 hv).1
   rw [hk] at this; exact this
  simp only [List.getElem?_cons_zero, Option.some.injEq] at hx
  subst hx
  rw [List.flatMap_cons, Nat.zero_mul, Nat.zero_add, List.getElem?_append_left (by rw [hk]; exact hj)]
  exact hv
 | y :: l, i + 1, j, x, v, hx, hv => by
  rw [List.flatMap_cons, List.getElem?_append_right (by rw [hk, Nat.succ_mul]; omega), hk, Nat.succ_mul, show i * k + k + j - k = i * k + j by omega]
  exact flat_get hk (by simpa using hx) hv
theorem Own.at {α : Type} {L : LH} {k : Nat} {e : TypeId} {len : Nat} {ob : Option Nat} {enc : α → List Value} {l : List α} {ad : Option Addr} {cap : Nat} (h : Own L k e (.slice ad len cap) l.length (l.flatMap enc) ob) (hk : ∀ x, (enc x).length = k) : SlAt L ad k enc l := by
 intro i x hx
 cases ob with
 | none =>
  obtain ⟨_, h2, _⟩ := h
  have hlt := (List.getElem?_eq_some_iff.1 hx).1
  omega
 | some b =>
  obtain ⟨cap', c, h1, h2, h3, h4, h5, h6⟩ := h
  cases h1
  refine ⟨_, rfl, fun j v hv => ?_⟩
  rw [add_of]
  refine cell_of h2 ?_
  rw [Nat.zero_add]
  exact h6 _ _ (flat_get hk hx hv)
section
variable {P : Program} {R : LH} {H : Value → LH → Prop}
theorem wpS_choose {q : Question} {Q : Nat → LH → Prop} : wpS P Q H (choose q) R = ∀ n, Answers q n → Q n R := rfl
theorem wpS_askRoom {n : Nat} {Q : Unit → LH → Prop} (h : Q () R) : wpS P Q H (askRoom n) R := by
 unfold askRoom
 split
 ·exact ⟨.inl rfl, h⟩
 ·exact h
theorem growBy_le (m : Nat) : ∀ (r c : Nat), c < m → r ≤ 4 → Builtin.growBy m r c ≤ 2 * m + 1024
 | 0, c, h, _ => by unfold Builtin.growBy; omega
 | r + 1, c, h, hr => by
  unfold Builtin.growBy
  split
  ·omega
  ·by_cases h2 : c + (c + 768) / 4 < m
   ·exact growBy_le m r _ h2 (by omega)
   ·have : ∀ r c, m ≤ c → Builtin.growBy m r c = c := by
     intro r c hc
     cases r with
     | zero => rfl
     | succ r => unfold Builtin.growBy; rw [if_pos (by omega)]
    rw [this r _ (by omega)]
    omega
theorem nextcap_le {need old : Nat} (h : old < need) : Builtin.nextslicecap need old ≤ 2 * need + 1024 := by
 unfold Builtin.nextslicecap
 split
 ·omega
 ·split
  ·omega
  ·exact growBy_le _ _ _ h (Nat.le_refl _)
def FirstIs (P : Program) (R : LH) (k m : Nat) (yv : Value) (vs : List Value) : Prop := vs.length = m * k ∧ (∀ (Q : Nat → LH → Prop) (H : Value → LH → Prop), wpS P Q H (Builtin.lenOf yv) R = Q m R) ∧ ∀ (Q : Array Value → LH → Prop) (H : Value → LH → Prop), Q vs.toArray R → wpS P Q H (Builtin.firstCells k m yv) R
theorem FirstIs.at {k m : Nat} {ad : Addr} {cap : Nat} {vs : List Value} (h : cellsAt R ad (m * k) vs) : FirstIs P R k m (.slice (some ad) m cap) vs :=
 ⟨h.1, fun _ _ => rfl, fun Q H hq => by unfold Builtin.firstCells; rw [wpS_loadCells h]; exact hq⟩
theorem FirstIs.nil {k cap : Nat} : FirstIs P R k 0 (.slice none 0 cap) [] := ⟨by simp, fun _ _ => rfl, fun Q H hq => hq⟩
def byteV (b : UInt8) : Value := .int .u8 (b.toNat : Int)
theorem FirstIs.str {l : List UInt8} : FirstIs P R 1 l.length (.string ⟨⟨l⟩⟩) (l.map byteV) := ⟨by simp, fun _ _ => rfl, fun Q H hq => by
 have e : (ByteArray.extract ⟨⟨l⟩⟩ 0 l.length).data.map (fun b => Value.int .u8 (b.toNat : Int)) = (l.map byteV).toArray := by
  rw [ByteArray.extract_mk]
  simp [byteV]
 show wpS P Q H (pure ((ByteArray.extract ⟨⟨l⟩⟩ 0 l.length).data.map fun b => Value.int .u8 (b.toNat : Int))) R
 rw [e]; exact hq⟩
def TxOk (P : Program) (tx : TypeId) : Prop := (∃ e, P.underlying tx = some (.slice e)) ∨ P.underlying tx = some .string
def seqD : TD → Bool
 | .slice _ => true
 | .text => true
 | _ => false
theorem tx_ok {t : TypeId} {d : TD} (h : tdOk P t d) (hs : seqD d = true) : TxOk P t := by
 cases d <;> first | cases hs; done | exact .inl ⟨_, h⟩ | exact .inr h
theorem Own.first {k : Nat} {e : TypeId} {v : Value} {len : Nat} {cs : List Value} {ob : Option Nat} (h : Own R k e v len cs ob) : FirstIs P R k len v cs := by
 cases ob with
 | none => obtain ⟨⟨cap, rfl, h0⟩, rfl, rfl⟩ := h; exact FirstIs.nil
 | some b =>
  obtain ⟨cap, c, rfl, h1, h2, h3, h4, h5⟩ := h
  exact FirstIs.at ⟨h4, fun i v hv => by rw [add_of]; exact cell_of h1 (by rw [Nat.zero_add]; exact h5 i v hv)⟩
structure AppR (k : Nat) (e : TypeId) (len : Nat) (cs : List Value) (ob : Option Nat) (m : Nat) (vs : List Value) (R : LH) (v : Value) (R' : LH) : Prop where
 own : ∃ ob', Own R' k e v (len + m) (cs ++ vs) ob' ∧ ((R' = R ∧ ob' = none ∧ ob = none) ∨ ∃ b c, ob' = some b ∧ R' = R.put b (.cells c e) ∧ ((ob = some b ∧ ∃ c0, R b = some (.cells c0 e (0, 0), true) ∧ c.size = c0.size) ∨ R b = none))
theorem putRow_get (vs : List Value) : ∀ (c : Array Value) (i j : Nat), (putRow c i vs)[j]? = if j < i then c[j]? else if h : j - i < vs.length ∧ j < c.size then some (vs[j - i]'h.1) else c[j]? := by
 induction vs with
 | nil => intro c i j; simp [putRow]
 | cons v vs ih =>
  intro c i j
  rw [putRow, ih]
  by_cases h1 : j < i
  ·rw [if_pos (by omega), if_pos h1, Array.getElem?_setIfInBounds_ne (by omega)]
  ·rw [if_neg h1]
   by_cases h2 : j = i
   ·subst h2
    rw [if_pos (by omega)]
    by_cases h3 : j < c.size
    ·rw [dif_pos ⟨by simp, h3⟩]
     simp [Array.getElem?_setIfInBounds, h3]
    ·rw [dif_neg (by omega)]
     simp [Array.getElem?_setIfInBounds, h3]
   ·rw [if_neg (by omega)]
    by_cases h3 : j - (i + 1) < vs.length ∧ j < c.size
    ·rw [dif_pos ⟨h3.1, by simpa using h3.2⟩, dif_pos ⟨by simp; omega, h3.2⟩]
     congr 1
     have e : j - i = (j - (i + 1)) + 1 := by omega
     simp only [e, List.getElem_cons_succ]
    ·rw [dif_neg (by simpa using h3)]
     rw [Array.getElem?_setIfInBounds_ne (by omega)]
     rw [dif_neg]
     intro h4
     apply h3
     simp at h4
     omega
theorem wpS_append {ts tx e : TypeId} {k bts len m : Nat} {cs vs : List Value} {ob : Option Nat} {v yv z : Value} {ty : TypeId} {Q : Value → LH → Prop} (hts : P.underlying ts = some (.slice e)) (hk : (P.info? e).map (·.size) = some k) (hbt : (P.info? e).map (·.bytes) = some bts) (hz : (P.info? e).bind (·.zero) = some z) (hzk : z.cells.size = k) (htx : TxOk P tx)
  (ho : Own R k e v len cs ob) (hy : FirstIs P R k m yv vs) (hs : ∀ u ∈ vs, single u = true) (h0 : 0 < bts) (hb : (2 * (len + m) + 1024) * bts ≤ 2 ^ 48) (hq : ∀ v' R', AppR k e len cs ob m vs R v' R' → Q v' R') : wpS P Q H (Builtin.append_ #[ts, tx] ty #[v, yv]) R := by
 obtain ⟨hvl, hlen, hfirst⟩ := hy
 unfold Builtin.append_
 simp only [List.getElem?_toArray, List.getElem?_cons_zero, List.getElem?_cons_succ]
 rw [wpS_bind, wpS_underlying hts]
 simp only
 obtain ⟨ad, cap, rfl, hlc⟩ := ho.slice
 simp only
 rcases htx with ⟨e2, htx⟩ | htx
 all_goals
  rw [wpS_bind, wpS_sizeOf hk, wpS_bind, wpS_underlying htx, wpS_bind, wpS_pure]
  simp only [Bool.false_eq_true, if_false, Bool.not_false, if_true]
  rw [wpS_bind, hlen]
  by_cases hfit : len + m ≤ cap
  ·rw [if_pos hfit, wpS_bind]
   refine hfirst _ _ ?_
   cases ob with
   | none =>
    obtain ⟨⟨cap', h1, h0'⟩, h2, h3⟩ := ho
    cases h1
    clear h2
    subst h3 h0'
    have hm : m = 0 := by omega
    subst hm
    have hv0 : vs = [] := by cases vs with | nil => rfl | cons _ _ => simp at hvl
    subst hv0
    refine hq _ _ ⟨none, ⟨⟨0, rfl, rfl⟩, rfl, rfl⟩, .inl ⟨rfl, rfl, rfl⟩⟩
   | some b =>
    obtain ⟨_, c, h1, h2, h3, h4, h5, h6⟩ := ho
    cases h1
    simp only
    rw [wpS_bind]
    rw [add_of, Nat.zero_add]
    have hmul : len * k + m * k ≤ cap * k := by rw [← Nat.add_mul]; exact Nat.mul_le_mul_right _ hfit
    refine wpS_storeCells (e := e) vs 0 c R h2 (by rw [hvl, h3]; omega) hs (fun R' g1 g2 => ?_)
    rw [wpS_pure]
    rw [Nat.add_zero] at g1
    refine hq _ _ ⟨some b, ⟨cap, _, rfl, g1, by rw [putRow_size, h3], hfit, by rw [List.length_append, h5, hvl, Nat.add_mul], fun i x hx => ?_⟩, .inr ⟨b, putRow c (len * k) vs, rfl, ?_, .inl ⟨rfl, c, h2, putRow_size _ _ _⟩⟩⟩
    ·rw [putRow_get]
     by_cases hi : i < len * k
     ·rw [if_pos hi]
      rw [List.getElem?_append_left (by omega)] at hx
      exact h6 i x hx
     ·rw [List.getElem?_append_right (by omega), h5] at hx
      have hlt := (List.getElem?_eq_some_iff.1 hx).1
      rw [if_neg hi, dif_pos ⟨hlt, by rw [h3]; omega⟩]
      rw [← List.getElem?_eq_getElem hlt]; exact hx
    ·funext b'
     by_cases e' : b' = b
     ·subst e'; rw [g1, put_same]
     ·rw [g2 b' e', put_ne _ _ e']
  ·rw [if_neg hfit]
   obtain ⟨inf, hinf, hib⟩ : ∃ inf, P.info? e = some inf ∧ inf.bytes = bts := by
    cases hx : P.info? e with
    | none => rw [hx] at hbt; cases hbt
    | some i => rw [hx] at hbt; cases hbt; exact ⟨i, rfl, rfl⟩
   have hnb : ¬ (inf.bytes = 0) := by omega
   rw [wpS_bind, wpS_typeInfo hinf, if_neg (by simp [hnb]), wpS_bind, wpS_typeInfo hinf]
   have hcap := nextcap_le (need := len + m) (old := cap) (by omega)
   have hle : Builtin.nextslicecap (len + m) cap * inf.bytes ≤ 2 ^ 48 := Nat.le_trans (by rw [hib]; exact Nat.mul_le_mul_right _ hcap) hb
   rw [if_neg (by omega), wpS_bind, wpS_choose]
   intro newCap hnc
   obtain ⟨r, rfl⟩ : ∃ r, newCap = len + m + r := by
    unfold Answers at hnc
    simp only [Question.forced, Bool.false_eq_true, if_false, Question.cut] at hnc
    obtain ⟨t, ht⟩ := hnc
    exact ⟨_, ht⟩
   rw [wpS_bind, wpS_typeInfo hinf, wpS_bind]
   refine wpS_askRoom ?_
   rw [wpS_bind]
   refine (ho.first (P := P)).2.2 _ _ ?_
   rw [wpS_bind]
   refine hfirst _ _ ?_
   rw [wpS_bind, wpS_zeroValue hz, wpS_bind, wpS_newRow]
   intro b hb'
   rw [wpS_pure]
   have hcl := ho.len
   refine hq _ _ ⟨some b, ⟨len + m + r, _, rfl, put_same _ _ _, ?_, by omega, by rw [List.length_append, hcl, hvl, Nat.add_mul], fun i x hx => ?_⟩, .inr ⟨b, _, rfl, rfl, .inr hb'⟩⟩
   ·simp only [Builtin.zeroCells, Array.size_append, List.size_toArray, Array.size_map, Array.size_range, hcl, hvl, hzk]
    rw [show len + m + r - (len + m) = r by omega, Nat.add_mul, Nat.add_mul]
   ·have hlt := (List.getElem?_eq_some_iff.1 hx).1
    rw [← Array.getElem?_toList, Array.toList_append, Array.toList_append, List.getElem?_append_left (by simpa using hlt)]
    exact hx
end
inductive YC (E : Look) (B : List (Option Bx)) (L : LH) (k : Nat) (y : Operand) : Nat → List Value → Prop
 | own {kk off m cap : Nat} {bx : Bx} {svs : List SV} {vs : List Value} (hy : evS E y = some (.sl kk off m cap)) (hb : nth B kk = some (some bx)) (hp : part bx.cells off (m * k) = some svs) (hd : denL nm0 svs = some vs) : YC E B L k y m vs
 | far {a : Addr} {m cap : Nat} {vs : List Value} (hy : evS E y = some (.v (.slice (some a) m cap))) (hc : cellsAt L a (m * k) vs) : YC E B L k y m vs
 | nil {cap : Nat} (hy : evS E y = some (.v (.slice none 0 cap))) : YC E B L k y 0 []
 | str {l : List UInt8} (h1 : k = 1) (hy : evS E y = some (.v (.string ⟨⟨l⟩⟩))) : YC E B L k y l.length (l.map byteV)
theorem flat_len {α : Type} {enc : α → List Value} {k : Nat} (hk : ∀ x, (enc x).length = k) : ∀ l : List α, (l.flatMap enc).length = l.length * k
 | [] => by simp
 | x :: l => by rw [List.flatMap_cons, List.length_append, hk, flat_len hk l, List.length_cons, Nat.succ_mul]; omega
theorem flat_cell {α : Type} {enc : α → List Value} {k : Nat} (hk : ∀ x, (enc x).length = k) (h0 : 0 < k) {l : List α} {n : Nat} {v : Value} (h : (l.flatMap enc)[n]? = some v) : ∃ i j x, n = i * k + j ∧ l[i]? = some x ∧ (enc x)[j]? = some v := by
 have hlt := (List.getElem?_eq_some_iff.1 h).1
 rw [flat_len hk] at hlt
 have hi : n / k < l.length := Nat.div_lt_of_lt_mul (by rw [Nat.mul_comm]; exact hlt)
 refine ⟨n / k, n % k, l[n / k], by rw [Nat.mul_comm]; exact (Nat.div_add_mod n k).symm, List.getElem?_eq_getElem hi, ?_⟩
 have hj : n % k < (enc l[n / k]).length := by rw [hk]; exact Nat.mod_lt _ h0
 have := flat_get hk (List.getElem?_eq_getElem hi) (List.getElem?_eq_getElem hj)
 rw [show n / k * k + n % k = n by rw [Nat.mul_comm]; exact Nat.div_add_mod n k, h] at this
 rw [List.getElem?_eq_getElem hj]; exact this.symm
theorem SlAt.cells {α : Type} {enc : α → List Value} {k : Nat} {L : LH} {a : Addr} {l : List α} (h : SlAt L (some a) k enc l) (hk : ∀ x, (enc x).length = k) : cellsAt L a (l.length * k) (l.flatMap enc) := by
 refine ⟨flat_len hk l, fun n v hv => ?_⟩
 rcases Nat.eq_zero_or_pos k with rfl | h0
 ·have hlt := (List.getElem?_eq_some_iff.1 hv).1
  rw [flat_len hk] at hlt
  omega
 ·obtain ⟨i, j, x, rfl, hx, hj⟩ := flat_cell hk h0 hv
  exact h.get hx hj
theorem YC.sl {α : Type} {enc : α → List Value} {k cap : Nat} {E : Look} {B : List (Option Bx)} {L : LH} {y : Operand} {ad : Option Addr} {l : List α} (h : SlAt L ad k enc l) (hk : ∀ x, (enc x).length = k) (hy : evS E y = some (.v (.slice ad l.length cap))) : YC E B L k y l.length (l.flatMap enc) := by
 cases ad with
 | none =>
  cases l with
  | nil => exact .nil hy
  | cons x l => obtain ⟨a, h1⟩ := h.addr (i := 0) (by simp); cases h1
 | some a => exact .far hy (h.cells hk)
def Grow {α : Type} (I : LH) (k : Nat) (e : TypeId) (enc : α → List Value) (L : LH) (v : Value) (l : List α) : Prop := Le I L ∧ ∃ ob, Own L k e v l.length (l.flatMap enc) ob ∧ ∀ b, ob = some b → I b = none
section
variable {α : Type} {I L L' : LH} {k : Nat} {e : TypeId} {enc : α → List Value} {v : Value} {l : List α}
theorem Grow.nil (h : Le I L) : Grow I k e enc L (.slice none 0 0) [] := ⟨h, none, Own.nil, fun b hb => by cases hb⟩
theorem Grow.new {b : Nat} (h : Le I L) (hb : L b = some (.cells #[] e (0, 0), true)) (hn : I b = none) : Grow I k e enc L (.slice (some ⟨b, 0, none⟩) 0 0) [] := ⟨h, some b, ⟨0, #[], rfl, hb, by simp, Nat.le_refl _, by simp, fun i x hx => by simp at hx⟩, fun b' hb' => by cases hb'; exact hn⟩
theorem Grow.le (h : Grow I k e enc L v l) (hl : Le L L') : Grow I k e enc L' v l := let ⟨h1, ob, h2, h3⟩ := h; ⟨h1.trans hl, ob, h2.le hl, h3⟩
theorem Grow.slice (h : Grow I k e enc L v l) : ∃ ad cap, v = .slice ad l.length cap ∧ l.length ≤ cap := let ⟨_, _, h2, _⟩ := h; h2.slice
theorem Grow.at {ad : Option Addr} {len cap : Nat} (h : Grow I k e enc L (.slice ad len cap) l) (hk : ∀ x, (enc x).length = k) : len = l.length ∧ SlAt L ad k enc l := by
 obtain ⟨_, ob, h2, _⟩ := h
 obtain ⟨ad', cap', h3, _⟩ := h2.slice
 cases h3
 exact ⟨rfl, h2.at hk⟩
end
section
variable {P : Program} [S : Seat P] {C : Cx P} {E : Look} {B : List (Option Bx)} {L : LH} {dst : Option Tmp} {ty : TypeId} {pos : String} {af : Array Edge} {gd : Option (Nat × Bool)}
omit S in
theorem YC.first {k m : Nat} {y : Operand} {vs : List Value} (h : YC E B L k y m vs) {T : Array Value} {R : LH} {β : Nm} (hE : EnvOk β E T) (hB : Boxes β B R) (hL : Le L R) : FirstIs P R k m (ev T y) vs := by
 cases h with
 | own hy hb hp hd =>
  rename_i kk off cap bx svs
  have hv := hE.val hy
  unfold den at hv
  cases hk : β kk with
  | none => rw [hk] at hv; cases hv
  | some b =>
   rw [hk] at hv
   have hv' := (Option.some.inj hv).symm
   rw [hv']
   obtain ⟨cs, hc, hR⟩ := hB kk b bx hk (by rw [← nth_eq]; exact hb)
   obtain ⟨ws, h1, h2⟩ := denL_part hc hp
   rw [denL_nil hd β] at h1
   cases h1
   refine FirstIs.at ⟨by rw [denL_length hd, part_length hp], fun i v hv => ?_⟩
   rw [add_of]
   exact cell_of hR (by rw [List.getElem?_toArray]; exact h2 i v hv)
 | far hy hc =>
  have hv := (Option.some.inj (hE.val hy)).symm
  rw [hv]
  exact FirstIs.at (hL.cellsAt hc)
 | nil hy =>
  have hv := (Option.some.inj (hE.val hy)).symm
  rw [hv]
  exact FirstIs.nil
 | str h1 hy =>
  subst h1
  have hv := (Option.some.inj (hE.val hy)).symm
  rw [hv]
  exact FirstIs.str
def GrowQ {α : Type} (B : List (Option Bx)) (L : LH) (I : LH) (k : Nat) (e : TypeId) (enc : α → List Value) (l : List α) (sv : SV) (B' : List (Option Bx)) (L' : LH) : Prop := ∃ v, sv = .v v ∧ B' = B ∧ Grow I k e enc L' v l ∧ (∀ b, L b ≠ none → L' b ≠ none)
theorem Ef.grow {α : Type} {I : LH} {enc : α → List Value} {l ls : List α} {ts tx e : TypeId} {ti te tx' : TI} {v : Value} {x y : Operand} (hx : evS E x = some (.v v)) (hts : S.τ.find ts = some ti) (hd : ti.d = .slice e) (he : S.τ.find e = some te) (htx : S.τ.find tx = some tx') (hd2 : seqD tx'.d = true) (hz : te.z.cells.size = te.size)
  (h0 : Nat.blt 0 te.bytes = true) (h1 : Nat.ble te.bytes 1024 = true) (hk : ∀ x, (enc x).length = te.size) (hs : ∀ x, ∀ u ∈ enc x, single u = true) (hg : Grow I te.size e enc L v l) (hy : YC E B L te.size y ls.length (ls.flatMap enc)) (hlen : l.length + ls.length ≤ 1073741824) :
  Ef C ⟨dst, .call { callee := .builtin .append, args := #[x, y], argTypes := #[ts, tx] }, ty, pos, af, gd⟩ E B L (GrowQ B L I te.size e enc (l ++ ls)) := by
 intro T R β hE hH
 obtain ⟨hI, ob, ho, hn⟩ := hg
 have ex : ev T x = v := (Option.some.inj (hE.val hx)).symm
 have fy := hy.first (P := P) hE hH.boxes hH.le
 have i1 := (TT.find_ok S.ok hts).d
 rw [hd] at i1
 have i2 := tx_ok (TT.find_ok S.ok htx).d hd2
 have ie := TT.find_ok S.ok he
 refine ⟨rfl, ?_⟩
 simp only [execOp, resolve, List.map_toArray, List.map_cons, List.map_nil, ex, pure, Sem.bind, bind, invoke, builtin]
 show wpS P _ _ (Builtin.append_ _ _ _ >>= fun u => pure (Next.value u)) R
 rw [wpS_bind]
 refine wpS_append i1 ie.size ie.bytes ie.zero hz i2 (ho.le hH.le) fy (fun u hu => ?_) (Nat.le_of_ble_eq_true h0) ?_ fun v' R' hr => ?_
 ·obtain ⟨a, _, hu⟩ := List.mem_flatMap.1 hu
  exact hs a u hu
 ·have := Nat.le_of_ble_eq_true h1
  have h2 : 2 * (l.length + ls.length) + 1024 ≤ 2147484672 := by omega
  exact Nat.le_trans (Nat.mul_le_mul h2 this) (by decide)
 ·rw [wpS_pure]
  obtain ⟨ob', g1, g2⟩ := hr
  rcases g2 with ⟨rfl, rfl, rfl⟩ | ⟨b, c, rfl, rfl, g3⟩
  ·refine ⟨.v v', B, L, ⟨v', rfl, rfl, ⟨hI, none, ?_, hn⟩, fun _ h => h⟩, rfl, hH, fun _ _ => rfl⟩
   rw [List.length_append, List.flatMap_append]
   exact g1
  ·have hown : ∀ L', L' b = some (.cells c e (0, 0), true) → Own L' te.size e v' (l ++ ls).length ((l ++ ls).flatMap enc) (some b) := fun L' hL' => by
    rw [List.length_append, List.flatMap_append]
    exact g1.keep fun b' hb' => by cases hb'; rw [hL', put_same]
   rcases g3 with ⟨rfl, _⟩ | g3
   ·have hLb : ∃ o, L b = some (o, true) := by
     obtain ⟨_, c', _, h2, _⟩ := ho
     exact ⟨_, h2⟩
    obtain ⟨o, hLb⟩ := hLb
    have hIb := hn b rfl
    refine ⟨.v v', B, L.put b (.cells c e), ⟨v', rfl, rfl, ⟨fun b' x hx => ?_, some b, hown _ (put_same _ _ _), fun b' hb' => by cases hb'; exact hIb⟩, fun b' hb' => ?_⟩, rfl, hH.setF hLb (put_same _ _ _) (fun b' hb' => put_ne _ _ hb'), fun _ _ => rfl⟩
    ·rw [put_ne _ _ (fun e => by subst e; rw [hIb] at hx; cases hx)]; exact hI b' x hx
    ·by_cases e' : b' = b
     ·subst e'; rw [put_same]; simp
     ·rw [put_ne _ _ e']; exact hb'
   ·have hLn := (hH.free g3).1
    refine ⟨.v v', B, L.put b (.cells c e), ⟨v', rfl, rfl, ⟨hI.trans (Le.put hLn _), some b, hown _ (put_same _ _ _), fun b' hb' => by cases hb'; exact none_of_le hI hLn⟩, fun b' hb' => ?_⟩, rfl, hH.newF g3 _, fun _ _ => rfl⟩
    by_cases e' : b' = b
    ·subst e'; rw [put_same]; simp
    ·rw [put_ne _ _ e']; exact hb'
def AppQ2 (B : List (Option Bx)) (L : LH) (k : Nat) (e : TypeId) (len : Nat) (cs : List Value) (ob : Option Nat) (sv : SV) (B' : List (Option Bx)) (L' : LH) : Prop := ∃ v ob', sv = .v v ∧ B' = B ∧ Own L' k e v len cs ob' ∧
 ((L' = L ∧ ob' = none ∧ ob = none) ∨ ∃ b c, ob' = some b ∧ L' = L.put b (.cells c e) ∧ ((ob = some b ∧ ∃ c0, L b = some (.cells c0 e (0, 0), true) ∧ c.size = c0.size) ∨ L b = none))
theorem Ef.growA {len m : Nat} {cs vs : List Value} {ob : Option Nat} {ts tx e : TypeId} {ti te tx' : TI} {v : Value} {x y : Operand} (hx : evS E x = some (.v v)) (hts : S.τ.find ts = some ti) (hd : ti.d = .slice e) (he : S.τ.find e = some te) (htx : S.τ.find tx = some tx') (hd2 : seqD tx'.d = true) (hz : te.z.cells.size = te.size)
  (h0 : Nat.blt 0 te.bytes = true) (h1 : Nat.ble te.bytes 1024 = true) (hs : ∀ u ∈ vs, single u = true) (ho : Own L te.size e v len cs ob) (hy : YC E B L te.size y m vs) (hlen : len + m ≤ 1073741824) :
  Ef C ⟨dst, .call { callee := .builtin .append, args := #[x, y], argTypes := #[ts, tx] }, ty, pos, af, gd⟩ E B L (AppQ2 B L te.size e (len + m) (cs ++ vs) ob) := by
 intro T R β hE hH
 have ex : ev T x = v := (Option.some.inj (hE.val hx)).symm
 have fy := hy.first (P := P) hE hH.boxes hH.le
 have i1 := (TT.find_ok S.ok hts).d
 rw [hd] at i1
 have i2 := tx_ok (TT.find_ok S.ok htx).d hd2
 have ie := TT.find_ok S.ok he
 refine ⟨rfl, ?_⟩
 simp only [execOp, resolve, List.map_toArray, List.map_cons, List.map_nil, ex, pure, Sem.bind, bind, invoke, builtin]
 show wpS P _ _ (Builtin.append_ _ _ _ >>= fun u => pure (Next.value u)) R
 rw [wpS_bind]
 refine wpS_append i1 ie.size ie.bytes ie.zero hz i2 (ho.le hH.le) fy hs (Nat.le_of_ble_eq_true h0) ?_ fun v' R' hr => ?_
 ·have := Nat.le_of_ble_eq_true h1
  have h2 : 2 * (len + m) + 1024 ≤ 2147484672 := by omega
  exact Nat.le_trans (Nat.mul_le_mul h2 this) (by decide)
 ·rw [wpS_pure]
  obtain ⟨ob', g1, g2⟩ := hr
  rcases g2 with ⟨rfl, rfl, rfl⟩ | ⟨b, c, rfl, rfl, g3⟩
  ·exact ⟨.v v', B, L, ⟨v', none, rfl, rfl, g1, .inl ⟨rfl, rfl, rfl⟩⟩, rfl, hH, fun _ _ => rfl⟩
  ·have hown : Own (L.put b (.cells c e)) te.size e v' (len + m) (cs ++ vs) (some b) := g1.keep fun b' hb' => by cases hb'; rw [put_same, put_same]
   rcases g3 with ⟨rfl, c0, g4, g5⟩ | g3
   ·have hLb : L b = some (.cells c0 e (0, 0), true) := by
     obtain ⟨_, c', _, h2, _⟩ := id ho
     have := hH.le _ _ h2
     rw [g4] at this
     cases this
     exact h2
    exact ⟨.v v', B, L.put b (.cells c e), ⟨v', some b, rfl, rfl, hown, .inr ⟨b, c, rfl, rfl, .inl ⟨rfl, c0, hLb, g5⟩⟩⟩, rfl, hH.setF hLb (put_same _ _ _) (fun b' hb' => put_ne _ _ hb'), fun _ _ => rfl⟩
   ·have hLn := (hH.free g3).1
    exact ⟨.v v', B, L.put b (.cells c e), ⟨v', some b, rfl, rfl, hown, .inr ⟨b, c, rfl, rfl, .inr hLn⟩⟩, rfl, hH.newF g3 _, fun _ _ => rfl⟩
end
end Go.Mz


set_option maxRecDepth 100000
namespace Go.Proofs
end Go.Proofs
namespace Go.Mz
open Go.Conc Go.Proofs
section
variable {P : Program} {H : Value → LH → Prop} {L : LH}
theorem eqIn_int {d : Nat} {t : TypeId} {k : IntKind} {a c : Int} {Q : Bool → LH → Prop} (hu : P.underlying t = some (.int k)) : wpS P Q H (Op.equalIn (d + 1) t (.int k a) (.int k c)) L = Q (a == c) L := by
 rw [Op.equalIn, wpS_bind, wpS_underlying hu]
 simp only [if_true]
 rfl
theorem wpS_part1 {t : TypeId} {cs : Array Value} {off : Nat} {v : Value} {Q : Value → LH → Prop} (ha : aggB P t = some false) (h : cs[off]? = some v) : wpS P Q H (Go.part t cs off) L = Q v L := by
 unfold Go.part
 rw [wpS_bind, wpS_isAgg ha]
 simp only [Bool.false_eq_true, if_false, h]
 rfl
def numFs (P : Program) (xs : List Int) (fs : List Field) : Prop := ∀ f ∈ fs, f.name ≠ "_" ∧ P.underlying f.type = some (.int .i64) ∧ aggB P f.type = some false ∧ f.offset < xs.length
def eqFs (xs ys : List Int) (fs : List Field) : Bool := fs.all fun f => xs[f.offset]? == ys[f.offset]?
def intsV (xs : List Int) : Value := .agg (xs.map (Value.int .i64)).toArray
theorem eqIn_struct {t : TypeId} {fs : Array Field} {n : Nat} {xs ys : List Int} {Q : Bool → LH → Prop} (hu : P.underlying t = some (.struct fs)) (hp : P.stoodInHeld t = false) (hx : numFs P xs fs.toList) (hy : numFs P ys fs.toList) :
    wpS P Q H (Op.equalIn (n + 2) t (intsV xs) (intsV ys)) L = Q (eqFs xs ys fs.toList) L := by
  unfold intsV
  rw [Op.equalIn, wpS_bind, wpS_underlying hu, wpS_bind, wpS_program]
  simp only [hp, Bool.false_eq_true, if_false]
  rw [wpS_bind, ← Array.forIn_toList]
  generalize hfl : fs.toList = fl at hx hy
  clear hfl hu
  suffices h : ∀ (Q' : Option Bool × Unit → LH → Prop), wpS P Q' H (forIn fl ((none, ()) : Option Bool × Unit) fun f __s =>
                  if f.name ≠ "_" then do
                    let __do_lift ← Go.part f.type (xs.map (Value.int .i64)).toArray f.offset
                    let __do_lift_1 ← Go.part f.type (ys.map (Value.int .i64)).toArray f.offset
                    let __do_lift ← Op.equalIn (n + 1) f.type __do_lift __do_lift_1
                    if (!__do_lift) = true then pure (ForInStep.done (some false, ()))
                      else pure (ForInStep.yield (none, ()))
                  else pure (ForInStep.yield (none, ()))) L = if eqFs xs ys fl then Q' (none, ()) L else Q' (some false, ()) L by
    rw [h]
    cases eqFs xs ys fl <;> rfl
  intro Q'
  induction fl with
  | nil => rfl
  | cons f fl ih =>
    obtain ⟨n1, n2, n3, n4⟩ := hx f (List.mem_cons_self ..)
    obtain ⟨_, _, _, m4⟩ := hy f (List.mem_cons_self ..)
    rw [List.forIn_cons, wpS_bind]
    simp only [n1, ne_eq, not_false_eq_true, if_true]
    rw [wpS_bind, wpS_part1 (v := .int .i64 xs[f.offset]) n3 (by simp [n4]), wpS_bind, wpS_part1 (v := .int .i64 ys[f.offset]) n3 (by simp [m4]), wpS_bind, eqIn_int n2]
    unfold eqFs
    rw [List.all_cons]
    by_cases e : xs[f.offset] = ys[f.offset]
    · have e1 : (xs[f.offset] == ys[f.offset]) = true := by simpa using e
      have e2 : (xs[f.offset]? == ys[f.offset]?) = true := by rw [List.getElem?_eq_getElem n4, List.getElem?_eq_getElem m4]; simpa using e
      rw [e1, e2, Bool.true_and]
      exact ih (fun g hg => hx g (List.mem_cons_of_mem _ hg)) (fun g hg => hy g (List.mem_cons_of_mem _ hg))
    · have e1 : (xs[f.offset] == ys[f.offset]) = false := by simpa using e
      have e2 : (xs[f.offset]? == ys[f.offset]?) = false := by rw [List.getElem?_eq_getElem n4, List.getElem?_eq_getElem m4]; simpa using e
      rw [e1, e2, Bool.false_and]
      rfl
end
section
variable {P : Program} {E : Look} {B : List (Option Bx)} {L : LH}
theorem Vf.eqS {t t2 : TypeId} {op : BinOp} {x y : Operand} {sx sy : SV} {xs ys : List Int} {c : Bool} (hop : op = .eql ∨ op = .neq) (hx : evS E x = some sx) (dx : den nm0 sx = some (intsV xs)) (hy : evS E y = some sy) (dy : den nm0 sy = some (intsV ys)) (hg : P.eqGuardType P.depth t = false)
  (he : ∀ (n : Nat) (Q : Bool → LH → Prop) (H : Value → LH → Prop) (R : LH), wpS P Q H (Op.equalIn (n + 3) t (intsV xs) (intsV ys)) R = Q c R) : Vf P (.binOp op t x y t2) E B L (.v (.bool (eqC op c))) := fun T R β hE _ _ => by
 have ex : ev T x = intsV xs := Option.some.inj ((hE.val hx).symm.trans (den_nil dx β))
 have ey : ev T y = intsV ys := Option.some.inj ((hE.val hy).symm.trans (den_nil dy β))
 refine ⟨_, rfl, fun ty dst pos af gd Q H hq => ?_⟩
 simp only [execOp, ex, ey]
 rw [wpS_bind, wpS_bind]
 have hgd : wpS P (fun _ L' => wpS P (fun b L' => wpS P Q H (pure (Next.value b)) L') H (binOp op t (intsV xs) (intsV ys)) L') H (eqGuard op t x y (intsV xs) (intsV ys)) R = wpS P (fun b L' => wpS P Q H (pure (Next.value b)) L') H (binOp op t (intsV xs) (intsV ys)) R := by
  unfold eqGuard intsV
  rcases hop with rfl | rfl <;> (show wpS P _ H (program >>= _) R = _; rw [wpS_bind, wpS_program, wpS_bind, wpS_program, hg]; rfl)
 rw [hgd]
 rcases hop with rfl | rfl
 ·show wpS P _ H (do pure (Value.bool (← Op.equal t (intsV xs) (intsV ys)))) R
  unfold Op.equal
  simp only [wpS_bind, wpS_pure]
  rw [show Op.maxDepth = 9997 + 3 from rfl, he]
  exact hq
 ·show wpS P _ H (do pure (Value.bool (!(← Op.equal t (intsV xs) (intsV ys))))) R
  unfold Op.equal
  simp only [wpS_bind, wpS_pure]
  rw [show Op.maxDepth = 9997 + 3 from rfl, he]
  exact hq
end
end Go.Mz


set_option maxRecDepth 100000
namespace Go.Mz
open Go.Conc Go.Proofs
section
variable {P : Program} {H : Value → LH → Prop} {L : LH}
theorem wpS_getMap {r : Nat} {es : Array MapEntry} {clk : Nat} {wr : Bool} {Q : Obj → LH → Prop} (h : L r = some (.map es clk, wr)) : wpS P Q H (getObj r) L = Q (.map es clk) L := by
 show wpS P Q H (.getObj r .pure) L = _
 unfold wpS
 rw [h]
 rfl
variable {E : Look} {B : List (Option Bx)}
variable {C : Cx P} {dst : Option Tmp} {ty : TypeId} {pos : String} {af : Array Edge} {gd : Option (Nat × Bool)}
theorem Ef.mapNew {t kt et : TypeId} {x y u : Operand} {r : Nat} {sk su : SV} {kv uv : Value} {es : Array MapEntry} {clk : Nat} (hx : evS E x = some (.v (.map (some r)))) (hy : evS E y = some sk) (dk : den nm0 sk = some kv) (hw : evS E u = some su) (du : den nm0 su = some uv) (hu : P.underlying t = some (.map kt et)) (hL : L r = some (.map es clk, true))
  (hc : ∀ (e : Bool) (Q : Unit → LH → Prop) (H : Value → LH → Prop) (R : LH), wpS P Q H (Instr.checkKey e 10000 kt kv) R = Q () R) (hf : ∀ (Q : Option (Nat × Value) → LH → Prop) (H : Value → LH → Prop) (R : LH), wpS P Q H (Instr.findKey kt kv es.toList) R = Q none R) :
  Ef C ⟨dst, .mapUpdate t x y u, ty, pos, af, gd⟩ E B L (StoQ (L.put r (.map (es.push { key := kv, val := uv, born := clk }) (clk + 1))) B) := by
 intro T R β hE hH
 have ex := (Option.some.inj (hE.val hx)).symm
 have ey : ev T y = kv := Option.some.inj ((hE.val hy).symm.trans (den_nil dk β))
 have eu : ev T u = uv := Option.some.inj ((hE.val hw).symm.trans (den_nil du β))
 refine ⟨rfl, ?_⟩
 simp only [execOp, ex, ey, eu]
 rw [wpS_bind]
 unfold Instr.mapUpdate
 rw [wpS_bind, wpS_underlying hu]
 simp only
 rw [wpS_bind, wpS_getMap (hH.le _ _ hL)]
 simp only
 rw [wpS_bind, hc, wpS_bind, hf]
 simp only
 rw [wpS_setObj (hH.le _ _ hL) rfl rfl]
 exact ⟨.v undef, B, _, ⟨rfl, rfl, rfl⟩, rfl, hH.setF hL (put_same _ _ _) (fun b' hb' => put_ne R _ hb'), fun _ _ => rfl⟩
end
section
variable {P : Program} [S : Seat P] {C : Cx P} {E : Look} {B : List (Option Bx)} {L : LH} {dst : Option Tmp} {ty : TypeId} {pos : String} {af : Array Edge} {gd : Option (Nat × Bool)}
theorem Ef.stoL {t e : TypeId} {x y : Operand} {ti : TI} {b off : Nat} {cs cs' us : List Value} {v : Value} (hx : evS E x = some (.v (.pointer (some ⟨b, off, none⟩)))) (hy : ∃ s, evS E y = some s ∧ den nm0 s = some v) (ht : S.τ.find t = some ti) (hb : L b = some (.cells cs.toArray e (0, 0), true)) (hu : v.cells = us.toArray) (hn : Nat.beq us.length ti.size = true) (hl : Nat.ble (off + ti.size) cs.length = true)
  (hs : us.all single = true) (hc : putV cs off us = cs') : Ef C ⟨dst, .store t x y, ty, pos, af, gd⟩ E B L (StoQ (L.put b (.cells cs'.toArray e)) B) := by
 have := Ef.stoF (C := C) (B := B) (dst := dst) (ty := ty) (pos := pos) (af := af) (gd := gd) hx hy ht hb (by rw [hu, List.size_toArray]; exact Nat.eq_of_beq_eq_true hn) (by rw [List.size_toArray]; exact Nat.le_of_ble_eq_true hl) (by rw [hu]; intro u h; exact List.all_eq_true.1 hs u (by simpa using h))
 have e1 : putRow cs.toArray off v.cells.toList = cs'.toArray := by
  apply Array.toList_inj.1
  rw [putRow_toList, hu, hc]
 rw [e1] at this
 exact this
end
section
variable {P : Program} {E : Look} {B : List (Option Bx)} {L : LH}
theorem Vf.index {t e : TypeId} {x y : Operand} {sx : SV} {cs : List Value} {v : Value} {n i : Nat} {k : IntKind} (hx : evS E x = some sx) (dx : den nm0 sx = some (.agg cs.toArray)) (hy : evS E y = some (.v (.int k i))) (hu : P.underlying t = some (.array n e)) (hs : (P.info? e).map (·.size) = some 1) (ha : aggB P e = some false) (hi : i < n) (hv : cs[i]? = some v) :
  Vf P (.index t x y) E B L (.v v) := fun T R β hE _ _ => by
 have ex : ev T x = .agg cs.toArray := Option.some.inj ((hE.val hx).symm.trans (den_nil dx β))
 have ey := (Option.some.inj (hE.val hy)).symm
 refine ⟨_, rfl, fun ty dst pos af gd Q H hq => ?_⟩
 simp only [execOp, ex, ey]
 rw [wpS_bind]
 unfold Instr.index
 rw [wpS_bind]
 show wpS P _ H (underlying t >>= _) R
 rw [wpS_bind, wpS_underlying hu]
 simp only
 rw [if_pos (by omega), wpS_bind, wpS_sizeOf hs, wpS_part1 ha (v := v) (by rw [Int.toNat_natCast, Nat.mul_one, List.getElem?_toArray]; exact hv)]
 exact hq
end
def LH.but (L : LH) (b : Nat) : LH := fun b' => if b' = b then none else L b'
theorem but_le (L : LH) (b : Nat) : Le (L.but b) L := fun b' x hx => by
 unfold LH.but at hx
 split at hx
 ·cases hx
 ·exact hx
theorem but_get {L : LH} {b b' : Nat} (h : b' ≠ b) : L.but b b' = L b' := by unfold LH.but; rw [if_neg h]
theorem but_cell {L : LH} {b : Nat} {a : Addr} {v : Value} (h : L.cell? a = some v) (hb : a.block ≠ b) : (L.but b).cell? a = some v := by
 unfold LH.cell? at h ⊢
 rw [but_get hb]; exact h
theorem but_put {L : LH} {b : Nat} {o : Obj} : Le (L.but b) (L.put b o) := fun b' x hx => by
 unfold LH.but at hx
 split at hx
 ·cases hx
 ·rename_i e; rw [put_ne _ _ e]; exact hx
section
variable {P : Program} {H : Value → LH → Prop} {L : LH} {E : Look} {B : List (Option Bx)}
theorem wpS_sliceBound {k : IntKind} {j : Int} {y : Nat} {code : BoundsCode} {Q : Nat → LH → Prop} (h : 0 ≤ j ∧ j ≤ y) : wpS P Q H (Instr.sliceBound (.int k j) y code) L = Q j.toNat L := by
 unfold Instr.sliceBound
 rw [wpS_bind]
 show wpS P Q H (if 0 ≤ j ∧ j ≤ y then _ else _) L = _
 rw [if_pos h]; rfl
theorem Vf.sliceW {t e : TypeId} {x : Operand} {ad : Addr} {n m : Nat} (hx : evS E x = some (.v (.pointer (some ad)))) (hu : P.underlying t = some (.array n e)) (hs : (P.info? e).map (·.size) = some m) (hn : n ≠ 0) :
  Vf P (.slice t x none none none) E B L (.v (.slice (some ad) n n)) := fun T R β hE _ _ => by
 have ex := (Option.some.inj (hE.val hx)).symm
 refine ⟨_, rfl, fun ty dst pos af gd Q H hq => ?_⟩
 simp only [execOp, ex, Option.map_none]
 rw [wpS_bind]
 unfold Instr.sliceAt
 rw [wpS_bind, wpS_underlying hu]
 simp only
 rw [wpS_bind]
 show wpS P _ H (sizeOf e >>= _) R
 rw [wpS_bind, wpS_sizeOf hs]
 rw [if_neg (by omega)]
 have e0 : ad.add (0 * m) = ad := by rw [Nat.zero_mul]; rfl
 rw [e0]
 exact hq
theorem Vf.slice3 {t e : TypeId} {x y u : Operand} {oa : Option Addr} {len cap m j c : Nat} {k k' : IntKind} (hx : evS E x = some (.v (.slice oa len cap))) (hy : evS E y = some (.v (.int k j))) (hw : evS E u = some (.v (.int k' c))) (hu : P.underlying t = some (.slice e)) (hs : (P.info? e).map (·.size) = some m) (hj : j ≤ c) (hc : c ≤ cap) :
  Vf P (.slice t x none (some y) (some u)) E B L (.v (.slice oa j c)) := fun T R β hE _ _ => by
 have ex := (Option.some.inj (hE.val hx)).symm
 have ey := (Option.some.inj (hE.val hy)).symm
 have eu := (Option.some.inj (hE.val hw)).symm
 refine ⟨_, rfl, fun ty dst pos af gd Q H hq => ?_⟩
 simp only [execOp, ex, Option.map_some, Option.map_none, ey, eu]
 rw [wpS_bind]
 unfold Instr.sliceAt
 rw [wpS_bind, wpS_underlying hu]
 simp only
 unfold Instr.slice
 rw [wpS_bind, wpS_underlying hu]
 simp only
 rw [wpS_bind]
 unfold Instr.sliceBounds
 simp only
 rw [wpS_bind, wpS_sliceBound (by omega), wpS_bind, Int.toNat_natCast, wpS_sliceBound (by omega), Int.toNat_natCast]
 show wpS P _ H (sizeOf e >>= _) R
 rw [wpS_bind, wpS_sizeOf hs]
 have e0 : (if c = 0 then oa else oa.map fun x => x.add (0 * m)) = oa := by
  split
  ·rfl
  ·cases oa with
   | none => rfl
   | some a => rw [Nat.zero_mul]; rfl
 rw [e0]
 exact hq
end
end Go.Mz


namespace Go.Mz
open Go.Conc
section
variable {P : Program} {C : Cx P} {n : Nat} {ds : List Deferred} {k : List Item} {E : Env} {B : List (Option Bx)} {L : LH}
variable {dst : Option Tmp} {ty : TypeId} {pos : String} {af : Array Edge} {gd : Option (Nat × Bool)} {E : Look}
theorem Ef.makeMap {t : TypeId} : Ef C ⟨dst, .makeMap t none, ty, pos, af, gd⟩ E B L (fun sv B' L' => ∃ r, sv = .v (.map (some r)) ∧ B' = B ∧ L r = none ∧ L' = L.put r (.map #[] 0)) := by
 intro T R β hE hH
 refine ⟨rfl, Alc.makeMap _ _ _ _ _ _ ?_⟩
 intro b hb
 exact ⟨_, B, _, ⟨b, rfl, rfl, (hH.free hb).1, rfl⟩, rfl, hH.newF hb _, fun _ _ => rfl⟩
end
section
variable {P : Program} {C : Cx P} {o : Oper} {E : Look} {B : List (Option Bx)} {L : LH}
theorem EffW.mono {X : Logic P} {T : Array Value} {K K' : Value → LH → Prop} (hk : ∀ v L', K v L' → K' v L') (h : EffW X o T L K) : EffW X o T L K' := by
 obtain ⟨h1, h2⟩ := h
 refine ⟨h1, wpS_mono (fun nx L' hx => ?_) (fun _ _ h => h) _ _ h2⟩
 cases nx <;> first | exact hk _ _ hx | (obtain ⟨Q, g1, g2⟩ := hx; exact ⟨Q, g1, fun v L'' hq => hk _ _ (g2 v L'' hq)⟩) | exact hx
theorem Ef.pub (s : Nat) {kk : Nat} {x : Bx} {cs : List Value} {Q : Nat → SV → List (Option Bx) → LH → Prop} (hs : (∃ off, E s = some (.p kk off)) ∨ (∃ off len cap, E s = some (.sl kk off len cap))) (hx : nth B kk = some (some x)) (hc : denL nm0 x.cells = some cs)
  (h : ∀ b, L b = none → C.R0 b = none → Ef C o (fun s => (E s).map (pubS kk b)) (B.set kk none) (L.put b (.cells cs.toArray x.ty)) (Q b)) : Ef C o E B L (fun sv B' L' => ∃ b, L b = none ∧ C.R0 b = none ∧ Q b sv B' L') := by
 intro T R β hE hH
 have hb : ∃ b, β kk = some b := by
  rcases hs with ⟨off, hs⟩ | ⟨off, len, cap, hs⟩
  ·obtain ⟨b, hb, _⟩ := den_p (hE s _ hs); exact ⟨b, hb⟩
  ·have := hE s _ hs
   unfold den at this
   cases hk : β kk with
   | none => rw [hk] at this; cases this
   | some b => exact ⟨b, rfl⟩
 obtain ⟨b, hb⟩ := hb
 have hx' : B[kk]? = some (some x) := by rw [← nth_eq]; exact hx
 obtain ⟨h1, h2⟩ := hH.pub hb hx' hc
 have h3 := (hH.box kk b x hb hx').2.1
 have hE' : EnvOk β (fun s => (E s).map (pubS kk b)) T := fun s y hy => by
  rw [Option.map_eq_some_iff] at hy
  obtain ⟨u, g1, rfl⟩ := hy
  rw [pubS_den hb]; exact hE s u g1
 refine EffW.mono ?_ (h b h1 h3 T R β hE' h2)
 rintro v R' ⟨sv, B', L', q, g1, g2, g3⟩
 refine ⟨sv, B', L', ⟨b, h1, h3, q⟩, g1, g2, fun k' hk' => ?_⟩
 rw [g3 k' hk', List.getElem?_set_ne (fun e => by subst e; rw [hb] at hk'; cases hk')]
end
section
variable {P : Program} {C : Cx P} {n : Nat} {E : Env} {B : List (Option Bx)} {L : LH}
theorem wpS_asAddr {H : Value → LH → Prop} {R : LH} {ad : Addr} {Q : Addr → LH → Prop} : wpS P Q H (asAddr (.pointer (some ad))) R = Q ad R := rfl
theorem WM.ret2 {fn : Func} {Q : Value → LH → Prop} {H : List PanicEntry → LH → Prop} {va vb : Value} {a b : Tmp} {ta tb : TypeId} {aa ab : Addr} (r : Rt C fn Q H) (hres : fn.results = #[.cell a ta, .cell b tb]) (ea : get E a = some (.v (.pointer (some aa)))) (eb : get E b = some (.v (.pointer (some ab))))
  (ha : ∀ (R : LH) (Q : Value → LH → Prop) (H : Value → LH → Prop), Le L R → wpS P Q H (loadVar ta aa) R = Q va R) (hb : ∀ (R : LH) (Q : Value → LH → Prop) (H : Value → LH → Prop), Le L R → wpS P Q H (loadVar tb ab) R = Q vb R) (hq : Q (.tuple #[va, vb]) L) : WM C n [] .returning E B L := by
 refine WM.retF r (fun T R β hE _ hL => ?_) hq
 have e1 : T.getD a undef = .pointer (some aa) := (Option.some.inj (hE _ _ ea)).symm
 have e2 : T.getD b undef = .pointer (some ab) := (Option.some.inj (hE _ _ eb)).symm
 unfold results
 rw [hres, wpS_bind, Array.mapM_eq_mapM_toList]
 simp only [List.mapM_cons, List.mapM_nil]
 rw [wpS_map, wpS_bind]
 simp only [e1, e2]
 rw [wpS_bind, wpS_asAddr, ha _ _ _ hL, wpS_bind, wpS_bind, wpS_bind, wpS_asAddr, hb _ _ _ hL]
 exact ⟨rfl, rfl⟩
theorem load1F {t : TypeId} {a : Addr} {v : Value} (hg : aggB P t = some false) (h : L.cell? a = some v) (R : LH) (Q : Value → LH → Prop) (H : Value → LH → Prop) (hL : Le L R) : wpS P Q H (loadVar t a) R = Q v R := wpS_loadVar1 hg (hL.cell h)
theorem loadNF {t : TypeId} {a : Addr} {m : Nat} {vs : List Value} (hg : aggB P t = some true) (hn : (P.info? t).map (·.size) = some m) (h : cellsAt L a m vs) (R : LH) (Q : Value → LH → Prop) (H : Value → LH → Prop) (hL : Le L R) : wpS P Q H (loadVar t a) R = Q (.agg vs.toArray) R := wpS_loadVarN hg hn (hL.cellsAt h)
end
section
variable {P : Program} [S : Seat P] {C : Cx P} {E : Look} {B : List (Option Bx)} {L : LH} {dst : Option Tmp} {ty : TypeId} {pos : String} {af : Array Edge} {gd : Option (Nat × Bool)}
theorem Ef.copy {ts tx e e2 : TypeId} {ti te : TI} {x y : Operand} {b dl dc m : Nat} {c : Array Value} {vs : List Value} (hx : evS E x = some (.v (.slice (some ⟨b, 0, none⟩) dl dc))) (hts : S.τ.find ts = some ti) (hd : ti.d = .slice e) (he : S.τ.find e = some te) (hy : YC E B L te.size y m vs) (hm : m ≤ dl)
  (hb : L b = some (.cells c e2 (0, 0), true)) (hl : vs.length ≤ c.size) (hs : ∀ u ∈ vs, single u = true) :
  Ef C ⟨dst, .call { callee := .builtin .copy, args := #[x, y], argTypes := #[ts, tx] }, ty, pos, af, gd⟩ E B L (fun sv B' L' => sv = .v (.int .i64 m) ∧ B' = B ∧ L' = L.put b (.cells (putRow c 0 vs) e2)) := by
 intro T R β hE hH
 have ex := (Option.some.inj (hE.val hx)).symm
 obtain ⟨hvl, hlen, hfirst⟩ := hy.first (P := P) hE hH.boxes hH.le
 have i1 := (TT.find_ok S.ok hts).d
 rw [hd] at i1
 refine ⟨rfl, ?_⟩
 simp only [execOp, resolve, List.map_toArray, List.map_cons, List.map_nil, ex, pure, Sem.bind, bind, invoke, builtin]
 show wpS P _ _ (Builtin.copy_ _ _ _ >>= fun u => pure (Next.value u)) R
 rw [wpS_bind]
 unfold Builtin.copy_
 simp only [List.getElem?_toArray, List.getElem?_cons_zero, List.getElem?_cons_succ]
 rw [wpS_bind, wpS_underlying i1]
 simp only
 rw [wpS_bind, hlen, wpS_bind, wpS_sizeOf (TT.find_ok S.ok he).size, wpS_bind]
 rw [show Nat.min m dl = m from Nat.min_eq_left hm]
 refine hfirst _ _ ?_
 simp only
 rw [wpS_bind]
 refine wpS_storeCells (e := e2) vs 0 c R (hH.le _ _ hb) (by omega) hs (fun R' h1 h2 => ?_)
 rw [Nat.add_zero] at h1
 exact ⟨.v (.int .i64 m), B, _, ⟨rfl, rfl, rfl⟩, rfl, hH.setF hb h1 h2, fun _ _ => rfl⟩
end
end Go.Mz

