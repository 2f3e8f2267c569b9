/- Lemmas on which the claim leans. -/
import Derived.Test.YtjhpkghkgaekcaaGreatDoorMzLf
set_option maxRecDepth 100000
namespace Go.Mz
open Go.Conc Go.Proofs
variable {X : Logic Tryz.prog}
def eNoE : Array Value → Sem Value := Extern.AbiNoEscape.same
def eMk : Array Value → Sem Value := Extern.BytealgMakeNoZero.makeNoZero #[3] #[361]
theorem extNoE : Ext Tryz.prog 259 Tryz.f259 eNoE := ⟨Tryz.func259, by kernel_rfl, rfl, by kernel_rfl, by kernel_rfl⟩
theorem extMk : Ext Tryz.prog 260 Tryz.f260 eMk := ⟨Tryz.func260, by kernel_rfl, rfl, by kernel_rfl, by kernel_rfl⟩
theorem noE_t (v : Value) (L : LH) : SpE Tryz.prog 259 [v] L (fun u L' => u = v ∧ L = L') := SpE.pure extNoE fun _ _ _ => rfl
theorem digits_size : ∀ (n t : Nat) (acc : Array Value), (Extern.BytealgMakeNoZero.digits n t acc).size = acc.size + n
 | 0, _, acc => rfl
 | n + 1, t, acc => by
  unfold Extern.BytealgMakeNoZero.digits
  rw [digits_size n, Array.size_push]; omega
theorem mk_t (n : Nat) (hn : n ≤ 281474976710656) (L : LH) : SpE Tryz.prog 260 [.int .i64 n] L (fun u L' => ∃ b cap c, L b = none ∧ u = .slice (some ⟨b, 0, none⟩) n cap ∧ n ≤ cap ∧ c.size = cap ∧ L' = L.put b (.cells c 5)) := by
 refine ⟨_, _, extMk, fun R hR => ?_⟩
 show wpS _ _ _ (underlying 361 >>= _) R
 rw [wpS_bind, wpS_underlying Tryz.underlying361]
 have h1 : (decide ((n : Int) < 0) || decide ((n : Int) > 2 ^ 48)) = false := by
  rw [decide_eq_false (by omega), decide_eq_false (by omega)]; rfl
 simp only [h1, Bool.false_eq_true, if_false, Int.toNat_natCast]
 rw [wpS_bind, wpS_choose]
 intro cap hc
 obtain ⟨r, rfl⟩ : ∃ r, cap = n + r := by
  unfold Answers at hc
  simp only [Question.forced, Bool.false_eq_true, if_false, Question.cut] at hc
  obtain ⟨t, ht⟩ := hc
  exact ⟨_, ht⟩
 rw [wpS_bind]
 refine wpS_askRoom ?_
 rw [wpS_bind, wpS_choose]
 intro bytes _
 rw [wpS_bind, wpS_newRow]
 intro b hb
 rw [wpS_pure]
 exact ⟨_, ⟨b, n + r, _, none_of_le hR hb, rfl, by omega, by rw [digits_size]; show 0 + (n + r) = n + r; omega, rfl⟩, Post.new hR hb _⟩
structure BdAt (I L : LH) (bb : Nat) (z : Value) (l : List UInt8) : Prop where
 le : Le I L
 n : I bb = none
 zz : z = .pointer none ∨ z = pt bb
 o : ∃ ad cap, L bb = some (.cells #[z, .slice ad l.length cap] 363 (0, 0), true) ∧ ∃ ob, Own L 1 5 (.slice ad l.length cap) l.length (l.map byteV) ob ∧ ∀ b, ob = some b → I b = none ∧ b ≠ bb
theorem copyCheck_t (I L : LH) (bb : Nat) (z : Value) (v : Value) (hz : z = .pointer none ∨ z = pt bb) (ho : L bb = some (.cells #[z, v] 363 (0, 0), true)) : Sp X 242 [pt bb] L (fun u L' => u = .tuple #[] ∧ (∀ b, b ≠ bb → L' b = L b) ∧ L' bb = some (.cells #[pt bb, v] 363 (0, 0), true)) := by
 rcases hz with rfl | rfl
 ·refine Sp.enter (n := 20) Tryz.func242 rfl rfl rfl rfl fun C hX _ hL0 r => ?_
  refine W.go 99 rfl ?_
  refine W.vf rfl rfl rfl rfl (Vf.load rfl rfl rfl ((show _ = some (Value.pointer none) from cell_of ho rfl))) ?_
  refine W.go 99 rfl ?_
  refine W.split rfl rfl rfl (fun c => ?_) (fun c => absurd c (by decide))
  refine W.go 99 rfl ?_
  refine W.vf rfl rfl rfl rfl (Vf.toUns rfl Tryz.underlying360 Tryz.underlying266 size363 ho (Nat.zero_lt_succ 1)) ?_
  refine W.go 99 rfl ?_
  refine W.eff rfl rfl rfl (Ef.ext rfl (noE_t _ _)) ?_
  rintro _ _ _ ⟨_, rfl, rfl, rfl, rfl⟩
  refine W.vf rfl rfl rfl rfl (Vf.ofUns rfl Tryz.underlying266 Tryz.underlying360 size363 ho (by kernel_rfl)) ?_
  refine W.go 99 rfl ?_
  refine W.eff0 rfl rfl (Ef.stoO rfl ⟨_, rfl, rfl⟩ rfl (add_of _ _ _) ho rfl (show 1 ≤ 2 by decide) (singles rfl)) ?_
  rintro _ _ _ ⟨rfl, rfl, rfl⟩
  refine W.go 99 rfl ?_
  exact W.ret0 r rfl rfl ⟨rfl, fun b hb => put_ne _ _ hb, put_same _ _ _⟩
 ·refine Sp.enter (n := 20) Tryz.func242 rfl rfl rfl rfl fun C hX _ hL0 r => ?_
  refine W.go 99 rfl ?_
  refine W.vf rfl rfl rfl rfl (Vf.load rfl rfl rfl ((show _ = some (pt bb) from cell_of ho rfl))) ?_
  refine W.go 99 rfl ?_
  refine W.split rfl rfl rfl (fun h => absurd (show false = true from h) (by decide)) (fun _ => ?_)
  refine W.go 99 rfl ?_
  refine W.vf rfl rfl rfl rfl (Vf.load rfl rfl rfl ((show _ = some (pt bb) from cell_of ho rfl))) ?_
  refine W.go 99 rfl ?_
  refine W.vf rfl rfl rfl rfl (Vf.samePtr rfl rfl Tryz.underlying360 size363 (.inr rfl)) ?_
  refine W.go 99 rfl ?_
  refine W.split rfl rfl rfl (fun c => absurd c (by decide)) (fun c => ?_)
  refine W.go 99 rfl ?_
  exact W.ret0 r rfl rfl ⟨rfl, fun _ _ => rfl, ho⟩
theorem BdAt.checked {I L L' : LH} {bb : Nat} {z : Value} {l : List UInt8} (h : BdAt I L bb z l) (h1 : ∀ b, b ≠ bb → L' b = L b) (h2 : ∀ v, L bb = some (.cells #[z, v] 363 (0, 0), true) → L' bb = some (.cells #[pt bb, v] 363 (0, 0), true)) : BdAt I L' bb (pt bb) l := by
 obtain ⟨hle, hn, _, ad, cap, ho, ob, hw, hb⟩ := h
 refine ⟨fun b x hx => ?_, hn, .inr rfl, ad, cap, h2 _ ho, ob, hw.keep fun b hb' => h1 b (hb b hb').2, hb⟩
 rw [h1 b (fun e => by subst e; rw [hn] at hx; cases hx)]
 exact hle _ _ hx
theorem WriteString_t (I L : LH) (bb : Nat) (z : Value) (l w : List UInt8) (h : BdAt I L bb z l) (hl : l.length + w.length ≤ 100000) : Sp X 219 [pt bb, str w] L (fun u L' => BdAt I L' bb (pt bb) (l ++ w)) := by
 obtain ⟨_, _, hz, ad, cap, ho, _⟩ := id h
 refine Sp.enter (n := 19) Tryz.func219 rfl rfl rfl rfl fun C hX _ hL0 r => ?_
 refine W.go 99 rfl ?_
 refine W.eff rfl rfl rfl (Ef.call rfl (copyCheck_t L L bb z _ hz ho)) ?_
 rintro _ _ _ ⟨_, rfl, rfl, rfl, h1, h2⟩
 have h := h.checked h1 (fun v hv => by rw [ho] at hv; cases hv; exact h2)
 rename_i L1
 clear h1 h2 ho
 obtain ⟨hle, hn, _, ad, cap, ho, ob, hw, hb⟩ := h
 refine W.go 99 rfl ?_
 refine W.vf rfl rfl rfl rfl (Vf.load rfl rfl rfl ((show _ = some (Value.slice ad l.length cap) from cell_of ho rfl))) ?_
 refine W.go 99 rfl ?_
 refine W.eff rfl rfl rfl (Ef.growA rfl rfl rfl rfl rfl rfl rfl rfl rfl (by intro u hu; obtain ⟨_, _, rfl⟩ := List.mem_map.1 hu; rfl) hw (YC.str rfl rfl) (by omega)) ?_
 rintro _ _ _ ⟨v1, ob1, rfl, rfl, hw1, hc1⟩
 rename_i L2
 have hf : L2 bb = L1 bb ∧ Le I L2 ∧ ∀ b, ob1 = some b → I b = none ∧ b ≠ bb := by
  rcases hc1 with ⟨rfl, rfl, _⟩ | ⟨b, c, rfl, rfl, ⟨rfl, _⟩ | hbn⟩
  ·exact ⟨rfl, hle, fun b hb => by cases hb⟩
  ·obtain ⟨g1, g2⟩ := hb b rfl
   exact ⟨put_ne _ _ g2.symm, le_put_none hle g1 _, fun b' hb' => by cases hb'; exact ⟨g1, g2⟩⟩
  ·have g2 : b ≠ bb := fun e => by rw [e, ho] at hbn; cases hbn
   exact ⟨put_ne _ _ g2.symm, hle.trans (Le.put hbn _), fun b' hb' => by cases hb'; exact ⟨none_of_le hle hbn, g2⟩⟩
 clear hc1
 obtain ⟨f1, f2, f3⟩ := hf
 obtain ⟨ad1, cap1, rfl, _⟩ := hw1.slice
 rw [ho] at f1
 refine W.go 99 rfl ?_
 refine W.eff0 rfl rfl (Ef.stoO rfl ⟨_, rfl, rfl⟩ rfl (add_of _ _ _) f1 rfl (show 1 + 1 ≤ 2 by decide) (singles rfl)) ?_
 rintro _ _ _ ⟨rfl, rfl, rfl⟩
 refine W.go 99 rfl ?_
 refine W.ret r rfl rfl ?_
 have hlen : (l ++ w).length = l.length + w.length := List.length_append
 refine ⟨le_put_none f2 hn _, hn, .inr rfl, ad1, cap1, by rw [hlen]; exact put_same _ _ _, ob1, ?_, f3⟩
 rw [hlen, List.map_append]
 exact hw1.keep fun b hb => put_ne _ _ (f3 b hb).2
theorem grow_t2 (I L : LH) (bb n : Nat) (hle : Le I L) (hn : I bb = none) (ho : L bb = some (.cells #[pt bb, .slice none 0 0] 363 (0, 0), true)) (hn9 : n ≤ 1000000) : Sp X 243 [pt bb, .int .i64 n] L (fun u L' => u = .tuple #[] ∧ BdAt I L' bb (pt bb) []) := by
 refine Sp.enter (n := 30) Tryz.func243 rfl rfl rfl rfl fun C hX _ hL0 r => ?_
 refine W.go 99 rfl ?_
 refine W.drawn (by kernel_rfl) _ (Le.refl _) ?_
 refine DD.run' [0, 1, 2, 6, 9, 10, 11] rfl ?_
 refine DD.vf 3 rfl rfl rfl rfl rfl (Vf.load rfl rfl rfl ((show _ = some (Value.slice none 0 0) from cell_of ho rfl))) ?_
 refine DD.vf 12 rfl rfl rfl rfl rfl (Vf.load rfl rfl rfl ((show _ = some (Value.slice none 0 0) from cell_of ho rfl))) ?_
 refine DD.run' [4, 5, 7, 13] rfl ?_
 have hw : IntKind.i64.wrap (IntKind.i64.wrap (2 * ((0 : Nat) : Int)) + (n : Int)) = (n : Int) := by
  rw [show IntKind.i64.wrap (2 * ((0 : Nat) : Int)) = 0 from rfl, Int.zero_add]
  exact wrap64_in _ (by omega) (by omega)
 rw [hw]
 refine DD.act 8 rfl rfl rfl rfl rfl (Ef.ext rfl (mk_t n (by omega) L)) ((by rintro _ _ _ ⟨_, rfl, rfl, _, _, _, hb, _, _, _, rfl⟩; exact ⟨Le.put hb _, rfl, .inl rfl⟩)) ?_
 rintro _ _ _ ⟨_, rfl, rfl, b, cap, c, hb, rfl, hcap, hcs, rfl⟩
 refine DD.vf 14 rfl rfl rfl rfl rfl (Vf.slice2 (i := 0) (j := 0) rfl Tryz.underlying361 size5 rfl rfl rfl rfl (Nat.zero_le _) (Nat.zero_le _)) ?_
 have ha : (if cap = 0 then some (⟨b, 0, none⟩ : Addr) else Option.map (fun a : Addr => a.add (0 * 1)) (some ⟨b, 0, none⟩)) = some ⟨b, 0, none⟩ := by
  split
  ·rfl
  ·simp [add_of]
 rw [ha, Nat.sub_zero, Nat.sub_zero]
 refine DD.run' [15] rfl ?_
 refine .fin rfl ?_
 refine W.go 99 rfl ?_
 have hbb : b ≠ bb := fun e => by rw [e, ho] at hb; cases hb
 have ho2 : (L.put b (.cells c 5)) bb = some (.cells #[pt bb, .slice none 0 0] 363 (0, 0), true) := (put_ne _ _ hbb.symm).trans ho
 refine W.vf rfl rfl rfl rfl (Vf.load rfl rfl rfl ((show _ = some (Value.slice none 0 0) from cell_of ho2 rfl))) ?_
 refine W.go 99 rfl ?_
 refine W.eff rfl rfl rfl (Ef.copy rfl rfl rfl rfl (.nil rfl) (Nat.le_refl _) (put_same _ _ _) (Nat.zero_le _) (fun u hu => by simp at hu)) ?_
 rintro _ _ _ ⟨rfl, rfl, rfl⟩
 refine W.go 99 rfl ?_
 have ho3 : ((L.put b (.cells c 5)).put b (.cells c 5)) bb = some (.cells #[pt bb, .slice none 0 0] 363 (0, 0), true) := (put_ne _ _ hbb.symm).trans ho2
 refine W.eff0 rfl rfl (Ef.stoO rfl ⟨_, rfl, rfl⟩ rfl (add_of _ _ _) ho3 rfl (show 1 + 1 ≤ 2 by decide) (singles rfl)) ?_
 rintro _ _ _ ⟨rfl, rfl, rfl⟩
 refine W.go 99 rfl ?_
 exact W.ret0 r rfl rfl ⟨rfl, le_put_none (le_put_none (hle.trans (Le.put hb _)) (none_of_le hle hb) _) hn _, hn, .inr rfl, some ⟨b, 0, none⟩, cap, put_same _ _ _, some b, ⟨cap, c, rfl, (put_ne _ _ hbb).trans (put_same _ _ _), by omega, Nat.zero_le _, rfl, fun i x hx => by simp at hx⟩, fun b' hb' => by cases hb'; exact ⟨none_of_le hle hb, hbb⟩⟩
theorem Grow_t (I L : LH) (bb n : Nat) (hle : Le I L) (hn : I bb = none) (ho : L bb = some (.cells #[.pointer none, .slice none 0 0] 363 (0, 0), true)) (hn9 : n ≤ 1000000) : Sp X 218 [pt bb, .int .i64 n] L (fun u L' => BdAt I L' bb (pt bb) []) := by
 refine Sp.enter (n := 25) Tryz.func218 rfl rfl rfl rfl fun C hX _ hL0 r => ?_
 refine W.go 99 rfl ?_
 refine W.eff rfl rfl rfl (Ef.call rfl (copyCheck_t L L bb _ _ (.inl rfl) ho)) ?_
 rintro _ _ _ ⟨_, rfl, rfl, rfl, h1, h2⟩
 rename_i L1
 refine W.go 99 rfl ?_
 refine W.split rfl rfl rfl (fun h => absurd h (by simp)) (fun _ => ?_)
 refine W.go 99 rfl ?_
 refine W.drawn (by kernel_rfl) _ (Le.refl _) ?_
 refine DD.run' [0, 1, 2, 5, 6, 7, 11] rfl ?_
 refine DD.vf 3 rfl rfl rfl rfl rfl (Vf.load rfl rfl rfl ((show _ = some (Value.slice none 0 0) from cell_of h2 rfl))) ?_
 refine DD.vf 8 rfl rfl rfl rfl rfl (Vf.load rfl rfl rfl ((show _ = some (Value.slice none 0 0) from cell_of h2 rfl))) ?_
 refine DD.run' [4, 9, 10, 12] rfl ?_
 refine .fin rfl ?_
 refine W.go 99 rfl ?_
 have hle1 : Le I L1 := fun b x hx => by
  rw [h1 b (fun e => by subst e; rw [hn] at hx; cases hx)]; exact hle _ _ hx
 refine W.split rfl rfl rfl (fun c => ?_) (fun c => ?_)
 ·refine W.go 99 rfl ?_
  refine W.eff rfl rfl rfl (Ef.call rfl (grow_t2 I L1 bb n hle1 hn h2 hn9)) ?_
  rintro _ _ _ ⟨_, rfl, rfl, rfl, hB⟩
  refine W.go 99 rfl ?_
  exact W.ret0 r rfl rfl hB
 ·refine W.go 99 rfl ?_
  exact W.ret0 r rfl rfl ⟨hle1, hn, .inr rfl, none, 0, h2, none, Own.nil, fun b hb => by cases hb⟩
end Go.Mz


set_option maxRecDepth 100000
namespace Go.Mz
open Go.Conc Go.Proofs
variable {X : Logic Tryz.prog}
theorem String_t (I L : LH) (bb : Nat) (z : Value) (l : List UInt8) (h : BdAt I L bb z l) (h0 : 0 < l.length) (h9 : l.length ≤ 100000) : Sp X 221 [pt bb] L (fun u L' => u = str l ∧ Le I L') := by
 obtain ⟨hle, hn, _, ad, cap, ho, ob, hw, hb⟩ := h
 cases ob with
 | none => obtain ⟨_, e, _⟩ := hw; omega
 | some b =>
  obtain ⟨cap', c, e1, hLb, hcs, hlc, _, hc⟩ := hw
  cases e1
  obtain ⟨g1, g2⟩ := hb b rfl
  refine Sp.enter (n := 14) Tryz.func221 rfl rfl rfl rfl fun C hX _ hL0 r => ?_
  refine W.go 99 rfl ?_
  have hJb : (fun x => if x = b then none else L x : LH) b = none := if_pos rfl
  have hJn : ∀ x, x ≠ b → (fun x => if x = b then none else L x : LH) x = L x := fun x hx => if_neg hx
  generalize (fun x => if x = b then none else L x : LH) = J at hJb hJn
  have hJL : Le J L := fun x o hx => by
   by_cases e : x = b
   ·rw [e, hJb] at hx; cases hx
   ·rw [← hJn x e]; exact hx
  have hoJ := (hJn bb g2.symm).trans ho
  refine W.drawn (by kernel_rfl) J hJL ?_
  refine DD.run' [0, 1, 2, 5, 6, 7] rfl ?_
  refine DD.vf 3 rfl rfl rfl rfl rfl (Vf.load rfl rfl rfl ((show _ = some (Value.slice (some ⟨b, 0, none⟩) l.length cap) from cell_of hoJ rfl))) ?_
  refine DD.vf 8 rfl rfl rfl rfl rfl (Vf.load rfl rfl rfl ((show _ = some (Value.slice (some ⟨b, 0, none⟩) l.length cap) from cell_of hoJ rfl))) ?_
  refine DD.vf 4 rfl rfl rfl rfl rfl (Vf.sliceData rfl (by omega)) ?_
  refine DD.run' [9] rfl ?_
  refine DD.act 10 rfl rfl rfl rfl rfl (Ef.string rfl rfl h0 (by omega) Tryz.underlying397 hLb (liesAt_row (by kernel_rfl) (by omega) (by decide)) (fun i z hz => hc i _ (by rw [List.getElem?_map, hz]; rfl))) ((by rintro _ _ _ ⟨rfl, rfl, rfl⟩; exact ⟨le_put_none hJL hJb _, rfl, .inl rfl⟩)) ?_
  rintro _ _ _ ⟨rfl, rfl, rfl⟩
  refine DD.run' [11] rfl ?_
  refine .fin rfl ?_
  refine W.go 99 rfl ?_
  refine W.ret r rfl rfl ?_
  exact ⟨rfl, le_put_none hle g1 _⟩
def tailB (r : List Bs) : Bs := r.flatMap fun w => 32 :: w
theorem joinB_cons (x : Bs) : ∀ r : List Bs, joinB (x :: r) = x ++ tailB r
 | [] => by simp [joinB, tailB]
 | y :: r => by
  show x ++ 32 :: joinB (y :: r) = _
  rw [joinB_cons y r]
  simp [tailB]
theorem tailB_snoc (q : List Bs) (w : Bs) : tailB (q ++ [w]) = tailB q ++ [32] ++ w := by simp [tailB]
theorem tailB_len : ∀ q : List Bs, (∀ w ∈ q, w.length ≤ 10) → (tailB q).length ≤ 11 * q.length
 | [], _ => by simp [tailB]
 | w :: q, h => by
  have h1 := tailB_len q fun w hw => h w (List.mem_cons_of_mem _ hw)
  have h2 := h w (List.mem_cons_self ..)
  show (32 :: w ++ tailB q).length ≤ 11 * (q.length + 1)
  rw [List.length_append, List.length_cons]
  omega
theorem sl_tail2 {L : LH} {a : Addr} {cap : Nat} {w : Bs} {r : List Bs} (h : SlAt L (some a) 1 encS (w :: r)) (hc : r.length + 1 ≤ cap) : SlAt L (if cap = 1 then some a else Option.map (fun a : Addr => a.add (1 * 1)) (some a)) 1 encS r := by
 by_cases e : cap = 1
 ·have : r = [] := List.eq_nil_of_length_eq_zero (by omega)
  subst this
  exact fun i z hz => by simp at hz
 ·have := sl_tail (cap := r.length + 1) h rfl
  by_cases e2 : r.length + 1 = 1
  ·have : r = [] := List.eq_nil_of_length_eq_zero (by omega)
   subst this
   exact fun i z hz => by simp at hz
  ·rw [if_neg e2] at this
   rw [if_neg e]
   exact this
theorem Join_t (ad : Option Addr) (cap : Nat) (l : List Bs) (L : LH) (hl : SlAt L ad 1 encS l) (hc : l.length ≤ cap) (hn : l.length ≤ 1000) (hw : ∀ w ∈ l, w.length ≤ 10) : Sp X 303 [.slice ad l.length cap, str [32]] L (fun u L' => u = str (joinB l) ∧ Le L L') := by
 rcases l with _ | ⟨x, _ | ⟨y, r⟩⟩
 ·refine Sp.enter (n := 75) Tryz.func303 rfl rfl rfl rfl fun C hX _ hL0 r => ?_
  refine W.go 99 rfl ?_
  refine W.split rfl rfl rfl (fun _ => ?_) (fun h => absurd h (by simp))
  refine W.go 99 rfl ?_
  refine W.ret r rfl rfl ?_
  exact ⟨rfl, Le.refl _⟩
 ·obtain ⟨a, rfl⟩ := hl.addr (i := 0) (Nat.zero_lt_one)
  refine Sp.enter (n := 75) Tryz.func303 rfl rfl rfl rfl fun C hX _ hL0 r => ?_
  refine W.go 99 rfl ?_
  refine W.split rfl rfl rfl (fun h => absurd h (by simp)) (fun _ => ?_)
  refine W.go 99 rfl ?_
  refine W.split rfl rfl rfl (fun _ => ?_) (fun h => absurd h (by simp))
  refine W.go 99 rfl ?_
  refine W.vf rfl rfl rfl rfl (Vf.idx1 rfl rfl rfl rfl rfl rfl rfl ((show 0 < [x].length from Nat.zero_lt_one))) ?_
  refine W.go 99 rfl ?_
  refine W.vf rfl rfl rfl rfl (Vf.load rfl rfl rfl (str_at hl (show [x][0]? = some x from rfl))) ?_
  refine W.go 99 rfl ?_
  refine W.ret r rfl rfl ?_
  exact ⟨rfl, Le.refl _⟩
 ·have hN : (x :: y :: r).length = r.length + 2 := rfl
  have hll : r.length + 2 ≤ 1000 := hn
  rw [joinB_cons]
  generalize hqq : y :: r = q at *
  have hq0 : 0 < q.length := by rw [← hqq]; simp
  clear hqq
  refine Sp.enter (n := 75) Tryz.func303 rfl rfl rfl rfl fun C hX _ hL0 r => ?_
  refine W.go 99 rfl ?_
  refine W.split rfl rfl rfl (fun h => absurd h (by simp; omega)) (fun _ => ?_)
  refine W.go 99 rfl ?_
  refine W.split rfl rfl rfl (fun h => absurd h (by simp; omega)) (fun _ => ?_)
  refine W.go 99 rfl ?_
  have hq1 : (x :: q).length = q.length + 1 := rfl
  refine W.split rfl rfl rfl (fun c => ?_) (fun c => absurd c (by decide))
  refine W.goP [28] 99 rfl ?_
  have hNw : IntKind.i64.wrap (((x :: q).length : Int) - 1) = (q.length : Int) := by
   rw [List.length_cons, show ((q.length + 1 : Nat) : Int) - 1 = (q.length : Int) by omega]
   exact wrap64_in _ (by omega) (by omega)
  rw [hNw]
  refine W.vf rfl rfl rfl rfl (Vf.quo rfl rfl (by omega)) ?_
  have hdv : 1000000000 ≤ IntKind.i64.wrap ((9223372036854775807 : Int).tdiv (q.length : Int)) := by
   have h1 : (9223372036854775807 : Int).tdiv (q.length : Int) = 9223372036854775807 / (q.length : Int) := Int.tdiv_eq_ediv_of_nonneg (by decide)
   have h2 : (9223372036854775807 : Int) / (q.length : Int) ≤ 9223372036854775807 := Int.ediv_le_self _ (by decide)
   have h3 : (1000000000 : Int) ≤ 9223372036854775807 / (q.length : Int) := by
    rw [Int.le_ediv_iff_mul_le (by omega)]; omega
   rw [h1, wrap64_in _ (by omega) h2]
   exact h3
  refine W.go 99 rfl ?_
  refine W.split rfl rfl rfl (fun h => absurd h (by simp; omega)) (fun _ => ?_)
  refine W.go 99 rfl ?_
  have h5 : IntKind.i64.wrap (0 + IntKind.i64.wrap ((([32] : Bs).length : Int) * IntKind.i64.wrap (((x :: q).length : Int) - 1))) = (q.length : Int) := by
   rw [hNw, show ((([32] : Bs).length : Nat) : Int) = 1 from rfl, Int.one_mul, wrap64_in (q.length : Int) (by omega) (by omega), Int.zero_add]
   exact wrap64_in _ (by omega) (by omega)
  refine W.loop (fun m' E B L' => ∃ i n : Nat, m' = (x :: q).length - i ∧ i ≤ (x :: q).length ∧ n ≤ 1000 + 10 * i ∧ L = L' ∧ E = [(0, .v (.slice ad (x :: q).length cap)), (1, .v (str [32])), (5, .v (.int .i64 n)), (39, .v (.slice ad (x :: q).length cap)), (40, .v (.int .i64 (x :: q).length)), (41, .v (.int .i64 i))] ∧ B = [])
   ⟨0, q.length, rfl, Nat.zero_le _, by omega, rfl, rfl, rfl⟩ (by exact ⟨rfl, rfl, congrArg (fun z => some (SV.v (.int .i64 z))) h5, rfl, rfl, rfl, trivial⟩) (by exact trivial) ?_
  rintro _ _ _ _ ⟨i, n, rfl, hi, hni, rfl, rfl, rfl⟩ again
  refine W.go 99 rfl ?_
  refine W.split rfl rfl rfl (fun c1 => W.go 99 rfl ?_) (fun c1 => W.go 99 rfl ?_)
  ·have hi : i < (x :: q).length := by have := of_decide_eq_true c1; omega
   obtain ⟨a, rfl⟩ := hl.addr hi
   have hx := List.getElem?_eq_getElem hi
   have hwi := hw _ (List.getElem_mem hi)
   generalize (x :: q)[i] = w at hx hwi
   refine W.vf rfl rfl rfl rfl (Vf.idx1 rfl rfl rfl rfl rfl rfl rfl (hi)) ?_
   refine W.go 99 rfl ?_
   refine W.vf rfl rfl rfl rfl (Vf.load rfl rfl rfl (str_at hl hx)) ?_
   refine W.go 99 rfl ?_
   have hw1 : IntKind.i64.wrap (9223372036854775807 - (n : Int)) = 9223372036854775807 - (n : Int) := wrap64_in _ (by omega) (by omega)
   refine W.split rfl rfl rfl (fun h => absurd h (by rw [hw1]; simp; omega)) (fun _ => ?_)
   refine W.go 99 rfl ?_
   exact W.again (again _ _ _ _ (by omega) ⟨i + 1, n + w.length, rfl, hi, by omega, rfl, rfl, rfl⟩) (by exact ⟨rfl, rfl, congrArg some (congrArg SV.v (congrArg (Value.int .i64) (by show IntKind.i64.wrap ((n : Int) + (w.length : Int)) = _; rw [Int.natCast_add]; exact wrap64_in _ (by omega) (by omega)))), rfl, rfl, congrArg some (inc64 (by omega)), trivial⟩) trivial
  ·clear again h5 hdv
   have hnb : n ≤ 1000000 := by omega
   clear hni
   refine W.pub 8 (.inl ⟨_, rfl⟩) rfl rfl ?_
   intro bb hbb _
   refine W.eff rfl rfl rfl (Ef.call rfl (Grow_t L _ bb n (Le.put hbb _) hbb (put_same _ _ _) hnb)) ?_
   rintro _ _ _ ⟨_, rfl, rfl, hB⟩
   rename_i L1
   refine W.go 99 rfl ?_
   obtain ⟨a, rfl⟩ := hl.addr (i := 0) (by omega)
   refine W.vf rfl rfl rfl rfl (Vf.idx1 rfl rfl rfl rfl rfl rfl rfl ((show 0 < (x :: q).length by omega))) ?_
   refine W.go 99 rfl ?_
   refine W.vf rfl rfl rfl rfl (Vf.load rfl rfl rfl (str_at (hl.le hB.le) (show (x :: q)[0]? = some x from rfl))) ?_
   refine W.go 99 rfl ?_
   have hx10 := hw x (List.mem_cons_self ..)
   refine W.eff rfl rfl rfl (Ef.call rfl (WriteString_t L _ bb _ [] x hB (by simp; omega))) ?_
   rintro _ _ _ ⟨u1, rfl, rfl, hB⟩
   rename_i L2
   refine W.go 99 rfl ?_
   refine W.vf rfl rfl rfl rfl (Vf.slice2 (i := 1) (j := (x :: q).length) rfl Tryz.underlying33 size9 rfl rfl rfl rfl (by omega) hc) ?_
   have hst := sl_tail2 hl hc
   have hN1 : (x :: q).length - 1 = q.length := rfl
   rw [hN1]
   generalize (if cap = 1 then some a else Option.map (fun a : Addr => a.add (1 * 1)) (some a)) = ta at hst ⊢
   refine W.go 99 rfl ?_
   refine W.loop (fun m' E B L' => ∃ i : Nat, m' = q.length - i ∧ i ≤ q.length ∧ BdAt L L' bb (pt bb) (x ++ tailB (q.take i)) ∧ E = [(1, .v (str [32])), (8, .v (pt bb)), (63, .v (.slice ta q.length (cap - 1))), (64, .v (.int .i64 q.length)), (65, .v (.int .i64 i))] ∧ B = [])
    ⟨0, rfl, Nat.zero_le _, by simpa [tailB] using hB, rfl, rfl⟩ (by exact ⟨rfl, rfl, rfl, rfl, rfl, trivial⟩) (by exact trivial) ?_
   rintro _ _ _ L3 ⟨j, rfl, hj, hB, rfl, rfl⟩ again
   refine W.go 99 rfl ?_
   refine W.split rfl rfl rfl (fun c2 => W.go 99 rfl ?_) (fun c2 => W.go 99 rfl ?_)
   ·have hj : j < q.length := by have := of_decide_eq_true c2; omega
    obtain ⟨a', rfl⟩ := hst.addr hj
    have hwj := List.getElem?_eq_getElem hj
    have hw10 := hw _ (List.mem_cons_of_mem _ (List.getElem_mem hj))
    have htk : q.take (j + 1) = q.take j ++ [q[j]] := List.take_succ_eq_append_getElem hj
    have htl := tailB_len (q.take j) fun w h => hw _ (List.mem_cons_of_mem _ (List.mem_of_mem_take h))
    rw [List.length_take, Nat.min_eq_left (by omega)] at htl
    have hsn := tailB_snoc (q.take j) q[j]
    rw [← htk] at hsn
    generalize q[j] = w at hwj hw10 hsn
    refine W.vf rfl rfl rfl rfl (Vf.idx1 rfl rfl rfl rfl rfl rfl rfl (hj)) ?_
    refine W.go 99 rfl ?_
    refine W.vf rfl rfl rfl rfl (Vf.load rfl rfl rfl (str_at (hst.le hB.le) hwj)) ?_
    refine W.go 99 rfl ?_
    refine W.eff rfl rfl rfl (Ef.call rfl (WriteString_t L _ bb _ _ [32] hB (by rw [List.length_append, List.length_singleton]; omega))) ?_
    rintro _ _ _ ⟨u2, rfl, rfl, hB1⟩
    refine W.go 99 rfl ?_
    refine W.eff rfl rfl rfl (Ef.call rfl (WriteString_t L _ bb _ _ w hB1 (by rw [List.length_append, List.length_append, List.length_singleton]; omega))) ?_
    rintro _ _ _ ⟨u3, rfl, rfl, hB2⟩
    refine W.go 99 rfl ?_
    exact W.again (again _ _ _ _ (by omega) ⟨j + 1, rfl, hj, by rw [hsn]; simpa only [List.append_assoc] using hB2, rfl, rfl⟩) (by exact ⟨rfl, rfl, rfl, rfl, congrArg some (inc64 (by omega)), trivial⟩) trivial
   ·have hje : j = q.length := by have := of_decide_eq_false c2; omega
    subst hje
    rw [List.take_of_length_le (Nat.le_refl _)] at hB
    have htl := tailB_len q fun w h => hw _ (List.mem_cons_of_mem _ h)
    have ht0 : 0 < (tailB q).length := by
     cases q with
     | nil => exact absurd hq0 (by decide)
     | cons w q => show 0 < (32 :: w ++ tailB q).length; simp
    refine W.eff rfl rfl rfl (Ef.call rfl (String_t L _ bb _ _ hB (by rw [List.length_append]; omega) (by rw [List.length_append]; omega))) ?_
    rintro _ _ _ ⟨_, rfl, rfl, rfl, hle⟩
    refine W.go 99 rfl ?_
    refine W.ret r rfl rfl ?_
    exact ⟨rfl, hle⟩
end Go.Mz


set_option maxRecDepth 100000
namespace Go.Mz
open Go.Conc Go.Proofs
variable {X : Logic Tryz.prog}
def digsB : Bs := [48, 49, 50, 51, 52, 53, 54, 55, 56, 57, 97, 98, 99, 100, 101, 102, 103, 104, 105, 106, 107, 108, 109, 110, 111, 112, 113, 114, 115, 116, 117, 118, 119, 120, 121, 122]
def pairsB : Bs := (List.range 100).flatMap fun n => [(48 + n / 10).toUInt8, (48 + n % 10).toUInt8]
theorem dig1 : ∀ n : Fin 10, (digsB.drop n.val).take (n.val + 1 - n.val) = itoaB n.val := by decide +kernel
theorem dig2 : ∀ n : Fin 100, 10 ≤ n.val → (pairsB.drop (n.val * 2)).take (n.val * 2 + 2 - n.val * 2) = itoaB n.val := by decide +kernel
theorem pairs_len : pairsB.length = 200 := by decide +kernel
theorem small_t (n : Nat) (L : LH) (hn : n < 100) : Sp X 253 [.int .i64 n] L (fun u L' => u = str (itoaB n) ∧ L = L') := by
 refine Sp.enter (n := 15) Tryz.func253 rfl rfl rfl rfl fun C hX _ hL0 r => ?_
 refine W.go 99 rfl ?_
 refine W.split rfl rfl rfl (fun c => ?_) (fun c => ?_)
 ·have hc : n < 10 := by have := of_decide_eq_true c; omega
  refine W.go 99 rfl ?_
  refine W.vf rfl rfl rfl rfl (Vf.strSl (l := digsB) (i := n) (j := n + 1) rfl rfl rfl rfl rfl rfl (by rw [wrap64_in _ (by omega) (by omega)]; omega) (by omega) (by show n + 1 ≤ 36; omega)) ?_
  have := dig1 ⟨n, hc⟩
  simp only at this
  rw [this]
  refine W.go 99 rfl ?_
  exact W.ret r rfl rfl ⟨rfl, rfl⟩
 ·have hc : 10 ≤ n := by have := of_decide_eq_false c; omega
  refine W.go 99 rfl ?_
  refine W.vf rfl rfl rfl rfl (Vf.strSl (l := pairsB) (i := n * 2) (j := n * 2 + 2) (by kernel_rfl) rfl rfl rfl rfl (by rw [wrap64_in _ (by omega) (by omega)]; omega) (by rw [wrap64_in ((n : Int) * 2) (by omega) (by omega), wrap64_in _ (by omega) (by omega)]; omega) (by omega) (by rw [pairs_len]; omega)) ?_
  have := dig2 ⟨n, hn⟩ hc
  simp only at this
  rw [this]
  refine W.go 99 rfl ?_
  exact W.ret r rfl rfl ⟨rfl, rfl⟩
theorem Format_t (n : Nat) (L : LH) (hn : n < 100) : Sp X 226 [.int .i64 n, .int .i64 10] L (fun u L' => u = str (itoaB n) ∧ L = L') := by
 refine Sp.enter (n := 54) Tryz.func226 rfl rfl rfl rfl fun C hX _ hL0 r => ?_
 refine W.go 99 rfl ?_
 refine W.split rfl rfl rfl (fun c => ?_) (fun c => absurd c (by decide))
 refine W.go 99 rfl ?_
 refine W.split rfl rfl rfl (fun _ => ?_) (fun h => absurd h (by simp))
 refine W.go 99 rfl ?_
 refine W.split rfl rfl rfl (fun _ => ?_) (fun h => absurd h (by simp; omega))
 refine W.go 99 rfl ?_
 refine W.eff rfl rfl rfl (Ef.call rfl (small_t n _ hn)) ?_
 rintro _ _ _ ⟨_, rfl, rfl, rfl, rfl⟩
 refine W.go 99 rfl ?_
 exact W.ret r rfl rfl ⟨rfl, rfl⟩
theorem Itoa2_t (n : Nat) (L : LH) (hn : n < 100) : Sp X 187 [.int .i64 n] L (fun u L' => u = str (itoaB n) ∧ L = L') := by
 refine Sp.enter (n := 5) Tryz.func187 rfl rfl rfl rfl fun C hX _ hL0 r => ?_
 refine W.go 99 rfl ?_
 refine W.eff rfl rfl rfl (Ef.call rfl (Format_t n _ hn)) ?_
 rintro _ _ _ ⟨_, rfl, rfl, rfl, rfl⟩
 refine W.go 99 rfl ?_
 exact W.ret r rfl rfl ⟨rfl, rfl⟩
theorem Itoa_t (n : Nat) (L : LH) (hn : n < 100) : Sp X 149 [.int .i64 n] L (fun u L' => u = str (itoaB n) ∧ L = L') := by
 refine Sp.enter (n := 5) Tryz.func149 rfl rfl rfl rfl fun C hX _ hL0 r => ?_
 refine W.go 99 rfl ?_
 refine W.eff rfl rfl rfl (Ef.call rfl (Itoa2_t n _ hn)) ?_
 rintro _ _ _ ⟨_, rfl, rfl, rfl, rfl⟩
 refine W.go 99 rfl ?_
 exact W.ret r rfl rfl ⟨rfl, rfl⟩
theorem itoa_len : ∀ n : Fin 100, (itoaB n.val).length ≤ 2 := by decide +kernel
theorem spaced_t (ad : Option Addr) (cap : Nat) (l : List Nat) (L : LH) (hl : IntsAt L ad (l.map Int.ofNat)) (hn : l.length ≤ 100) (hb : ∀ n ∈ l, n < 100) : Sp X 301 [.slice ad l.length cap] L (fun u L' => u = str (joinB (l.map itoaB)) ∧ Le L L') := by
 refine Sp.enter (n := 20) Tryz.func301 rfl rfl rfl rfl fun C hX _ hL0 r => ?_
 refine W.go 99 rfl ?_
 refine W.loop (fun m' E B L' => ∃ (i : Nat) (ua : Option Addr) (uc : Nat), m' = l.length - i ∧ i ≤ l.length ∧ Grow L 1 9 encS L' (.slice ua i uc) ((l.take i).map itoaB) ∧ E = [(3, .v (.slice ua i uc)), (6, .v (.slice ad l.length cap)), (7, .v (.int .i64 l.length)), (8, .v (.int .i64 i))] ∧ B = [])
  ⟨0, none, 0, rfl, Nat.zero_le _, Grow.nil (Le.refl _), rfl, rfl⟩ (by exact ⟨rfl, rfl, rfl, rfl, trivial⟩) (by exact trivial) ?_
 rintro _ _ _ L1 ⟨i, ua, uc, rfl, hi, hg, rfl, rfl⟩ again
 refine W.go 99 rfl ?_
 refine W.split rfl rfl rfl (fun c1 => W.go 99 rfl ?_) (fun c1 => W.go 99 rfl ?_)
 ·have hi : i < l.length := by have := of_decide_eq_true c1; omega
  obtain ⟨a, rfl⟩ := hl.addr (i := i) (by rw [List.length_map]; exact hi)
  have hx := List.getElem?_eq_getElem hi
  have hxm : (l.map Int.ofNat)[i]? = some (Int.ofNat l[i]) := by rw [List.getElem?_map, hx]; rfl
  have hbi := hb _ (List.getElem_mem hi)
  have htk : l.take (i + 1) = l.take i ++ [l[i]] := List.take_succ_eq_append_getElem hi
  have htl : ((l.take i).map itoaB).length = i := by rw [List.length_map, List.length_take]; omega
  generalize l[i] = n at hx hxm hbi htk
  refine W.vf rfl rfl rfl rfl (Vf.idx1 rfl rfl rfl rfl rfl rfl rfl (hi)) ?_
  refine W.go 99 rfl ?_
  refine W.vf rfl rfl rfl rfl (Vf.load rfl rfl rfl ((hl.le hg.1).int hxm)) ?_
  refine W.go 99 rfl ?_
  refine W.eff rfl rfl rfl (Ef.call rfl (Itoa_t n _ hbi)) ?_
  rintro _ _ _ ⟨_, rfl, rfl, rfl, rfl⟩
  refine W.go 99 rfl ?_
  refine W.eff rfl rfl rfl (Ef.grow rfl rfl rfl rfl rfl rfl rfl rfl rfl encS_len encS_sg hg (ls := [itoaB n]) (.own rfl rfl rfl rfl) ((by rw [htl, List.length_singleton]; omega))) ?_
  rintro _ _ _ ⟨v1, rfl, rfl, hg1, _⟩
  rw [show (l.take i).map itoaB ++ [itoaB n] = (l.take (i + 1)).map itoaB by rw [htk, List.map_append]; rfl] at hg1
  obtain ⟨ad1, cap1, rfl, _⟩ := hg1.slice
  rw [show ((l.take (i + 1)).map itoaB).length = i + 1 by rw [List.length_map, List.length_take]; omega] at hg1 ⊢
  refine W.go 99 rfl ?_
  exact W.again (again _ _ _ _ (by omega) ⟨i + 1, ad1, cap1, rfl, hi, hg1, rfl, rfl⟩) (by exact ⟨rfl, rfl, rfl, congrArg some (inc64 (by omega)), trivial⟩) trivial
 ·have hie : i = l.length := by have := of_decide_eq_false c1; omega
  subst hie
  rw [List.take_of_length_le (Nat.le_refl _)] at hg
  have hll : (l.map itoaB).length = l.length := List.length_map ..
  rw [← hll] at hg
  have hat := (hg.at encS_len).2
  obtain ⟨_, _, g1, g2⟩ := hg.slice
  cases g1
  rw [← hll]
  have hw10 : ∀ w ∈ l.map itoaB, w.length ≤ 10 := fun w hw => by
   obtain ⟨n, hn, rfl⟩ := List.mem_map.1 hw
   have := itoa_len ⟨n, hb n hn⟩
   simp only at this
   omega
  refine W.eff rfl rfl rfl (Ef.call rfl (Join_t ua uc _ _ hat g2 (by omega) hw10)) ?_
  rintro _ _ _ ⟨_, rfl, rfl, rfl, hle⟩
  refine W.go 99 rfl ?_
  refine W.ret r rfl rfl ?_
  exact ⟨rfl, hg.1.trans hle⟩
end Go.Mz


set_option maxRecDepth 100000
namespace Go.Mz
open Go.Conc Go.Proofs
variable {X : Logic Tryz.prog}
open Extern in
def e145 (args : Array Value) : Sem Value := ReflectliteValue.unpack (args.getD 0 (.tuple #[]))
open Extern in
def e146 : Array Value → Sem Value := ReflectliteValue.methodAny (ReflectliteValue.valueError "reflectlite.Value.Type" 0) fun t _ _ _ => ReflectliteType.toType t
open Extern in
def e147 : Array Value → Sem Value := ReflectliteValue.method (ReflectliteValue.valueError "reflectlite.Value.IsNil" 0) ReflectliteValue.isNil
open Extern in
def e184 : Array Value → Sem Value := ReflectliteType.typeOf
open Extern in
def e185 : Array Value → Sem Value := ReflectliteValue.method (ReflectliteValue.valueError "reflectlite.Value.Elem" 0) ReflectliteValue.elem
open Extern in
def e186 : Array Value → Sem Value := ReflectliteValue.set
open Extern in
def e295 : Array Value → Sem Value := ReflectliteType.abiMethod fun t => (fun a : Nat => Value.int IntKind.u8 (a : Int)) <$> Rtype.kind t
open Extern in
def e322 : Array Value → Sem Value := ReflectliteType.relation "AssignableTo" ReflectliteType.assignableTo
open Extern in
def e324 : Array Value → Sem Value := ReflectliteType.method ReflectliteType.elem
open Extern in
def e325 : Array Value → Sem Value := ReflectliteType.relation "Implements" ReflectliteType.implements_
theorem ext145 : Ext Tryz.prog 145 Tryz.f145 e145 := ⟨Tryz.func145, by kernel_rfl, rfl, by kernel_rfl, by kernel_rfl⟩
theorem ext146 : Ext Tryz.prog 146 Tryz.f146 e146 := ⟨Tryz.func146, by kernel_rfl, rfl, by kernel_rfl, by kernel_rfl⟩
theorem ext147 : Ext Tryz.prog 147 Tryz.f147 e147 := ⟨Tryz.func147, by kernel_rfl, rfl, by kernel_rfl, by kernel_rfl⟩
theorem ext184 : Ext Tryz.prog 184 Tryz.f184 e184 := ⟨Tryz.func184, by kernel_rfl, rfl, by kernel_rfl, by kernel_rfl⟩
theorem ext185 : Ext Tryz.prog 185 Tryz.f185 e185 := ⟨Tryz.func185, by kernel_rfl, rfl, by kernel_rfl, by kernel_rfl⟩
theorem ext186 : Ext Tryz.prog 186 Tryz.f186 e186 := ⟨Tryz.func186, by kernel_rfl, rfl, by kernel_rfl, by kernel_rfl⟩
theorem ext295 : Ext Tryz.prog 295 Tryz.f295 e295 := ⟨Tryz.func295, by kernel_rfl, rfl, by kernel_rfl, by kernel_rfl⟩
theorem ext322 : Ext Tryz.prog 322 Tryz.f322 e322 := ⟨Tryz.func322, by kernel_rfl, rfl, by kernel_rfl, by kernel_rfl⟩
theorem ext324 : Ext Tryz.prog 324 Tryz.f324 e324 := ⟨Tryz.func324, by kernel_rfl, rfl, by kernel_rfl, by kernel_rfl⟩
theorem ext325 : Ext Tryz.prog 325 Tryz.f325 e325 := ⟨Tryz.func325, by kernel_rfl, rfl, by kernel_rfl, by kernel_rfl⟩
abbrev hdl (t : Nat) : Value := .pointer (some ⟨7, t, none⟩)
abbrev rty (t : Nat) : Value := .iface 318 (.agg #[hdl t])
section
variable {R : LH} {Q : Value → LH → Prop} {H : Value → LH → Prop} {QM : FuncId × Value → LH → Prop}
theorem w145h (d : Value) : wpS Tryz.prog Q H (e145 #[.iface 214 (.agg #[d])]) R = ∀ b, R b = none → Q (.agg #[hdl 214, .pointer (some ⟨b, 0, none⟩), .int .u64 153]) (R.put b (.cells #[d] 214)) := by kernel_rfl
theorem w145p (a : Addr) : wpS Tryz.prog Q H (e145 #[.iface 216 (.pointer (some a))]) R = ∀ b, R b = none → Q (.agg #[hdl 216, .pointer (some ⟨b, 0, none⟩), .int .u64 150]) (R.put b (.cells #[.pointer (some a)] 216)) := by kernel_rfl
theorem w146 (a : Addr) : wpS Tryz.prog Q H (e146 #[.agg #[hdl 216, .pointer (some a), .int .u64 150]]) R = Q (rty 216) R := by kernel_rfl
theorem mKind (h : Value) : wpS Tryz.prog QM H (method (Tryz.prog.types.size + Made.depth) 318 (.agg #[h]) "Kind") R = QM (295, h) R := by kernel_rfl
theorem mElem (h : Value) : wpS Tryz.prog QM H (method (Tryz.prog.types.size + Made.depth) 318 (.agg #[h]) "Elem") R = QM (324, .agg #[h]) R := by kernel_rfl
theorem mImpl (h : Value) : wpS Tryz.prog QM H (method (Tryz.prog.types.size + Made.depth) 318 (.agg #[h]) "Implements") R = QM (325, .agg #[h]) R := by kernel_rfl
theorem mAssg (h : Value) : wpS Tryz.prog QM H (method (Tryz.prog.types.size + Made.depth) 318 (.agg #[h]) "AssignableTo") R = QM (322, .agg #[h]) R := by kernel_rfl
theorem w295p : wpS Tryz.prog Q H (e295 #[hdl 216]) R = Q (.int .u8 22) R := by kernel_rfl
theorem w295h : wpS Tryz.prog Q H (e295 #[hdl 214]) R = Q (.int .u8 25) R := by kernel_rfl
theorem w324 : wpS Tryz.prog Q H (e324 #[.agg #[hdl 216]]) R = Q (rty 214) R := by kernel_rfl
theorem w325 : wpS Tryz.prog Q H (e325 #[.agg #[hdl 214], rty 161]) R = Q (.bool true) R := by kernel_rfl
theorem w184 (v : Value) : wpS Tryz.prog Q H (e184 #[.iface 214 v]) R = Q (rty 214) R := by kernel_rfl
theorem w322 : wpS Tryz.prog Q H (e322 #[.agg #[hdl 214], rty 214]) R = Q (.bool true) R := by kernel_rfl
end
open Extern
theorem rlm (z : Sem Value) (f : TypeId → Addr → Nat → Nat → Sem Value) (v : Value) :
  ReflectliteValue.method z f #[v] = (do match ← ReflectliteValue.parts v with | none => z | some (t, a, fl) => f t a fl (fl % 32)) := rfl
theorem rls (v x : Value) : ReflectliteValue.set #[v, x] = (do
  let (some (dst, a, fl), some (src, b, _)) := (← ReflectliteValue.parts v, ← ReflectliteValue.parts x)
   | unsupported (.noEntry "extern/(internal/reflectlite.Value).Set.zeroValue")
  if fl / ReflectliteValue.flagAddr % 2 == 0 then unsupported (.noEntry "extern/(internal/reflectlite.Value).Set.unaddressable")
  let val ← loadVar src b
  if ← Rtype.directlyAssignable dst src then storeVar dst a val
  else if ← Rtype.implements dst src then
   if (← Rtype.kind src) == 20 then
    match val with
    | .nilIface => unsupported (.noEntry "extern/reflectlite: a nil value of one interface type handed on as a value of another")
    | _ => storeVar dst a val
   else storeVar dst a (.iface src val)
  else panicString ("reflectlite.Set: value of type " ++ (← Rtype.spelt src) ++ " is not assignable to type " ++ (← Rtype.spelt dst))
  pure (.tuple #[])) := rfl
section
variable {R : LH} {Q : Value → LH → Prop} {H : Value → LH → Prop}
theorem parts216 (a : Addr) {Q : Option (TypeId × Addr × Nat) → LH → Prop} : wpS Tryz.prog Q H (ReflectliteValue.parts (.agg #[hdl 216, .pointer (some a), .int .u64 150])) R = Q (some (216, a, 150)) R := by kernel_rfl
theorem parts214a (a : Addr) {Q : Option (TypeId × Addr × Nat) → LH → Prop} : wpS Tryz.prog Q H (ReflectliteValue.parts (.agg #[hdl 214, .pointer (some a), .int .u64 409])) R = Q (some (214, a, 409)) R := by kernel_rfl
theorem parts214 (a : Addr) {Q : Option (TypeId × Addr × Nat) → LH → Prop} : wpS Tryz.prog Q H (ReflectliteValue.parts (.agg #[hdl 214, .pointer (some a), .int .u64 153])) R = Q (some (214, a, 153)) R := by kernel_rfl
theorem elem216 {Q : Option TypeId → LH → Prop} : wpS Tryz.prog Q H (Rtype.elem? 216) R = Q (some 214) R := by kernel_rfl
theorem mk214 (p : Addr) : wpS Tryz.prog Q H (ReflectliteValue.mk 214 p ReflectliteValue.flagAddr) R = Q (.agg #[hdl 214, .pointer (some p), .int .u64 409]) R := by kernel_rfl
theorem direct214 {Q : Bool → LH → Prop} : wpS Tryz.prog Q H (Rtype.directlyAssignable 214 214) R = Q true R := by kernel_rfl
theorem w147 {b : Nat} {a : Addr} (hb : R.cell? ⟨b, 0, none⟩ = some (.pointer (some a))) : wpS Tryz.prog Q H (e147 #[.agg #[hdl 216, .pointer (some ⟨b, 0, none⟩), .int .u64 150]]) R = Q (.bool false) R := by
 unfold e147
 rw [rlm, wpS_bind, parts216]
 show wpS Tryz.prog Q H (ReflectliteValue.isNil 216 ⟨b, 0, none⟩ 150 22) R = _
 have : ReflectliteValue.isNil 216 ⟨b, 0, none⟩ 150 22 = (do match ← loadVar 216 ⟨b, 0, none⟩ with | .chan none | .nilFunc | .nilIface | .map none | .pointer none | .slice none _ _ => pure (.bool true) | _ => pure (.bool false)) := rfl
 rw [this, wpS_bind, wpS_loadVar1 agg216 hb]
 rfl
theorem w185 {b : Nat} {a : Addr} (hb : R.cell? ⟨b, 0, none⟩ = some (.pointer (some a))) : wpS Tryz.prog Q H (e185 #[.agg #[hdl 216, .pointer (some ⟨b, 0, none⟩), .int .u64 150]]) R = Q (.agg #[hdl 214, .pointer (some a), .int .u64 409]) R := by
 unfold e185
 rw [rlm, wpS_bind, parts216]
 show wpS Tryz.prog Q H (ReflectliteValue.elem 216 ⟨b, 0, none⟩ 150 22) R = _
 have : ReflectliteValue.elem 216 ⟨b, 0, none⟩ 150 22 = (do match 22, ← loadVar 216 ⟨b, 0, none⟩, ← Rtype.elem? 216 with | 20, i, _ => ReflectliteValue.unpack i | 22, .pointer none, _ => pure ReflectliteValue.zeroV | 22, .pointer (some p), some e => ReflectliteValue.mk e p ReflectliteValue.flagAddr | _, _, _ => ReflectliteValue.valueError "reflectlite.Value.Elem" 22) := rfl
 rw [this, wpS_bind, wpS_loadVar1 agg216 hb, wpS_bind, elem216]
 exact mk214 a
theorem w186 {a b : Nat} {x y : Value} {e : TypeId} (hb : R.cell? ⟨b, 0, none⟩ = some x) (hx : single x = true) (ha : R a = some (.cells #[y] e (0, 0), true)) (hq : ∀ R', R' a = some (.cells #[x] e (0, 0), true) → (∀ b', b' ≠ a → R' b' = R b') → Q (.tuple #[]) R') :
  wpS Tryz.prog Q H (e186 #[.agg #[hdl 214, .pointer (some ⟨a, 0, none⟩), .int .u64 409], .agg #[hdl 214, .pointer (some ⟨b, 0, none⟩), .int .u64 153]]) R := by
 unfold e186
 rw [rls, wpS_bind, parts214a, wpS_bind, parts214]
 simp only
 rw [if_neg (by decide), wpS_bind, wpS_loadVarN agg214 size214 (vs := [x]) ⟨rfl, fun i v hi => by
  cases i with
  | zero => simp at hi; subst hi; exact hb
  | succ i => simp at hi⟩, wpS_bind, direct214]
 simp only [if_true]
 rw [wpS_bind]
 unfold storeVar
 rw [wpS_bind, wpS_sizeOf size214]
 refine wpS_storeCells (e := e) [x] 0 _ R ha (by simp) (fun v hv => by cases List.mem_singleton.1 hv; exact hx) (fun R' g1 g2 => ?_)
 exact hq R' (by rw [g1]; rfl) g2
end
end Go.Mz


set_option maxRecDepth 100000
namespace Go.Mz
open Go.Conc Go.Proofs
variable {X : Logic Tryz.prog}
def GlOk (L : LH) : Prop := L.cell? ⟨0, 0, none⟩ = some (rty 161)
theorem GlOk.le {L L' : LH} (h : GlOk L) (hl : Le L L') : GlOk L' := hl.cell h
theorem AsNil_sp (t : Value) (L : LH) : Sp X 109 [.nilIface, t] L (fun v L' => v = .bool false ∧ L = L') := by
 refine Sp.enter (n := 42) Tryz.func109 rfl rfl rfl rfl fun C hX _ hL0 r => ?_
 refine W.go 99 rfl ?_
 exact W.ret r rfl rfl ⟨rfl, rfl⟩
theorem set_spE {a b : Nat} {x y : Value} {L : LH} (hx : single x = true) (hb : L.cell? ⟨b, 0, none⟩ = some x) (ha : L a = some (.cells #[y] 214 (0, 0), true)) :
  SpE Tryz.prog 186 [.agg #[hdl 214, .pointer (some ⟨a, 0, none⟩), .int .u64 409], .agg #[hdl 214, .pointer (some ⟨b, 0, none⟩), .int .u64 153]] L (fun v L' => v = .tuple #[] ∧ L' = L.put a (.cells #[x] 214)) :=
 ⟨_, _, ext186, fun R hR => w186 (hR.cell hb) hx (hR _ _ ha) fun R' h1 h2 => ⟨_, ⟨rfl, rfl⟩, Post.set hR ha h1 h2⟩⟩
theorem as_sp (a b : Nat) (d y : Value) (t : Value) (hd : single d = true) (L : LH) (hb : L.cell? ⟨b, 0, none⟩ = some (.pointer (some ⟨a, 0, none⟩))) (ha : L a = some (.cells #[y] 214 (0, 0), true)) :
  Sp X 148 [.iface 214 (.agg #[d]), t, .agg #[hdl 216, .pointer (some ⟨b, 0, none⟩), .int .u64 150], rty 214] L (fun v L' => v = .bool true ∧ L' a = some (.cells #[d] 214 (0, 0), true) ∧ ∀ b' x, b' ≠ a → L b' = some x → L' b' = some x) := by
 refine Sp.enter (n := 62) Tryz.func148 rfl rfl rfl rfl fun C hX _ hL0 r => ?_
 refine W.go 99 rfl ?_
 refine W.loop (fun m E B L' => m = 0 ∧ E = [(0, .v (.iface 214 (.agg #[d]))), (3, .v (rty 214)), (6, .p 0 0)] ∧ B = [some ⟨cellsS (.v (.agg #[hdl 216, .pointer (some ⟨b, 0, none⟩), .int .u64 150])), 269⟩] ∧ L = L')
  ⟨rfl, rfl, rfl, rfl⟩ ⟨rfl, rfl, rfl, trivial⟩ ⟨rfl, trivial⟩ ?_
 rintro _ _ _ _ ⟨rfl, rfl, rfl, rfl⟩ again
 refine W.go 99 rfl ?_
 refine W.eff rfl rfl rfl (Ef.ext rfl (SpE.pure ext184 fun _ _ _ => w184 _)) ?_
 rintro _ _ _ ⟨_, rfl, rfl, rfl, rfl⟩
 refine W.go 99 rfl ?_
 refine W.eff rfl rfl rfl (Ef.inv rfl rfl rfl (fun _ _ _ => mAssg _) (.inr (SpE.pure ext322 fun _ _ _ => w322))) ?_
 rintro _ _ _ ⟨_, rfl, rfl, rfl, rfl⟩
 refine W.go 99 rfl ?_
 refine W.split rfl rfl rfl (fun c => ?_) (fun c => absurd c (by decide))
 refine W.go 99 rfl ?_
 refine W.eff rfl rfl rfl (Ef.ext rfl (SpE.read ext185 fun _ _ R hR => w185 (hR.cell hb))) ?_
 rintro _ _ _ ⟨_, rfl, rfl, rfl, rfl⟩
 refine W.go 99 rfl ?_
 refine W.eff rfl rfl rfl (Ef.ext rfl (SpE.alloc ext145 fun _ _ _ => w145h _)) ?_
 rintro _ _ _ ⟨_, rfl, rfl, b1, hb1, rfl, rfl⟩
 refine W.go 99 rfl ?_
 have hne : a ≠ b1 := fun e => by subst e; rw [ha] at hb1; cases hb1
 refine W.eff rfl rfl rfl (Ef.ext rfl (set_spE hd (b := b1) (cell_of (put_same _ _ _) rfl) ((put_ne _ _ hne).trans ha))) ?_
 rintro _ _ _ ⟨_, rfl, rfl, rfl, rfl⟩
 refine W.go 99 rfl ?_
 refine W.ret r rfl rfl ?_
 exact ⟨rfl, put_same _ _ _, fun b' x hb' hx => by rw [put_ne _ _ hb', put_ne _ _ (fun e => by subst e; rw [hb1] at hx; cases hx)]; exact hx⟩
theorem As_sp (a : Nat) (d y : Value) (hd : single d = true) (L : LH) (hg : GlOk L) (ha : L a = some (.cells #[y] 214 (0, 0), true)) :
  Sp X 109 [.iface 214 (.agg #[d]), .iface 216 (.pointer (some ⟨a, 0, none⟩))] L (fun v L' => v = .bool true ∧ L' a = some (.cells #[d] 214 (0, 0), true) ∧ ∀ b' x, b' ≠ a → L b' = some x → L' b' = some x) := by
 refine Sp.enter (n := 42) Tryz.func109 rfl rfl rfl rfl fun C hX _ hL0 r => ?_
 refine W.go 99 rfl ?_
 refine W.eff rfl rfl rfl (Ef.ext rfl (SpE.alloc ext145 fun _ _ _ => w145p _)) ?_
 rintro _ _ _ ⟨_, rfl, rfl, b1, hb1, rfl, rfl⟩
 refine W.go 99 rfl ?_
 have hne : a ≠ b1 := fun e => by subst e; rw [ha] at hb1; cases hb1
 have hb := cell_of (put_same L b1 (.cells #[.pointer (some ⟨a, 0, none⟩)] 216)) (off := 0) (v := .pointer (some ⟨a, 0, none⟩)) rfl
 refine W.eff rfl rfl rfl (Ef.ext rfl (SpE.pure ext146 fun _ _ _ => w146 _)) ?_
 rintro _ _ _ ⟨_, rfl, rfl, rfl, rfl⟩
 refine W.go 99 rfl ?_
 refine W.eff rfl rfl rfl (Ef.inv rfl rfl rfl (fun _ _ _ => mKind _) (.inr (SpE.pure ext295 fun _ _ _ => w295p))) ?_
 rintro _ _ _ ⟨_, rfl, rfl, rfl, rfl⟩
 refine W.go 99 rfl ?_
 refine W.split rfl rfl rfl (fun c => absurd c (by decide)) (fun c => ?_)
 refine W.go 99 rfl ?_
 refine W.eff rfl rfl rfl (Ef.ext rfl (SpE.read ext147 fun _ _ R hR => w147 (hR.cell hb))) ?_
 rintro _ _ _ ⟨_, rfl, rfl, rfl, rfl⟩
 refine W.go 99 rfl ?_
 refine W.split rfl rfl rfl (fun c => absurd c (by decide)) (fun c => ?_)
 refine W.go 99 rfl ?_
 refine W.eff rfl rfl rfl (Ef.inv rfl rfl rfl (fun _ _ _ => mElem _) (.inr (SpE.pure ext324 fun _ _ _ => w324))) ?_
 rintro _ _ _ ⟨_, rfl, rfl, rfl, rfl⟩
 refine W.go 99 rfl ?_
 refine W.eff rfl rfl rfl (Ef.inv rfl rfl rfl (fun _ _ _ => mKind _) (.inr (SpE.pure ext295 fun _ _ _ => w295h))) ?_
 rintro _ _ _ ⟨_, rfl, rfl, rfl, rfl⟩
 refine W.go 99 rfl ?_
 refine W.split rfl rfl rfl (fun c => ?_) (fun c => absurd c (by decide))
 refine W.go 99 rfl ?_
 refine W.vf rfl rfl rfl rfl (Vf.load rfl rfl rfl (hg.le (Le.put hb1 _))) ?_
 refine W.go 99 rfl ?_
 refine W.eff rfl rfl rfl (Ef.inv rfl rfl rfl (fun _ _ _ => mImpl _) (.inr (SpE.pure ext325 fun _ _ _ => w325))) ?_
 rintro _ _ _ ⟨_, rfl, rfl, rfl, rfl⟩
 refine W.go 99 rfl ?_
 refine W.split rfl rfl rfl (fun c => absurd c (by decide)) (fun c => ?_)
 refine W.go 99 rfl ?_
 refine W.eff rfl rfl rfl (Ef.call rfl (as_sp a b1 d y _ hd _ hb ((put_ne _ _ hne).trans ha))) ?_
 rintro _ _ _ ⟨_, rfl, rfl, rfl, h1, h2⟩
 refine W.go 99 rfl ?_
 refine W.ret r rfl rfl ?_
 exact ⟨rfl, h1, fun b' x hb' hx => h2 b' x hb' (by rw [put_ne _ _ (fun e => by subst e; rw [hb1] at hx; cases hx)]; exact hx)⟩
end Go.Mz


set_option maxRecDepth 100000
namespace Go.Mz
open Go.Conc Go.Proofs
variable {X : Logic Tryz.prog}
theorem CkAt.le {L L' : LH} {bc : Nat} {k : Bk} {p : Kp} {xs : List (Nat × List Int)} {us : List AP} {ua : Option Addr} {uc : Nat} (h : CkAt L bc k p xs us ua uc) (hl : Le L L') : CkAt L' bc k p xs us ua uc := ⟨hl _ _ h.o, h.k.le hl, h.s.le hl, h.a.le hl, h.x, h.c⟩
def errV (e : Int) : Value := if e = 0 then .nilIface else .iface 214 (.agg #[.int .i64 e])
theorem refuse_t (e : Int) (L : LH) : Sp X 302 [.int .i64 e] L (fun v L' => v = errV e ∧ L = L') := by
 refine Sp.enter (n := 8) Tryz.func302 rfl rfl rfl rfl fun C hX _ hL0 r => ?_
 refine W.go 99 rfl ?_
 by_cases hne : e = 0
 ·subst hne
  refine W.split rfl rfl rfl (fun c => ?_) (fun c => absurd c (by decide))
  refine W.go 99 rfl ?_
  exact W.ret r rfl rfl ⟨rfl, rfl⟩
 ·refine W.split rfl rfl rfl (fun h => absurd h (by simpa using hne)) (fun _ => ?_)
  refine W.go 99 rfl ?_
  exact W.ret r rfl rfl ⟨by unfold errV; rw [if_neg hne]; rfl, rfl⟩
theorem intB_nat (n : Nat) : intB (n : Int) = itoaB n := by
 unfold intB
 rw [if_neg (by omega), Int.toNat_natCast]
theorem errorB_nat (n : Nat) : errorB (n : Int) = errB ++ 32 :: itoaB n := by
 unfold errorB; rw [intB_nat]
theorem Error_t (n : Nat) (L : LH) (hn : n < 100) : Sp X 110 [.agg #[.int .i64 n]] L (fun v L' => v = str (errorB n) ∧ L = L') := by
 have hl := itoa_len ⟨n, hn⟩
 simp only at hl
 refine Sp.enter (n := 7) Tryz.func110 rfl rfl rfl rfl fun C hX _ hL0 r => ?_
 refine W.go 99 rfl ?_
 refine W.eff rfl rfl rfl (Ef.call rfl (Itoa_t n _ hn)) ?_
 rintro _ _ _ ⟨_, rfl, rfl, rfl, rfl⟩
 refine W.vf rfl rfl rfl rfl (Vf.cat (l := [101, 114, 114, 111, 114, 32]) rfl rfl (by show 6 + (itoaB n).length ≤ _; omega)) ?_
 refine W.go 99 rfl ?_
 exact W.ret r rfl rfl ⟨by rw [errorB_nat]; rfl, rfl⟩
theorem entry_t (I L : LH) (bf : Nat) (f : Fi) (p : Fp) (a : List Int) (ad : Option Addr) (cap : Nat) (h : DkAt I L bf f p) (ha : IntsAt I ad a) (hn : a.length = 3) : Sp X 314 [.agg #[.int .i64 0, .slice ad a.length cap], deskV bf] L (fun v L' => v = .tuple #[str okB, errV (proofF f (prfOf a)).2] ∧ Le I L') := by
 refine Sp.enter (n := 10) Tryz.func314 rfl rfl rfl rfl fun C hX _ hL0 r => ?_
 refine W.go 99 rfl ?_
 refine W.eff rfl rfl rfl (Ef.call rfl (enter0_t I L bf f p a ad cap h ha hn)) ?_
 rintro _ _ _ ⟨_, rfl, rfl, rfl, J, p', hIJ, hD⟩
 refine W.eff rfl rfl rfl (Ef.call rfl (refuse_t _ _)) ?_
 rintro _ _ _ ⟨_, rfl, rfl, rfl, rfl⟩
 refine W.go 99 rfl ?_
 refine W.ret r rfl rfl ?_
 exact ⟨rfl, hIJ.trans hD.le⟩
theorem strike_small (b : Bl) (pan : Int) : (StrikeE b pan).1.length ≤ 6 ∧ ∀ n ∈ (StrikeE b pan).1, n ≤ 5 := by
 unfold StrikeE
 by_cases h : boilE b ≠ 0
 ·rw [if_pos h]
  exact ⟨Nat.zero_le _, fun n hn => by simp at hn⟩
 ·rw [if_neg h]
  have ok := bl_ok (b := b) (by simpa using h)
  have h5 := ok.h5
  have hl : (strikeB b pan.toNat).length ≤ 6 := by
   unfold strikeB
   refine Nat.le_trans (List.length_filter_le ..) ?_
   rw [List.length_range]; omega
  have hm : ∀ n ∈ strikeB b pan.toNat, n ≤ 5 := fun n hn => by
   have := List.mem_range.1 (List.mem_filter.1 hn).1
   omega
  split
  ·exact ⟨Nat.zero_le _, fun n hn => by simp at hn⟩
  ·split
   ·exact ⟨Nat.zero_le _, fun n hn => by simp at hn⟩
   ·split
    ·exact ⟨Nat.zero_le _, fun n hn => by simp at hn⟩
    ·exact ⟨hl, hm⟩
theorem spacedB_nat (l : List Nat) : spacedB (natI l) = joinB (l.map itoaB) := by
 unfold spacedB natI
 rw [List.map_map]
 exact congrArg joinB (List.map_congr_left fun n _ => intB_nat n)
theorem when_t (I L : LH) (bf : Nat) (f : Fi) (p : Fp) (pan : Int) (h : DkAt I L bf f p) : Sp X 300 [.agg #[.int .i64 pan], deskV bf] L (fun v L' => v = .tuple #[str (spacedB (natI (StrikeE f.b pan).1)), errV (StrikeE f.b pan).2] ∧ Le I L') := by
 have hS := (Strike_t (X := X) f.b p.b pan I h.b).frame h.le
 refine Sp.enter (n := 23) Tryz.func300 rfl rfl rfl rfl fun C hX _ hL0 r => ?_
 refine W.go 99 rfl ?_
 refine W.drawn (by kernel_rfl) _ (Le.refl _) ?_
 refine DD.run' [0, 1, 2, 3, 5, 6] rfl ?_
 refine DD.vf 4 rfl rfl rfl rfl rfl (Vf.loadN rfl rfl rfl (cellsAt_mid (vs := blL f.b p.b) h.o rfl rfl)) ?_
 rw [← hX] at hS
 refine DD.act 7 rfl rfl rfl rfl rfl (Ef.call rfl (hS)) ((by rintro _ _ _ ⟨_, rfl, rfl, J, ⟨_, _, _, hIJ, _⟩, hP⟩; exact ⟨hP.all h.le hIJ, rfl, .inl rfl⟩)) ?_
 rintro _ _ _ ⟨_, rfl, rfl, J, ⟨ad, cap, rfl, hIJ, hat, hcap⟩, hP⟩
 refine DD.run' [8, 9, 10, 11, 12] rfl ?_
 refine .fin rfl ?_
 refine W.go 99 rfl ?_
 obtain ⟨h6, hm5⟩ := strike_small f.b pan
 rw [spacedB_nat] at r
 generalize (StrikeE f.b pan).1 = l at hat hcap h6 hm5 r ⊢
 have hll : (natI l).length = l.length := List.length_map ..
 rw [hll]
 refine W.eff rfl rfl rfl (Ef.call rfl (spaced_t ad cap l _ (hat.le hP.le) (by omega) (fun n hn => by have := hm5 n hn; omega))) ?_
 rintro _ _ _ ⟨_, rfl, rfl, rfl, hle⟩
 refine W.go 99 rfl ?_
 refine W.eff rfl rfl rfl (Ef.call rfl (refuse_t _ _)) ?_
 rintro _ _ _ ⟨_, rfl, rfl, rfl, rfl⟩
 refine W.go 99 rfl ?_
 refine W.ret r rfl rfl ?_
 exact ⟨rfl, hIJ.trans (hP.le.trans hle)⟩
end Go.Mz


set_option maxRecDepth 100000
namespace Go.Mz
open Go.Conc Go.Proofs
variable {X : Logic Tryz.prog}
def ansP (f : Fi) (x : Nat × List Int) : Bs × Int := if x.1 = 0 then (okB, (proofF f (prfOf x.2)).2) else (spacedB (natI (StrikeE f.b (x.2.getD 0 0)).1), (StrikeE f.b (x.2.getD 0 0)).2)
def outP (f : Fi) (x : Nat × List Int) : Bs := if (ansP f x).2 = 0 then (ansP f x).1 else errorB (ansP f x).2
def deskAt (f0 : Fi) (xs : List (Nat × List Int)) (i : Nat) : Fi := (deskB 0 0 (xs.take i) (f0, 0)).1
def workN (f0 : Fi) (xs : List (Nat × List Int)) (n : Nat) : List Bs := (List.range n).map fun i => outP (deskAt f0 xs i) (xs.getD i (0, []))
theorem workN_succ (f0 : Fi) (xs : List (Nat × List Int)) (n : Nat) : workN f0 xs (n + 1) = workN f0 xs n ++ [outP (deskAt f0 xs n) (xs.getD n (0, []))] := by
 unfold workN
 rw [List.range_succ, List.map_append]; rfl
theorem workN_len (f0 : Fi) (xs : List (Nat × List Int)) (n : Nat) : (workN f0 xs n).length = n := by
 unfold workN; rw [List.length_map, List.length_range]
section
variable {QM : FuncId × Value → LH → Prop} {H : Value → LH → Prop} {R : LH}
theorem mAns0 (v : Value) : wpS Tryz.prog QM H (method (Tryz.prog.types.size + Made.depth) 252 v "muscovado/clerk.answer") R = QM (314, v) R := by kernel_rfl
theorem mAns4 (v : Value) : wpS Tryz.prog QM H (method (Tryz.prog.types.size + Made.depth) 153 v "muscovado/clerk.answer") R = QM (300, v) R := by kernel_rfl
end
theorem work_t (bc : Nat) (k : Bk) (p : Kp) (xs : List (Nat × List Int)) (us : List AP) (ua : Option Addr) (uc : Nat) (L : LH) (hgl : GlOk L) (hc : CkAt L bc k p xs us ua uc) (hl : us.length ≤ 6) (hv : ∀ u ∈ us, (u.v = 0 ∧ u.a.length = 3) ∨ u.v = 4)
  (he : ∀ i, i < xs.length → ∃ n : Nat, n < 100 ∧ (ansP (deskAt ⟨k.b, k.ro, k.s⟩ xs i) (xs.getD i (0, []))).2 = n) :
  Sp X 70 [pt bc] L (fun v L' => ∃ aa ac, v = .tuple #[.slice aa xs.length ac, .int .u8 0] ∧ Grow L 1 9 encS L' (.slice aa xs.length ac) (workN ⟨k.b, k.ro, k.s⟩ xs xs.length)) := by
 have hxl : us.length = xs.length := by rw [← hc.x, List.length_map]
 have hv' : ∀ u ∈ us, (u.v = 0 ∧ u.a.length = 3) ∨ u.v = 3 ∨ u.v = 4 ∨ u.v = 5 ∨ u.v = 6 := fun u hu => by
  rcases hv u hu with h | h
  ·exact .inl h
  ·exact .inr (.inr (.inl h))
 refine Sp.enter (n := 64) Tryz.func70 rfl rfl rfl rfl fun C hX _ hL0 r => ?_
 refine W.go 99 rfl ?_
 refine W.vf rfl rfl rfl rfl (Vf.load rfl rfl rfl ((show _ = some (Value.slice ua us.length uc) from cell_of hc.o rfl))) ?_
 refine W.go 99 rfl ?_
 refine W.loop (fun m' E B L' => ∃ (i : Nat) (aa : Option Addr) (ac : Nat), m' = us.length - i ∧ i ≤ us.length ∧ Grow L 1 9 encS L' (.slice aa i ac) (workN ⟨k.b, k.ro, k.s⟩ xs i) ∧ E = [(0, .v (pt bc)), (4, .v (.slice aa i ac)), (5, .v (.int .u8 0)), (18, .v (.slice ua us.length uc)), (19, .v (.int .i64 us.length)), (20, .v (.int .i64 i))] ∧ B = [])
  ⟨0, none, 0, rfl, Nat.zero_le _, Grow.nil (Le.refl _), rfl, rfl⟩ (by exact ⟨rfl, rfl, rfl, rfl, rfl, rfl, trivial⟩) (by exact trivial) ?_
 rintro _ _ _ L2 ⟨i, aa, ac, rfl, hi, hg, rfl, rfl⟩ again
 refine W.go 99 rfl ?_
 refine W.split rfl rfl rfl (fun c1 => W.go 99 rfl ?_) (fun c1 => W.go 99 rfl ?_)
 ·have hi : i < us.length := by have := of_decide_eq_true c1; omega
  have hix : i < xs.length := by omega
  have hL2 := hg.1
  have hc2 := hc.le hL2
  obtain ⟨a, ha⟩ := hc2.s.addr hi
  have hs2 := hc2.s
  rw [ha] at hs2
  have hu := List.getElem?_eq_getElem hi
  have hvu := hv _ (List.getElem_mem hi)
  have hau := hc2.a _ (List.getElem_mem hi)
  have hxu : xs.getD i (0, []) = us[i].x := by
   rw [← hc.x, List.getD_eq_getElem?_getD, List.getElem?_map, hu]; rfl
  obtain ⟨n, hn, hen⟩ := he i hix
  have hwn := workN_succ ⟨k.b, k.ro, k.s⟩ xs i
  have hwl := workN_len ⟨k.b, k.ro, k.s⟩ xs i
  rw [hxu] at hen hwn
  have hgl2 := hgl.le hL2
  generalize us[i] = u at hu hvu hau hen hwn
  obtain ⟨v, a', ad, cap⟩ := u
  have hcell : L2.cell? (a.add i) = some (actV v ad cap a') := by
   have := hs2.get hu (j := 0) (v := actV v ad cap a') rfl
   simpa using this
  have hsl : (Value.slice ua us.length uc) = .slice (some a) us.length uc := by rw [ha]
  rw [hsl]
  refine W.vf rfl rfl rfl rfl (Vf.idx1 rfl rfl rfl rfl rfl rfl rfl (hi)) ?_
  refine W.go 99 rfl ?_
  rcases hvu with ⟨h0, h3⟩ | h0
  ·simp only at h0 h3
   subst h0
   refine W.vf rfl rfl rfl rfl (Vf.load rfl rfl rfl ((show _ = some (Value.iface 252 (.agg #[.int .i64 0, .slice ad a'.length cap])) from hcell))) ?_
   refine W.go 99 rfl ?_
   refine W.eff rfl rfl rfl (Ef.call rfl (desk_t bc k p xs us ua uc i 0 _ hc2 hl (by omega) (by decide) hv')) ?_
   rintro _ _ _ ⟨_, rfl, rfl, bf, J, fp, rfl, hLJ, hD⟩
   refine W.go 99 rfl ?_
   refine W.eff rfl rfl rfl (Ef.inv rfl rfl rfl (fun _ _ _ => mAns0 _) (.inl (entry_t J _ bf _ fp a' ad cap hD (hau.le hLJ) h3))) ?_
   rintro _ _ _ ⟨_, rfl, rfl, rfl, hle⟩
   refine W.go 99 rfl ?_
   have hwn' : workN ⟨k.b, k.ro, k.s⟩ xs (i + 1) = workN ⟨k.b, k.ro, k.s⟩ xs i ++ [if (n : Int) = 0 then okB else errorB n] := by
    rw [hwn]
    unfold outP
    rw [hen]
    rfl
   have hen' : (proofF (deskB 0 0 (xs.take i) (⟨k.b, k.ro, k.s⟩, 0)).1 (prfOf a')).2 = (n : Int) := hen
   rw [hen']
   rename_i L4
   have h24 : Le L2 L4 := hLJ.trans hle
   refine W.split rfl rfl rfl (fun c => absurd c (by decide)) (fun c => ?_)
   refine W.goP [53] 99 rfl ?_
   refine W.pub 14 (.inl ⟨_, rfl⟩) rfl rfl ?_
   intro b14 hb14 _
   refine W.weak (E' := [(0, .v (pt bc)), (4, .v (.slice aa i ac)), (5, .v (.int .u8 0)), (10, .v (str (okB))), (11, .v (errV (n : Int))), (14, .v (pt b14)), (18, .v (.slice (some a) us.length uc)), (19, .v (.int .i64 us.length)), (20, .v (.int .i64 i)), (52, .v (errV (n : Int)))]) (B' := []) (by exact ⟨rfl, rfl, rfl, rfl, rfl, rfl, rfl, rfl, rfl, rfl, trivial⟩) trivial ?_
   have hput := Le.put hb14 (.cells #[.int .i64 0] 214)
   have hsame := put_same L4 b14 (.cells #[.int .i64 0] 214)
   change W C _ _ _ _ _ (L4.put b14 (.cells #[.int .i64 0] 214))
   generalize L4.put b14 (.cells #[.int .i64 0] 214) = L5 at hput hsame ⊢
   have h25 := h24.trans hput
   rcases Nat.eq_zero_or_pos n with hn0 | hn0
   ·subst hn0
    rw [show errV ((0 : Nat) : Int) = .nilIface from rfl]
    rw [if_pos (show ((0 : Nat) : Int) = 0 from rfl)] at hwn'
    refine W.go 99 rfl ?_
    refine W.eff rfl rfl rfl (Ef.call rfl (AsNil_sp _ _)) ?_
    rintro _ _ _ ⟨_, rfl, rfl, rfl, rfl⟩
    refine W.go 99 rfl ?_
    refine W.split rfl rfl rfl (fun c => absurd c (by decide)) (fun c => ?_)
    refine W.go 99 rfl ?_
    refine W.eff rfl rfl rfl (Ef.grow rfl rfl rfl rfl rfl rfl rfl rfl rfl encS_len encS_sg (hg.le h25) (ls := [okB]) (.own rfl rfl rfl rfl) ((by rw [hwl, List.length_singleton]; omega))) ?_
    rintro _ _ _ ⟨v1, rfl, rfl, hg1, _⟩
    rw [← hwn'] at hg1
    obtain ⟨ad1, cap1, rfl, _⟩ := hg1.slice
    rw [workN_len] at hg1 ⊢
    refine W.go 99 rfl ?_
    exact W.again (again _ _ _ _ (by omega) ⟨i + 1, ad1, cap1, rfl, hi, hg1, rfl, rfl⟩) (by exact ⟨rfl, rfl, rfl, congrArg (fun z => some (SV.v z)) hsl.symm, rfl, congrArg some (inc64 (by omega)), trivial⟩) trivial
   ·have hne : (n : Int) ≠ 0 := by omega
    rw [show errV (n : Int) = .iface 214 (.agg #[.int .i64 n]) from if_neg hne]
    rw [if_neg hne] at hwn'
    refine W.go 99 rfl ?_
    refine W.eff rfl rfl rfl (Ef.call rfl (As_sp b14 (.int .i64 n) _ rfl _ (hgl2.le h25) hsame)) ?_
    rintro _ _ _ ⟨_, rfl, rfl, rfl, hs14, hkeep⟩
    refine W.go 99 rfl ?_
    refine W.split rfl rfl rfl (fun c => ?_) (fun c => absurd c (by decide))
    refine W.go 99 rfl ?_
    refine W.vf rfl rfl rfl rfl (Vf.loadN rfl rfl rfl (cellsAt_mid (c := [.int .i64 n]) (vs := [.int .i64 n]) hs14 rfl rfl)) ?_
    refine W.go 99 rfl ?_
    refine W.eff rfl rfl rfl (Ef.call rfl (Error_t n _ hn)) ?_
    rintro _ _ _ ⟨_, rfl, rfl, rfl, rfl⟩
    refine W.go 99 rfl ?_
    rename_i L6
    have h26 : Le L2 L6 := fun b x hx => hkeep b x (fun e => by rw [e] at hx; have := h24 _ _ hx; rw [hb14] at this; cases this) (h25 _ _ hx)
    refine W.eff rfl rfl rfl (Ef.grow rfl rfl rfl rfl rfl rfl rfl rfl rfl encS_len encS_sg (hg.le h26) (ls := [errorB n]) (.own rfl rfl rfl rfl) ((by rw [hwl, List.length_singleton]; omega))) ?_
    rintro _ _ _ ⟨v1, rfl, rfl, hg1, _⟩
    rw [← hwn'] at hg1
    obtain ⟨ad1, cap1, rfl, _⟩ := hg1.slice
    rw [workN_len] at hg1 ⊢
    refine W.go 99 rfl ?_
    exact W.again (again _ _ _ _ (by omega) ⟨i + 1, ad1, cap1, rfl, hi, hg1, rfl, rfl⟩) (by exact ⟨rfl, rfl, rfl, congrArg (fun z => some (SV.v z)) hsl.symm, rfl, congrArg some (inc64 (by omega)), trivial⟩) trivial
  ·simp only at h0
   subst h0
   refine W.vf rfl rfl rfl rfl (Vf.load rfl rfl rfl ((show _ = some (Value.iface 153 (.agg #[.int .i64 (a'.getD 0 0)])) from hcell))) ?_
   refine W.go 99 rfl ?_
   refine W.eff rfl rfl rfl (Ef.call rfl (desk_t bc k p xs us ua uc i 0 _ hc2 hl (by omega) (by decide) hv')) ?_
   rintro _ _ _ ⟨_, rfl, rfl, bf, J, fp, rfl, hLJ, hD⟩
   refine W.go 99 rfl ?_
   refine W.eff rfl rfl rfl (Ef.inv rfl rfl rfl (fun _ _ _ => mAns4 _) (.inl (when_t J _ bf _ fp (a'.getD 0 0) hD))) ?_
   rintro _ _ _ ⟨_, rfl, rfl, rfl, hle⟩
   refine W.go 99 rfl ?_
   have hwn' : workN ⟨k.b, k.ro, k.s⟩ xs (i + 1) = workN ⟨k.b, k.ro, k.s⟩ xs i ++ [if (n : Int) = 0 then spacedB (natI (StrikeE (deskAt ⟨k.b, k.ro, k.s⟩ xs i).b (a'.getD 0 0)).1) else errorB n] := by
    rw [hwn]
    unfold outP
    rw [hen]
    rfl
   have hen' : (StrikeE (deskB 0 0 (xs.take i) (⟨k.b, k.ro, k.s⟩, 0)).1.b (a'.getD 0 0)).2 = (n : Int) := hen
   rw [hen']
   rename_i L4
   have h24 : Le L2 L4 := hLJ.trans hle
   refine W.split rfl rfl rfl (fun c => absurd c (by decide)) (fun c => ?_)
   refine W.goP [53] 99 rfl ?_
   refine W.pub 14 (.inl ⟨_, rfl⟩) rfl rfl ?_
   intro b14 hb14 _
   refine W.weak (E' := [(0, .v (pt bc)), (4, .v (.slice aa i ac)), (5, .v (.int .u8 0)), (10, .v (str (spacedB (natI (StrikeE (deskAt ⟨k.b, k.ro, k.s⟩ xs i).b (a'.getD 0 0)).1)))), (11, .v (errV (n : Int))), (14, .v (pt b14)), (18, .v (.slice (some a) us.length uc)), (19, .v (.int .i64 us.length)), (20, .v (.int .i64 i)), (52, .v (errV (n : Int)))]) (B' := []) (by exact ⟨rfl, rfl, rfl, rfl, rfl, rfl, rfl, rfl, rfl, rfl, trivial⟩) trivial ?_
   have hput := Le.put hb14 (.cells #[.int .i64 0] 214)
   have hsame := put_same L4 b14 (.cells #[.int .i64 0] 214)
   change W C _ _ _ _ _ (L4.put b14 (.cells #[.int .i64 0] 214))
   generalize L4.put b14 (.cells #[.int .i64 0] 214) = L5 at hput hsame ⊢
   have h25 := h24.trans hput
   rcases Nat.eq_zero_or_pos n with hn0 | hn0
   ·subst hn0
    rw [show errV ((0 : Nat) : Int) = .nilIface from rfl]
    rw [if_pos (show ((0 : Nat) : Int) = 0 from rfl)] at hwn'
    refine W.go 99 rfl ?_
    refine W.eff rfl rfl rfl (Ef.call rfl (AsNil_sp _ _)) ?_
    rintro _ _ _ ⟨_, rfl, rfl, rfl, rfl⟩
    refine W.go 99 rfl ?_
    refine W.split rfl rfl rfl (fun c => absurd c (by decide)) (fun c => ?_)
    refine W.go 99 rfl ?_
    refine W.eff rfl rfl rfl (Ef.grow rfl rfl rfl rfl rfl rfl rfl rfl rfl encS_len encS_sg (hg.le h25) (ls := [spacedB (natI (StrikeE (deskAt ⟨k.b, k.ro, k.s⟩ xs i).b (a'.getD 0 0)).1)]) (.own rfl rfl rfl rfl) ((by rw [hwl, List.length_singleton]; omega))) ?_
    rintro _ _ _ ⟨v1, rfl, rfl, hg1, _⟩
    rw [← hwn'] at hg1
    obtain ⟨ad1, cap1, rfl, _⟩ := hg1.slice
    rw [workN_len] at hg1 ⊢
    refine W.go 99 rfl ?_
    exact W.again (again _ _ _ _ (by omega) ⟨i + 1, ad1, cap1, rfl, hi, hg1, rfl, rfl⟩) (by exact ⟨rfl, rfl, rfl, congrArg (fun z => some (SV.v z)) hsl.symm, rfl, congrArg some (inc64 (by omega)), trivial⟩) trivial
   ·have hne : (n : Int) ≠ 0 := by omega
    rw [show errV (n : Int) = .iface 214 (.agg #[.int .i64 n]) from if_neg hne]
    rw [if_neg hne] at hwn'
    refine W.go 99 rfl ?_
    refine W.eff rfl rfl rfl (Ef.call rfl (As_sp b14 (.int .i64 n) _ rfl _ (hgl2.le h25) hsame)) ?_
    rintro _ _ _ ⟨_, rfl, rfl, rfl, hs14, hkeep⟩
    refine W.go 99 rfl ?_
    refine W.split rfl rfl rfl (fun c => ?_) (fun c => absurd c (by decide))
    refine W.go 99 rfl ?_
    refine W.vf rfl rfl rfl rfl (Vf.loadN rfl rfl rfl (cellsAt_mid (c := [.int .i64 n]) (vs := [.int .i64 n]) hs14 rfl rfl)) ?_
    refine W.go 99 rfl ?_
    refine W.eff rfl rfl rfl (Ef.call rfl (Error_t n _ hn)) ?_
    rintro _ _ _ ⟨_, rfl, rfl, rfl, rfl⟩
    refine W.go 99 rfl ?_
    rename_i L6
    have h26 : Le L2 L6 := fun b x hx => hkeep b x (fun e => by rw [e] at hx; have := h24 _ _ hx; rw [hb14] at this; cases this) (h25 _ _ hx)
    refine W.eff rfl rfl rfl (Ef.grow rfl rfl rfl rfl rfl rfl rfl rfl rfl encS_len encS_sg (hg.le h26) (ls := [errorB n]) (.own rfl rfl rfl rfl) ((by rw [hwl, List.length_singleton]; omega))) ?_
    rintro _ _ _ ⟨v1, rfl, rfl, hg1, _⟩
    rw [← hwn'] at hg1
    obtain ⟨ad1, cap1, rfl, _⟩ := hg1.slice
    rw [workN_len] at hg1 ⊢
    refine W.go 99 rfl ?_
    exact W.again (again _ _ _ _ (by omega) ⟨i + 1, ad1, cap1, rfl, hi, hg1, rfl, rfl⟩) (by exact ⟨rfl, rfl, rfl, congrArg (fun z => some (SV.v z)) hsl.symm, rfl, congrArg some (inc64 (by omega)), trivial⟩) trivial
 ·have hie : i = us.length := by have := of_decide_eq_false c1; omega
  subst hie
  rw [hxl] at hg ⊢
  refine W.ret r rfl rfl ?_
  exact ⟨aa, ac, rfl, hg⟩
end Go.Mz


set_option maxRecDepth 100000
namespace Go.Mz
open Go.Conc Go.Proofs
variable {X : Logic Tryz.prog}
theorem open_c (k : Bk) (p : Kp) (xs : List (Nat × List Int)) (L : LH) (hk : BkAt L k p) (ok : BkOk k) (hp : k.ls.map parseB = xs.map some) : Sp X 58 [bkA k p, .slice none 0 0] L (fun v L' => ∃ bc us ua uc, v = .tuple #[pt bc, .int .i64 0] ∧ Le L L' ∧ CkAt L' bc k p xs us ua uc) := by
 have hl6 := ok.l6
 refine Sp.enter (n := 38) Tryz.func58 rfl rfl rfl rfl fun C hX _ hL0 r => ?_
 refine W.go 99 rfl ?_
 refine W.eff rfl rfl rfl (Ef.call rfl (CheckBk_t k p _ hk ok)) ?_
 rintro _ _ _ ⟨_, rfl, rfl, rfl, hle⟩
 rename_i L1
 have hk1 := hk.le hle
 refine W.go 99 rfl ?_
 refine W.split rfl rfl rfl (fun c => absurd c (by decide)) (fun c => ?_)
 refine W.go 99 rfl ?_
 refine W.loop (fun m' E B L' => m' = 0 ∧ L1 = L' ∧ E = [(2, .p 0 0), (15, .v (.int .i64 0)), (16, .v (.int .i64 0))] ∧ B = [some ⟨(bkL k p).map .v, 56⟩])
  ⟨rfl, rfl, rfl, rfl⟩ (by exact ⟨rfl, rfl, rfl, trivial⟩) (by exact ⟨rfl, trivial⟩) ?_
 rintro _ _ _ _ ⟨rfl, rfl, rfl, rfl⟩ again
 clear again
 refine W.go 99 rfl ?_
 refine W.split rfl rfl rfl (fun c => absurd c (by decide)) (fun c => ?_)
 refine W.go 99 rfl ?_
 refine W.eff rfl rfl rfl (Ef.call rfl (torn_t p.la p.lc k.ls _ hk1.l (by omega) (fun x hx => (ok.ln x hx).2.1))) ?_
 rintro _ _ _ ⟨_, rfl, rfl, rfl, rfl⟩
 refine W.go 99 rfl ?_
 refine W.split rfl rfl rfl (fun c => absurd c (by decide)) (fun c => ?_)
 refine W.go 99 rfl ?_
 refine W.eff rfl rfl rfl (Ef.call rfl (newClerk_t k p p.la p.lc k.ls xs _ hk1 hk1.l hl6 (fun l hl => (ok.ln l hl).1) hp)) ?_
 rintro _ _ _ ⟨_, rfl, rfl, bc, us, ua, uc, rfl, _, hle2, hc⟩
 refine W.go 99 rfl ?_
 refine W.ret r rfl rfl ?_
 exact ⟨bc, us, ua, uc, rfl, hle.trans hle2, hc⟩
structure WkOk (k : Bk) (xs : List (Nat × List Int)) : Prop where
 ok : BkOk k
 p : k.ls.map parseB = xs.map some
 v : ∀ x ∈ xs, (x.1 = 0 ∧ x.2.length = 3) ∨ x.1 = 4
 e : ∀ i, i < xs.length → ∃ n : Nat, n < 100 ∧ (ansP (deskAt ⟨k.b, k.ro, k.s⟩ xs i) (xs.getD i (0, []))).2 = n
theorem WkOk.l6 {k : Bk} {xs : List (Nat × List Int)} (h : WkOk k xs) : xs.length ≤ 6 := by
 have := congrArg List.length h.p
 rw [List.length_map, List.length_map] at this
 have := h.ok.l6
 omega
theorem CkAt.us {L : LH} {bc : Nat} {k : Bk} {p : Kp} {xs : List (Nat × List Int)} {us : List AP} {ua : Option Addr} {uc : Nat} (h : CkAt L bc k p xs us ua uc) (w : WkOk k xs) : us.length ≤ 6 ∧ us.length = xs.length ∧ ∀ u ∈ us, (u.v = 0 ∧ u.a.length = 3) ∨ u.v = 4 := by
 have hl : us.length = xs.length := by rw [← h.x, List.length_map]
 refine ⟨by have := w.l6; omega, hl, fun u hu => ?_⟩
 exact w.v u.x (by rw [← h.x]; exact List.mem_map_of_mem hu)
theorem Work_t (k : Bk) (p : Kp) (xs : List (Nat × List Int)) (L : LH) (hgl : GlOk L) (hk : BkAt L k p) (w : WkOk k xs) : Sp X 29 [bkA k p] L (fun v L' => ∃ aa ac, v = .tuple #[.slice aa xs.length ac, .int .i64 0] ∧ Grow L 1 9 encS L' (.slice aa xs.length ac) (workN ⟨k.b, k.ro, k.s⟩ xs xs.length)) := by
 refine Sp.enter (n := 22) Tryz.func29 rfl rfl rfl rfl fun C hX _ hL0 r => ?_
 refine W.go 99 rfl ?_
 refine W.eff rfl rfl rfl (Ef.call rfl (open_c k p xs _ hk w.ok w.p)) ?_
 rintro _ _ _ ⟨_, rfl, rfl, bc, us, ua, uc, rfl, hle, hc⟩
 obtain ⟨u6, hul, huv⟩ := hc.us w
 refine W.go 99 rfl ?_
 refine W.split rfl rfl rfl (fun c => absurd c (by decide)) (fun c => ?_)
 refine W.go 99 rfl ?_
 refine W.eff rfl rfl rfl (Ef.call rfl (work_t bc k p xs us ua uc _ (hgl.le hle) hc u6 huv w.e)) ?_
 rintro _ _ _ ⟨_, rfl, rfl, aa, ac, rfl, hg⟩
 refine W.go 99 rfl ?_
 refine W.ret r rfl rfl ?_
 exact ⟨aa, ac, rfl, hg.over (hle.trans hg.1) hle fun _ _ => rfl⟩
theorem behind_t (bc : Nat) (k : Bk) (p : Kp) (xs : List (Nat × List Int)) (us : List AP) (ua : Option Addr) (uc : Nat) (L : LH) (hgl : GlOk L) (hc : CkAt L bc k p xs us ua uc) (w : WkOk k xs) :
  Sp X 59 [pt bc] L (fun v L' => ∃ bf J fp n, v = .tuple #[deskV bf, .int .u8 n] ∧ Le L J ∧ DkAt J L' bf (deskAt ⟨k.b, k.ro, k.s⟩ xs xs.length) fp) := by
 obtain ⟨u6, hul, huv⟩ := hc.us w
 have hv' : ∀ u ∈ us, (u.v = 0 ∧ u.a.length = 3) ∨ u.v = 3 ∨ u.v = 4 ∨ u.v = 5 ∨ u.v = 6 := fun u hu => by
  rcases huv u hu with h | h
  ·exact .inl h
  ·exact .inr (.inr (.inl h))
 refine Sp.enter (n := 21) Tryz.func59 rfl rfl rfl rfl fun C hX _ hL0 r => ?_
 refine W.go 99 rfl ?_
 refine W.eff rfl rfl rfl (Ef.call rfl (work_t bc k p xs us ua uc _ hgl hc u6 huv w.e)) ?_
 rintro _ _ _ ⟨_, rfl, rfl, aa, ac, rfl, hg⟩
 rename_i L1
 have hc1 := hc.le hg.1
 refine W.go 99 rfl ?_
 refine W.vf rfl rfl rfl rfl (Vf.load rfl rfl rfl ((show _ = some (Value.slice ua us.length uc) from cell_of hc1.o rfl))) ?_
 refine W.go 99 rfl ?_
 refine W.eff rfl rfl rfl (Ef.call rfl (desk_t bc k p xs us ua uc us.length 0 _ hc1 u6 (Nat.le_refl _) (by decide) hv')) ?_
 rintro _ _ _ ⟨_, rfl, rfl, bf, J, fp, rfl, hLJ, hD⟩
 refine W.go 99 rfl ?_
 refine W.ret r rfl rfl ?_
 rw [hul] at hD
 exact ⟨bf, J, fp, _, rfl, hg.1.trans hLJ, hD⟩
end Go.Mz


namespace Go.Mz
open Go
end Go.Mz


set_option maxRecDepth 100000
namespace Go.Mz
open Go.Conc Go.Proofs
variable {X : Logic Tryz.prog}
theorem SlAt.nil {α : Type} {L : LH} {k : Nat} {enc : α → List Value} {l : List α} (h : SlAt L none k enc l) : l = [] := by
 cases l with
 | nil => rfl
 | cons x l => obtain ⟨a, h1⟩ := h.addr (i := 0) (by simp); cases h1
end Go.Mz


set_option maxRecDepth 100000
namespace Go.Mz
open Go.Conc
theorem flat_set_get {α : Type} {enc : α → List Value} {k : Nat} (hk : ∀ x, (enc x).length = k) : ∀ (l : List α) (d : Nat) (x : α) (i : Nat), d < l.length → ((l.set d x).flatMap enc)[i]? = if d * k ≤ i ∧ i < d * k + k then (enc x)[i - d * k]? else (l.flatMap enc)[i]?
 | [], _, _, _, h => absurd h (Nat.not_lt_zero _)
 | y :: l, 0, x, i, _ => by
  simp only [List.set_cons_zero, List.flatMap_cons, Nat.zero_mul, Nat.zero_add, Nat.zero_le, true_and, Nat.sub_zero]
  by_cases h : i < k
  ·rw [if_pos h, List.getElem?_append_left (by rw [hk]; exact h)]
  ·rw [if_neg h, List.getElem?_append_right (by rw [hk]; omega), List.getElem?_append_right (by rw [hk]; omega), hk, hk]
 | y :: l, d + 1, x, i, h => by
  simp only [List.set_cons_succ, List.flatMap_cons]
  have e : (d + 1) * k = d * k + k := Nat.succ_mul d k
  by_cases h2 : i < k
  ·rw [List.getElem?_append_left (by rw [hk]; exact h2), List.getElem?_append_left (by rw [hk]; exact h2), if_neg (by omega)]
  ·rw [List.getElem?_append_right (by rw [hk]; omega), List.getElem?_append_right (by rw [hk]; omega), hk, flat_set_get hk l d x (i - k) (by simpa using h)]
   by_cases h3 : d * k ≤ i - k ∧ i - k < d * k + k
   ·rw [if_pos h3, if_pos (by omega), e, show i - k - d * k = i - (d * k + k) by omega]
   ·rw [if_neg h3, if_neg (by omega)]
theorem putRow_flat {α : Type} {enc : α → List Value} {m : Nat} (hm : ∀ x, (enc x).length = m) {l : List α} {k : Nat} (hk : k < l.length) (x : α) : putRow (l.flatMap enc).toArray (k * m) (enc x) = ((l.set k x).flatMap enc).toArray := by
 refine Array.ext_getElem? fun j => ?_
 have hl := flat_len hm l
 rw [putRow_get, List.getElem?_toArray, List.getElem?_toArray, flat_set_get hm l k x j hk]
 have hle : k * m + m ≤ l.length * m := by rw [← Nat.succ_mul]; exact Nat.mul_le_mul_right _ hk
 by_cases h1 : j < k * m
 ·rw [if_pos h1, if_neg (by omega)]
 ·rw [if_neg h1]
  by_cases h2 : j < k * m + m
  ·rw [if_pos ⟨by omega, h2⟩, dif_pos ⟨by rw [hm]; omega, by rw [List.size_toArray, hl]; omega⟩]
   exact (List.getElem?_eq_getElem _).symm
  ·rw [if_neg (by omega), dif_neg (by rw [hm]; omega)]
theorem Grow.sl_but {α : Type} {L I : LH} {b k : Nat} {e : TypeId} {enc : α → List Value} {t : List α} {c : Array Value} {ty : TypeId} {fz : Nat × Nat} {wr : Bool} {a : Option Addr} {len cp : Nat} (h : Grow I k e enc L (.slice a len cp) t) (hk : ∀ x, (enc x).length = k) (hb : L b = some (.cells c ty fz, wr)) (hne : ty ≠ e) : len = t.length ∧ SlAt (L.but b) a k enc t := by
 obtain ⟨hI, ob, ho, hn⟩ := h
 refine Grow.at (I := fun _ => none) ⟨fun _ _ h => by (cases h), ob, ho.keep fun b' hb' => ?_, fun _ _ => rfl⟩ hk
 subst hb'
 obtain ⟨_, c', _, h2, _⟩ := ho
 exact but_get fun e => by subst e; rw [hb] at h2; cases h2; exact hne rfl
end Go.Mz


set_option maxRecDepth 100000
namespace Go.Mz
open Go.Conc Go.Proofs
variable {X : Logic Tryz.prog}
theorem Clone96_g (ad : Option Addr) (c : Nat) (l : List _) (L : LH) (h : SlAt L ad 2 encSp l) (hn : l.length ≤ 1000000) : Sp X 96 [.slice ad l.length c] L (fun v L' => Grow L 2 88 encSp L' v l) := by
 refine Sp.enter (n := 8) Tryz.func96 rfl rfl rfl rfl fun C hX _ hL0 r => ?_
 refine W.go 99 rfl ?_
 refine W.split rfl rfl rfl (fun d1 => W.go 99 rfl ?_) (fun d1 => W.go 99 rfl ?_)
 ·have e : ad = none := by cases ad with | none => rfl | some a => simp at d1
  subst e
  obtain rfl := h.nil
  refine W.ret r rfl rfl ?_
  exact Grow.nil (Le.refl _)
 refine W.pub 5 (.inr ⟨_, _, _, rfl⟩) rfl rfl ?_
 intro b hb _
 refine W.eff rfl rfl rfl (Ef.grow rfl rfl rfl rfl rfl rfl rfl rfl rfl encSp_len encSp_sg (Grow.new (Le.put hb _) (put_same _ _ _) hb) (ls := l) (.sl (h.le (Le.put hb _)) encSp_len rfl) (by simp; omega)) ?_
 rintro _ _ _ ⟨v', rfl, rfl, hg', _⟩
 refine W.go 99 rfl ?_
 refine W.ret r rfl rfl ?_
 exact hg'
theorem Clone97_g (ad : Option Addr) (c : Nat) (l : List _) (L : LH) (h : SlAt L ad 1 encI l) (hn : l.length ≤ 1000000) : Sp X 97 [.slice ad l.length c] L (fun v L' => Grow L 1 3 encI L' v l) := by
 refine Sp.enter (n := 8) Tryz.func97 rfl rfl rfl rfl fun C hX _ hL0 r => ?_
 refine W.go 99 rfl ?_
 refine W.split rfl rfl rfl (fun d1 => W.go 99 rfl ?_) (fun d1 => W.go 99 rfl ?_)
 ·have e : ad = none := by cases ad with | none => rfl | some a => simp at d1
  subst e
  obtain rfl := h.nil
  refine W.ret r rfl rfl ?_
  exact Grow.nil (Le.refl _)
 refine W.pub 5 (.inr ⟨_, _, _, rfl⟩) rfl rfl ?_
 intro b hb _
 refine W.eff rfl rfl rfl (Ef.grow rfl rfl rfl rfl rfl rfl rfl rfl rfl encI_len encI_sg (Grow.new (Le.put hb _) (put_same _ _ _) hb) (ls := l) (.sl (h.le (Le.put hb _)) encI_len rfl) (by simp; omega)) ?_
 rintro _ _ _ ⟨v', rfl, rfl, hg', _⟩
 refine W.go 99 rfl ?_
 refine W.ret r rfl rfl ?_
 exact hg'
theorem Clone98_g (ad : Option Addr) (c : Nat) (l : List _) (L : LH) (h : SlAt L ad 3 encPr l) (hn : l.length ≤ 1000000) : Sp X 98 [.slice ad l.length c] L (fun v L' => Grow L 3 35 encPr L' v l) := by
 refine Sp.enter (n := 8) Tryz.func98 rfl rfl rfl rfl fun C hX _ hL0 r => ?_
 refine W.go 99 rfl ?_
 refine W.split rfl rfl rfl (fun d1 => W.go 99 rfl ?_) (fun d1 => W.go 99 rfl ?_)
 ·have e : ad = none := by cases ad with | none => rfl | some a => simp at d1
  subst e
  obtain rfl := h.nil
  refine W.ret r rfl rfl ?_
  exact Grow.nil (Le.refl _)
 refine W.pub 5 (.inr ⟨_, _, _, rfl⟩) rfl rfl ?_
 intro b hb _
 refine W.eff rfl rfl rfl (Ef.grow rfl rfl rfl rfl rfl rfl rfl rfl rfl encPr_len encPr_sg (Grow.new (Le.put hb _) (put_same _ _ _) hb) (ls := l) (.sl (h.le (Le.put hb _)) encPr_len rfl) (by simp; omega)) ?_
 rintro _ _ _ ⟨v', rfl, rfl, hg', _⟩
 refine W.go 99 rfl ?_
 refine W.ret r rfl rfl ?_
 exact hg'
theorem Clone99_g (ad : Option Addr) (c : Nat) (l : List _) (L : LH) (h : SlAt L ad 4 encGa l) (hn : l.length ≤ 1000000) : Sp X 99 [.slice ad l.length c] L (fun v L' => Grow L 4 90 encGa L' v l) := by
 refine Sp.enter (n := 8) Tryz.func99 rfl rfl rfl rfl fun C hX _ hL0 r => ?_
 refine W.go 99 rfl ?_
 refine W.split rfl rfl rfl (fun d1 => W.go 99 rfl ?_) (fun d1 => W.go 99 rfl ?_)
 ·have e : ad = none := by cases ad with | none => rfl | some a => simp at d1
  subst e
  obtain rfl := h.nil
  refine W.ret r rfl rfl ?_
  exact Grow.nil (Le.refl _)
 refine W.pub 5 (.inr ⟨_, _, _, rfl⟩) rfl rfl ?_
 intro b hb _
 refine W.eff rfl rfl rfl (Ef.grow rfl rfl rfl rfl rfl rfl rfl rfl rfl encGa_len encGa_sg (Grow.new (Le.put hb _) (put_same _ _ _) hb) (ls := l) (.sl (h.le (Le.put hb _)) encGa_len rfl) (by simp; omega)) ?_
 rintro _ _ _ ⟨v', rfl, rfl, hg', _⟩
 refine W.go 99 rfl ?_
 refine W.ret r rfl rfl ?_
 exact hg'
theorem Clone100_g (ad : Option Addr) (c : Nat) (l : List _) (L : LH) (h : SlAt L ad 4 encSg l) (hn : l.length ≤ 1000000) : Sp X 100 [.slice ad l.length c] L (fun v L' => Grow L 4 126 encSg L' v l) := by
 refine Sp.enter (n := 8) Tryz.func100 rfl rfl rfl rfl fun C hX _ hL0 r => ?_
 refine W.go 99 rfl ?_
 refine W.split rfl rfl rfl (fun d1 => W.go 99 rfl ?_) (fun d1 => W.go 99 rfl ?_)
 ·have e : ad = none := by cases ad with | none => rfl | some a => simp at d1
  subst e
  obtain rfl := h.nil
  refine W.ret r rfl rfl ?_
  exact Grow.nil (Le.refl _)
 refine W.pub 5 (.inr ⟨_, _, _, rfl⟩) rfl rfl ?_
 intro b hb _
 refine W.eff rfl rfl rfl (Ef.grow rfl rfl rfl rfl rfl rfl rfl rfl rfl encSg_len encSg_sg (Grow.new (Le.put hb _) (put_same _ _ _) hb) (ls := l) (.sl (h.le (Le.put hb _)) encSg_len rfl) (by simp; omega)) ?_
 rintro _ _ _ ⟨v', rfl, rfl, hg', _⟩
 refine W.go 99 rfl ?_
 refine W.ret r rfl rfl ?_
 exact hg'
theorem Clone101_g (ad : Option Addr) (c : Nat) (l : List _) (L : LH) (h : SlAt L ad 4 encWt l) (hn : l.length ≤ 1000000) : Sp X 101 [.slice ad l.length c] L (fun v L' => Grow L 4 68 encWt L' v l) := by
 refine Sp.enter (n := 8) Tryz.func101 rfl rfl rfl rfl fun C hX _ hL0 r => ?_
 refine W.go 99 rfl ?_
 refine W.split rfl rfl rfl (fun d1 => W.go 99 rfl ?_) (fun d1 => W.go 99 rfl ?_)
 ·have e : ad = none := by cases ad with | none => rfl | some a => simp at d1
  subst e
  obtain rfl := h.nil
  refine W.ret r rfl rfl ?_
  exact Grow.nil (Le.refl _)
 refine W.pub 5 (.inr ⟨_, _, _, rfl⟩) rfl rfl ?_
 intro b hb _
 refine W.eff rfl rfl rfl (Ef.grow rfl rfl rfl rfl rfl rfl rfl rfl rfl encWt_len encWt_sg (Grow.new (Le.put hb _) (put_same _ _ _) hb) (ls := l) (.sl (h.le (Le.put hb _)) encWt_len rfl) (by simp; omega)) ?_
 rintro _ _ _ ⟨v', rfl, rfl, hg', _⟩
 refine W.go 99 rfl ?_
 refine W.ret r rfl rfl ?_
 exact hg'
theorem Clone96_t (ad : Option Addr) (c : Nat) (l : List _) (L : LH) (h : SlAt L ad 2 encSp l) (hn : l.length ≤ 1000000) : Sp X 96 [.slice ad l.length c] L (NewSl L 2 encSp l) := (Clone96_g ad c l L h hn).mono (fun _ _ h => h.new_sl encSp_len) fun _ _ h => h
theorem Clone97_t (ad : Option Addr) (c : Nat) (l : List _) (L : LH) (h : SlAt L ad 1 encI l) (hn : l.length ≤ 1000000) : Sp X 97 [.slice ad l.length c] L (NewSl L 1 encI l) := (Clone97_g ad c l L h hn).mono (fun _ _ h => h.new_sl encI_len) fun _ _ h => h
theorem Clone98_t (ad : Option Addr) (c : Nat) (l : List _) (L : LH) (h : SlAt L ad 3 encPr l) (hn : l.length ≤ 1000000) : Sp X 98 [.slice ad l.length c] L (NewSl L 3 encPr l) := (Clone98_g ad c l L h hn).mono (fun _ _ h => h.new_sl encPr_len) fun _ _ h => h
theorem Clone99_t (ad : Option Addr) (c : Nat) (l : List _) (L : LH) (h : SlAt L ad 4 encGa l) (hn : l.length ≤ 1000000) : Sp X 99 [.slice ad l.length c] L (NewSl L 4 encGa l) := (Clone99_g ad c l L h hn).mono (fun _ _ h => h.new_sl encGa_len) fun _ _ h => h
theorem Clone100_t (ad : Option Addr) (c : Nat) (l : List _) (L : LH) (h : SlAt L ad 4 encSg l) (hn : l.length ≤ 1000000) : Sp X 100 [.slice ad l.length c] L (NewSl L 4 encSg l) := (Clone100_g ad c l L h hn).mono (fun _ _ h => h.new_sl encSg_len) fun _ _ h => h
theorem Clone101_t (ad : Option Addr) (c : Nat) (l : List _) (L : LH) (h : SlAt L ad 4 encWt l) (hn : l.length ≤ 1000000) : Sp X 101 [.slice ad l.length c] L (NewSl L 4 encWt l) := (Clone101_g ad c l L h hn).mono (fun _ _ h => h.new_sl encWt_len) fun _ _ h => h
end Go.Mz


set_option maxRecDepth 100000
namespace Go.Mz
open Go.Conc Go.Proofs
variable {X : Logic Tryz.prog}
structure FiAt (L : LH) (f : Fi) (p : Fp) : Prop where
 b : BlAt L f.b p.b
 r : RoAt L f.ro p.r
 s : SwAt L f.s p.s
theorem FiAt.le {L L' : LH} {f : Fi} {p : Fp} (h : FiAt L f p) (hl : Le L L') : FiAt L' f p := ⟨h.b.le hl, h.r.le hl, h.s.le hl⟩
theorem putRow_whole {c : Array Value} {vs : List Value} (h : c.size = vs.length) : putRow c 0 vs = vs.toArray := by
 refine Array.ext_getElem? fun j => ?_
 have e : (vs.toArray)[j]? = vs[j]? := List.getElem?_toArray
 rw [putRow_get, if_neg (by omega), Nat.sub_zero, e]
 by_cases hj : j < vs.length
 ·rw [dif_pos ⟨hj, by omega⟩]
  exact (List.getElem?_eq_getElem hj).symm
 ·rw [dif_neg (fun h => hj h.1), Array.getElem?_eq_none (by omega), List.getElem?_eq_none (by omega)]
theorem rw_sg {α : Type} (rs : List (Rw α)) : ∀ u ∈ rs.flatMap encRw, single u = true := fun u hu => by
 obtain ⟨x, _, hx⟩ := List.mem_flatMap.1 hu
 rw [List.mem_singleton.1 hx]; rfl
theorem apart_t (f : Fi) (p : Fp) (L : LH) (h : FiAt L f p) (n1 : f.s.loaves.length ≤ 1000) (n2 : ∀ x ∈ f.s.loaves, x.length ≤ 1000) (n3 : f.s.stock.length ≤ 1000) (n4 : f.s.wants.length ≤ 1000) : Sp X 60 [.agg (fiL f p).toArray] L (fun v L' => ∃ p', v = .agg (fiL f p').toArray ∧ Le L L' ∧ FiAt L' f p') := by
 have nb := h.b
 have nr := h.r
 refine Sp.enter (n := 105) Tryz.func60 rfl rfl rfl rfl fun C hX _ hL0 r => ?_
 refine W.go 4 rfl ?_
 refine W.go 99 rfl ?_
 refine W.eff rfl rfl rfl (Ef.call rfl (Clone96_t p.b.a0 p.b.c0 f.b.starts _ h.b.h0 nb.n0)) ?_
 rintro _ _ _ ⟨_, rfl, rfl, ad0, cp0, rfl, hl0, hs0, hc0⟩
 have hle1 := hl0
 refine W.goP [12] 99 rfl ?_
 refine W.weak (E' := [(1, .p 0 0), (2, .p 1 0)]) (B' := [some ⟨[.v (.slice ad0 f.b.starts.length cp0), .v (.slice p.b.a1 f.b.rates.length p.b.c1), .v (.slice p.b.a2 f.b.marks.length p.b.c2), .v (.slice p.b.a3 f.b.heats.length p.b.c3), .v (.slice p.b.a4 f.b.proofs.length p.b.c4), .v (.slice p.r.a0 f.ro.glasses.length p.r.c0), .v (.slice p.r.a1 f.ro.steps.length p.r.c1), .v (.slice p.r.a2 f.ro.duties.length p.r.c2), .v (.slice p.r.a3 f.ro.samples.length p.r.c3), .v (.slice p.r.a4 f.ro.sights.length p.r.c4), .v (.slice p.s.la f.s.loaves.length p.s.lc), .v (.slice p.s.sa f.s.stock.length p.s.sc), .v (.int .i64 f.s.kerf), .v (.slice p.s.wa f.s.wants.length p.s.wc)], 123⟩, some ⟨ti123.z.cells.toList.map .v, 123⟩]) (by exact ⟨rfl, rfl, trivial⟩) (by exact ⟨rfl, rfl, trivial⟩) ?_
 refine W.go 99 rfl ?_
 refine W.eff rfl rfl rfl (Ef.call rfl (Clone97_t p.b.a1 p.b.c1 f.b.rates _ (h.b.h1.le hle1) nb.n1)) ?_
 rintro _ _ _ ⟨_, rfl, rfl, ad1, cp1, rfl, hl1, hs1, hc1⟩
 have hle2 := hle1.trans hl1
 refine W.goP [18] 99 rfl ?_
 refine W.weak (E' := [(1, .p 0 0), (2, .p 1 0)]) (B' := [some ⟨[.v (.slice ad0 f.b.starts.length cp0), .v (.slice ad1 f.b.rates.length cp1), .v (.slice p.b.a2 f.b.marks.length p.b.c2), .v (.slice p.b.a3 f.b.heats.length p.b.c3), .v (.slice p.b.a4 f.b.proofs.length p.b.c4), .v (.slice p.r.a0 f.ro.glasses.length p.r.c0), .v (.slice p.r.a1 f.ro.steps.length p.r.c1), .v (.slice p.r.a2 f.ro.duties.length p.r.c2), .v (.slice p.r.a3 f.ro.samples.length p.r.c3), .v (.slice p.r.a4 f.ro.sights.length p.r.c4), .v (.slice p.s.la f.s.loaves.length p.s.lc), .v (.slice p.s.sa f.s.stock.length p.s.sc), .v (.int .i64 f.s.kerf), .v (.slice p.s.wa f.s.wants.length p.s.wc)], 123⟩, some ⟨ti123.z.cells.toList.map .v, 123⟩]) (by exact ⟨rfl, rfl, trivial⟩) (by exact ⟨rfl, rfl, trivial⟩) ?_
 refine W.go 99 rfl ?_
 refine W.eff rfl rfl rfl (Ef.call rfl (Clone97_t p.b.a2 p.b.c2 f.b.marks _ (h.b.h2.le hle2) nb.n2)) ?_
 rintro _ _ _ ⟨_, rfl, rfl, ad2, cp2, rfl, hl2, hs2, hc2⟩
 have hle3 := hle2.trans hl2
 refine W.goP [24] 99 rfl ?_
 refine W.weak (E' := [(1, .p 0 0), (2, .p 1 0)]) (B' := [some ⟨[.v (.slice ad0 f.b.starts.length cp0), .v (.slice ad1 f.b.rates.length cp1), .v (.slice ad2 f.b.marks.length cp2), .v (.slice p.b.a3 f.b.heats.length p.b.c3), .v (.slice p.b.a4 f.b.proofs.length p.b.c4), .v (.slice p.r.a0 f.ro.glasses.length p.r.c0), .v (.slice p.r.a1 f.ro.steps.length p.r.c1), .v (.slice p.r.a2 f.ro.duties.length p.r.c2), .v (.slice p.r.a3 f.ro.samples.length p.r.c3), .v (.slice p.r.a4 f.ro.sights.length p.r.c4), .v (.slice p.s.la f.s.loaves.length p.s.lc), .v (.slice p.s.sa f.s.stock.length p.s.sc), .v (.int .i64 f.s.kerf), .v (.slice p.s.wa f.s.wants.length p.s.wc)], 123⟩, some ⟨ti123.z.cells.toList.map .v, 123⟩]) (by exact ⟨rfl, rfl, trivial⟩) (by exact ⟨rfl, rfl, trivial⟩) ?_
 refine W.go 99 rfl ?_
 refine W.eff rfl rfl rfl (Ef.call rfl (Clone96_t p.b.a3 p.b.c3 f.b.heats _ (h.b.h3.le hle3) nb.n3)) ?_
 rintro _ _ _ ⟨_, rfl, rfl, ad3, cp3, rfl, hl3, hs3, hc3⟩
 have hle4 := hle3.trans hl3
 refine W.goP [30] 99 rfl ?_
 refine W.weak (E' := [(1, .p 0 0), (2, .p 1 0)]) (B' := [some ⟨[.v (.slice ad0 f.b.starts.length cp0), .v (.slice ad1 f.b.rates.length cp1), .v (.slice ad2 f.b.marks.length cp2), .v (.slice ad3 f.b.heats.length cp3), .v (.slice p.b.a4 f.b.proofs.length p.b.c4), .v (.slice p.r.a0 f.ro.glasses.length p.r.c0), .v (.slice p.r.a1 f.ro.steps.length p.r.c1), .v (.slice p.r.a2 f.ro.duties.length p.r.c2), .v (.slice p.r.a3 f.ro.samples.length p.r.c3), .v (.slice p.r.a4 f.ro.sights.length p.r.c4), .v (.slice p.s.la f.s.loaves.length p.s.lc), .v (.slice p.s.sa f.s.stock.length p.s.sc), .v (.int .i64 f.s.kerf), .v (.slice p.s.wa f.s.wants.length p.s.wc)], 123⟩, some ⟨ti123.z.cells.toList.map .v, 123⟩]) (by exact ⟨rfl, rfl, trivial⟩) (by exact ⟨rfl, rfl, trivial⟩) ?_
 refine W.go 99 rfl ?_
 refine W.eff rfl rfl rfl (Ef.call rfl (Clone98_t p.b.a4 p.b.c4 f.b.proofs _ (h.b.h4.le hle4) nb.n4)) ?_
 rintro _ _ _ ⟨_, rfl, rfl, ad4, cp4, rfl, hl4, hs4, hc4⟩
 have hle5 := hle4.trans hl4
 refine W.goP [36] 99 rfl ?_
 refine W.weak (E' := [(1, .p 0 0), (2, .p 1 0)]) (B' := [some ⟨[.v (.slice ad0 f.b.starts.length cp0), .v (.slice ad1 f.b.rates.length cp1), .v (.slice ad2 f.b.marks.length cp2), .v (.slice ad3 f.b.heats.length cp3), .v (.slice ad4 f.b.proofs.length cp4), .v (.slice p.r.a0 f.ro.glasses.length p.r.c0), .v (.slice p.r.a1 f.ro.steps.length p.r.c1), .v (.slice p.r.a2 f.ro.duties.length p.r.c2), .v (.slice p.r.a3 f.ro.samples.length p.r.c3), .v (.slice p.r.a4 f.ro.sights.length p.r.c4), .v (.slice p.s.la f.s.loaves.length p.s.lc), .v (.slice p.s.sa f.s.stock.length p.s.sc), .v (.int .i64 f.s.kerf), .v (.slice p.s.wa f.s.wants.length p.s.wc)], 123⟩, some ⟨ti123.z.cells.toList.map .v, 123⟩]) (by exact ⟨rfl, rfl, trivial⟩) (by exact ⟨rfl, rfl, trivial⟩) ?_
 refine W.go 99 rfl ?_
 refine W.eff rfl rfl rfl (Ef.call rfl (Clone99_t p.r.a0 p.r.c0 f.ro.glasses _ (h.r.h0.le hle5) nr.n0)) ?_
 rintro _ _ _ ⟨_, rfl, rfl, ad5, cp5, rfl, hl5, hs5, hc5⟩
 have hle6 := hle5.trans hl5
 refine W.goP [42] 99 rfl ?_
 refine W.weak (E' := [(1, .p 0 0), (2, .p 1 0)]) (B' := [some ⟨[.v (.slice ad0 f.b.starts.length cp0), .v (.slice ad1 f.b.rates.length cp1), .v (.slice ad2 f.b.marks.length cp2), .v (.slice ad3 f.b.heats.length cp3), .v (.slice ad4 f.b.proofs.length cp4), .v (.slice ad5 f.ro.glasses.length cp5), .v (.slice p.r.a1 f.ro.steps.length p.r.c1), .v (.slice p.r.a2 f.ro.duties.length p.r.c2), .v (.slice p.r.a3 f.ro.samples.length p.r.c3), .v (.slice p.r.a4 f.ro.sights.length p.r.c4), .v (.slice p.s.la f.s.loaves.length p.s.lc), .v (.slice p.s.sa f.s.stock.length p.s.sc), .v (.int .i64 f.s.kerf), .v (.slice p.s.wa f.s.wants.length p.s.wc)], 123⟩, some ⟨ti123.z.cells.toList.map .v, 123⟩]) (by exact ⟨rfl, rfl, trivial⟩) (by exact ⟨rfl, rfl, trivial⟩) ?_
 refine W.go 99 rfl ?_
 refine W.eff rfl rfl rfl (Ef.call rfl (Clone97_t p.r.a1 p.r.c1 f.ro.steps _ (h.r.h1.le hle6) nr.n1)) ?_
 rintro _ _ _ ⟨_, rfl, rfl, ad6, cp6, rfl, hl6, hs6, hc6⟩
 have hle7 := hle6.trans hl6
 refine W.goP [48] 99 rfl ?_
 refine W.weak (E' := [(1, .p 0 0), (2, .p 1 0)]) (B' := [some ⟨[.v (.slice ad0 f.b.starts.length cp0), .v (.slice ad1 f.b.rates.length cp1), .v (.slice ad2 f.b.marks.length cp2), .v (.slice ad3 f.b.heats.length cp3), .v (.slice ad4 f.b.proofs.length cp4), .v (.slice ad5 f.ro.glasses.length cp5), .v (.slice ad6 f.ro.steps.length cp6), .v (.slice p.r.a2 f.ro.duties.length p.r.c2), .v (.slice p.r.a3 f.ro.samples.length p.r.c3), .v (.slice p.r.a4 f.ro.sights.length p.r.c4), .v (.slice p.s.la f.s.loaves.length p.s.lc), .v (.slice p.s.sa f.s.stock.length p.s.sc), .v (.int .i64 f.s.kerf), .v (.slice p.s.wa f.s.wants.length p.s.wc)], 123⟩, some ⟨ti123.z.cells.toList.map .v, 123⟩]) (by exact ⟨rfl, rfl, trivial⟩) (by exact ⟨rfl, rfl, trivial⟩) ?_
 refine W.go 99 rfl ?_
 refine W.eff rfl rfl rfl (Ef.call rfl (Clone97_t p.r.a2 p.r.c2 f.ro.duties _ (h.r.h2.le hle7) nr.n2)) ?_
 rintro _ _ _ ⟨_, rfl, rfl, ad7, cp7, rfl, hl7, hs7, hc7⟩
 have hle8 := hle7.trans hl7
 refine W.goP [54] 99 rfl ?_
 refine W.weak (E' := [(1, .p 0 0), (2, .p 1 0)]) (B' := [some ⟨[.v (.slice ad0 f.b.starts.length cp0), .v (.slice ad1 f.b.rates.length cp1), .v (.slice ad2 f.b.marks.length cp2), .v (.slice ad3 f.b.heats.length cp3), .v (.slice ad4 f.b.proofs.length cp4), .v (.slice ad5 f.ro.glasses.length cp5), .v (.slice ad6 f.ro.steps.length cp6), .v (.slice ad7 f.ro.duties.length cp7), .v (.slice p.r.a3 f.ro.samples.length p.r.c3), .v (.slice p.r.a4 f.ro.sights.length p.r.c4), .v (.slice p.s.la f.s.loaves.length p.s.lc), .v (.slice p.s.sa f.s.stock.length p.s.sc), .v (.int .i64 f.s.kerf), .v (.slice p.s.wa f.s.wants.length p.s.wc)], 123⟩, some ⟨ti123.z.cells.toList.map .v, 123⟩]) (by exact ⟨rfl, rfl, trivial⟩) (by exact ⟨rfl, rfl, trivial⟩) ?_
 refine W.go 99 rfl ?_
 refine W.eff rfl rfl rfl (Ef.call rfl (Clone96_t p.r.a3 p.r.c3 f.ro.samples _ (h.r.h3.le hle8) nr.n3)) ?_
 rintro _ _ _ ⟨_, rfl, rfl, ad8, cp8, rfl, hl8, hs8, hc8⟩
 have hle9 := hle8.trans hl8
 refine W.goP [60] 99 rfl ?_
 refine W.weak (E' := [(1, .p 0 0), (2, .p 1 0)]) (B' := [some ⟨[.v (.slice ad0 f.b.starts.length cp0), .v (.slice ad1 f.b.rates.length cp1), .v (.slice ad2 f.b.marks.length cp2), .v (.slice ad3 f.b.heats.length cp3), .v (.slice ad4 f.b.proofs.length cp4), .v (.slice ad5 f.ro.glasses.length cp5), .v (.slice ad6 f.ro.steps.length cp6), .v (.slice ad7 f.ro.duties.length cp7), .v (.slice ad8 f.ro.samples.length cp8), .v (.slice p.r.a4 f.ro.sights.length p.r.c4), .v (.slice p.s.la f.s.loaves.length p.s.lc), .v (.slice p.s.sa f.s.stock.length p.s.sc), .v (.int .i64 f.s.kerf), .v (.slice p.s.wa f.s.wants.length p.s.wc)], 123⟩, some ⟨ti123.z.cells.toList.map .v, 123⟩]) (by exact ⟨rfl, rfl, trivial⟩) (by exact ⟨rfl, rfl, trivial⟩) ?_
 refine W.go 99 rfl ?_
 refine W.eff rfl rfl rfl (Ef.call rfl (Clone100_t p.r.a4 p.r.c4 f.ro.sights _ (h.r.h4.le hle9) nr.n4)) ?_
 rintro _ _ _ ⟨_, rfl, rfl, ad9, cp9, rfl, hl9, hs9, hc9⟩
 have hle10 := hle9.trans hl9
 refine W.goP [66] 99 rfl ?_
 refine W.weak (E' := [(1, .p 0 0), (2, .p 1 0)]) (B' := [some ⟨[.v (.slice ad0 f.b.starts.length cp0), .v (.slice ad1 f.b.rates.length cp1), .v (.slice ad2 f.b.marks.length cp2), .v (.slice ad3 f.b.heats.length cp3), .v (.slice ad4 f.b.proofs.length cp4), .v (.slice ad5 f.ro.glasses.length cp5), .v (.slice ad6 f.ro.steps.length cp6), .v (.slice ad7 f.ro.duties.length cp7), .v (.slice ad8 f.ro.samples.length cp8), .v (.slice ad9 f.ro.sights.length cp9), .v (.slice p.s.la f.s.loaves.length p.s.lc), .v (.slice p.s.sa f.s.stock.length p.s.sc), .v (.int .i64 f.s.kerf), .v (.slice p.s.wa f.s.wants.length p.s.wc)], 123⟩, some ⟨ti123.z.cells.toList.map .v, 123⟩]) (by exact ⟨rfl, rfl, trivial⟩) (by exact ⟨rfl, rfl, trivial⟩) ?_
 rename_i L10
 have m9 := Le.refl L10
 have m8 := hl9.trans m9
 have m7 := hl8.trans m8
 have m6 := hl7.trans m7
 have m5 := hl6.trans m6
 have m4 := hl5.trans m5
 have m3 := hl4.trans m4
 have m2 := hl3.trans m3
 have m1 := hl2.trans m2
 have m0 := hl1.trans m1
 have hB : BlAt L10 f.b ⟨ad0, ad1, ad2, ad3, ad4, cp0, cp1, cp2, cp3, cp4⟩ := ⟨hs0.le m0, hs1.le m1, hs2.le m2, hs3.le m3, hs4.le m4, nb.n0, nb.n1, nb.n2, nb.n3, nb.n4, hc4⟩
 have hR : RoAt L10 f.ro ⟨ad5, ad6, ad7, ad8, ad9, cp5, cp6, cp7, cp8, cp9⟩ := ⟨hs5.le m5, hs6.le m6, hs7.le m7, hs8.le m8, hs9.le m9, nr.n0, nr.n1, nr.n2, nr.n3, nr.n4, hc9⟩
 have hS := h.s.le hle10
 clear hs0 hs1 hs2 hs3 hs4 hs5 hs6 hs7 hs8 hs9 hl0 hl1 hl2 hl3 hl4 hl5 hl6 hl7 hl8 hl9 m0 m1 m2 m3 m4 m5 m6 m7 m8 m9 hle1 hle2 hle3 hle4 hle5 hle6 hle7 hle8 hle9 hc0 hc1 hc2 hc3 hc4 hc5 hc6 hc7 hc8 hc9 nb nr
 obtain ⟨rs, hrm, hrs, hrk⟩ := hS.lo
 have hrl : rs.length = f.s.loaves.length := by rw [← hrm, List.length_map]
 have hr9 : rs.length ≤ 1000 := by omega
 rw [← hrl]
 refine W.go 99 rfl ?_
 refine W.eff rfl rfl rfl (Ef.makeSlice rfl (by omega) Tryz.underlying49 size22 bytes22 zero22 (by decide) rfl) ?_
 rintro _ _ _ ⟨bn, rfl, rfl, hbn, rfl⟩
 refine W.go 99 rfl ?_
 have hLp := Le.put hbn (.cells (Array.replicate rs.length (.slice none 0 0)) 22)
 have h0 := put_same L10 bn (.cells (Array.replicate rs.length (.slice none 0 0)) 22)
 have hfl : (rs.flatMap encRw).length = rs.length := by rw [flat_len encRw_len, Nat.mul_one]
 refine W.eff rfl rfl rfl (Ef.copy rfl rfl rfl rfl (.sl (hrs.le hLp) encRw_len rfl) (by omega) h0 (by rw [Array.size_replicate, hfl]; exact Nat.le_refl _) (rw_sg rs)) ?_
 rintro _ _ _ ⟨rfl, rfl, rfl⟩
 refine W.go 99 rfl ?_
 rw [putRow_whole (by rw [Array.size_replicate, hfl])]
 have hL11 : Le L10 ((L10.put bn (.cells (Array.replicate rs.length (.slice none 0 0)) 22)).put bn (.cells (rs.flatMap encRw).toArray 22)) := le_put_none hLp hbn _
 have hb0 := put_same (L10.put bn (.cells (Array.replicate rs.length (.slice none 0 0)) 22)) bn (.cells (rs.flatMap encRw).toArray 22)
 generalize (L10.put bn (.cells (Array.replicate rs.length (.slice none 0 0)) 22)).put bn (.cells (rs.flatMap encRw).toArray 22) = L11 at hL11 hb0 ⊢
 refine W.loop (fun m E B L' => ∃ (i : Nat) (ns : List (Rw Int)), m = rs.length - i ∧ i ≤ rs.length ∧ ns.map Prod.snd = (rs.map Prod.snd).take i ∧ Le L10 L' ∧ L' bn = some (.cells ((ns ++ rs.drop i).flatMap encRw).toArray 22 (0, 0), true) ∧ (∀ x ∈ ns, RwOk (L'.but bn) 1 encI x) ∧
   E = [(1, .p 0 0), (2, .p 1 0), (3, .v (.slice (some ⟨bn, 0, none⟩) rs.length rs.length)), (76, .v (.slice (some ⟨bn, 0, none⟩) rs.length rs.length)), (77, .v (.int .i64 rs.length)), (78, .v (.int .i64 i))] ∧ B = [some ⟨[.v (.slice ad0 f.b.starts.length cp0), .v (.slice ad1 f.b.rates.length cp1), .v (.slice ad2 f.b.marks.length cp2), .v (.slice ad3 f.b.heats.length cp3), .v (.slice ad4 f.b.proofs.length cp4), .v (.slice ad5 f.ro.glasses.length cp5), .v (.slice ad6 f.ro.steps.length cp6), .v (.slice ad7 f.ro.duties.length cp7), .v (.slice ad8 f.ro.samples.length cp8), .v (.slice ad9 f.ro.sights.length cp9), .v (.slice p.s.la rs.length p.s.lc), .v (.slice p.s.sa f.s.stock.length p.s.sc), .v (.int .i64 f.s.kerf), .v (.slice p.s.wa f.s.wants.length p.s.wc)], 123⟩, some ⟨ti123.z.cells.toList.map .v, 123⟩])
  ⟨0, [], rfl, by omega, rfl, hL11, hb0, (fun x hx => by cases hx), rfl, rfl⟩ (by exact ⟨rfl, rfl, rfl, rfl, rfl, rfl, trivial⟩) (by exact ⟨rfl, rfl, trivial⟩) ?_
 rintro _ _ _ L1 ⟨i, ns, rfl, hi, hns, hle, hb, hnk, rfl, rfl⟩ again
 have hnl : ns.length = i := by have := congrArg List.length hns; simpa [hi] using this
 refine W.go 99 rfl ?_
 refine W.split rfl rfl rfl (fun e1 => W.go 99 rfl ?_) (fun e1 => W.go 99 rfl ?_)
 ·have hil : i < rs.length := by have := of_decide_eq_true e1; omega
  have hx := List.getElem?_eq_getElem hil
  have hmem := List.getElem_mem hil
  have hd := List.drop_eq_getElem_cons hil
  have htk : (rs.map Prod.snd).take (i + 1) = (rs.map Prod.snd).take i ++ [rs[i].2] := by
   have := List.take_succ_eq_append_getElem (l := rs.map Prod.snd) (i := i) (by rw [List.length_map]; exact hil)
   rw [this, List.getElem_map]
  generalize rs[i] = x at hx hmem hd htk
  obtain ⟨⟨xa, xl, xc⟩, x⟩ := x
  obtain ⟨hxs, hxl, hxc⟩ := hrk _ hmem
  simp only at hxs hxl hxc
  subst hxl
  have hx9 : x.length ≤ 1000 := n2 x (by rw [← hrm]; exact List.mem_map_of_mem hmem)
  have hcl : L1.cell? (Addr.add ⟨bn, 0, none⟩ i) = some (.slice xa x.length xc) := by
   have := (sl_block encRw_len hb).get (i := i) (x := ((xa, x.length, xc), x)) (by rw [List.getElem?_append_right (by omega), hnl, Nat.sub_self, hd]; rfl) (j := 0) (v := .slice xa x.length xc) rfl
   simpa using this
  refine W.vf rfl rfl rfl rfl (Vf.idx1 rfl rfl rfl rfl rfl rfl rfl (hil)) ?_
  refine W.go 99 rfl ?_
  refine W.vf rfl rfl rfl rfl (Vf.load rfl rfl rfl (hcl)) ?_
  refine W.go 99 rfl ?_
  refine W.eff rfl rfl rfl (Ef.call rfl (Clone97_g xa xc x _ (hxs.le hle) (by omega))) ?_
  rintro _ _ _ ⟨v1, rfl, rfl, hg⟩
  rename_i L2
  obtain ⟨da, dc, rfl, hdc⟩ := hg.slice
  have hb2 := hg.1 _ _ hb
  have hsl := (hg.sl_but encI_len hb2 (by decide)).2
  refine W.go 99 rfl ?_
  refine W.vf rfl rfl rfl rfl (Vf.idx1 rfl rfl rfl rfl rfl rfl rfl (hil)) ?_
  refine W.go 99 rfl ?_
  have hsz : ((ns ++ rs.drop i).flatMap encRw).length = rs.length := by rw [flat_len encRw_len, List.length_append, List.length_drop, hnl]; omega
  refine W.eff0 rfl rfl (Ef.stoF (b := bn) (off := i * 1) (congrArg (fun a => some (SV.v (.pointer (some a)))) (show Addr.add ⟨bn, 0, none⟩ i = ⟨bn, i * 1, none⟩ by rw [add_of]; simp)) ⟨_, rfl, rfl⟩ rfl hb2 rfl (by rw [List.size_toArray, hsz]; show i * 1 + 1 ≤ _; omega) (singles rfl)) ?_
  rintro _ _ _ ⟨rfl, rfl, rfl⟩
  refine W.go 99 rfl ?_
  have hput : putRow ((ns ++ rs.drop i).flatMap encRw).toArray (i * 1) [.slice da x.length dc] = (((ns ++ [((da, x.length, dc), x)]) ++ rs.drop (i + 1)).flatMap encRw).toArray := by
   rw [show [Value.slice da x.length dc] = encRw ((da, x.length, dc), x) from rfl, putRow_flat encRw_len (by rw [List.length_append, List.length_drop, hnl]; omega)]
   rw [hd, List.set_append_right _ _ (by omega), hnl, Nat.sub_self, List.set_cons_zero, List.append_assoc]
   rfl
  refine W.again (again _ _ _ _ (by omega) ⟨i + 1, ns ++ [((da, x.length, dc), x)], rfl, by omega, ?_, ?_, (congrArg (fun c => some (Obj.cells c 22 (0, 0), true)) hput) ▸ put_same _ _ _, ?_, rfl, rfl⟩) (by exact ⟨rfl, rfl, rfl, rfl, rfl, congrArg some (inc64 (by omega)), trivial⟩) (by exact ⟨rfl, rfl, trivial⟩)
  ·rw [List.map_append, hns, htk]; rfl
  ·exact fun b z hz => by
    have hne : b ≠ bn := fun e => by subst e; rw [hbn] at hz; cases hz
    rw [put_ne _ _ hne]; exact hg.1 _ _ (hle _ _ hz)
  ·have hbb : ∀ o, Le (L2.but bn) ((L2.put bn o).but bn) := fun o b z hz => by
    have hne : b ≠ bn := fun e => by subst e; unfold LH.but at hz; rw [if_pos rfl] at hz; cases hz
    rw [but_get hne] at hz ⊢
    rw [put_ne _ _ hne]; exact hz
   intro y hy
   rcases List.mem_append.1 hy with hy | hy
   ·exact ((hnk y hy).le (but_but ((but_le _ _).trans hg.1))).le (hbb _)
   ·rw [List.mem_singleton.1 hy]
    exact ⟨hsl.le (hbb _), rfl, hdc⟩
 ·have hie : i = rs.length := by have := of_decide_eq_false e1; omega
  subst hie
  clear again
  rw [List.drop_length, List.append_nil] at hb
  rw [List.take_of_length_le (by rw [List.length_map]; exact Nat.le_refl _), hrm] at hns
  have hnl2 : ns.length = f.s.loaves.length := by rw [← hns, List.length_map]
  have hrows : RowsAt L1 (some ⟨bn, 0, none⟩) 1 encI f.s.loaves := ⟨ns, hns, sl_block encRw_len hb, fun x hx => (hnk x hx).le (but_le _ _)⟩
  have hS1 := hS.le hle
  refine W.eff rfl rfl rfl (Ef.call rfl (Clone97_t p.s.sa p.s.sc f.s.stock _ hS1.st (by omega))) ?_
  rintro _ _ _ ⟨_, rfl, rfl, sa, sc, rfl, hls, hss, hcs⟩
  rename_i L2
  refine W.goP [98] 99 rfl ?_
  refine W.weak (E' := [(1, .p 0 0), (2, .p 1 0)]) (B' := [some ⟨[.v (.slice ad0 f.b.starts.length cp0), .v (.slice ad1 f.b.rates.length cp1), .v (.slice ad2 f.b.marks.length cp2), .v (.slice ad3 f.b.heats.length cp3), .v (.slice ad4 f.b.proofs.length cp4), .v (.slice ad5 f.ro.glasses.length cp5), .v (.slice ad6 f.ro.steps.length cp6), .v (.slice ad7 f.ro.duties.length cp7), .v (.slice ad8 f.ro.samples.length cp8), .v (.slice ad9 f.ro.sights.length cp9), .v (.slice (some ⟨bn, 0, none⟩) rs.length rs.length), .v (.slice sa f.s.stock.length sc), .v (.int .i64 f.s.kerf), .v (.slice p.s.wa f.s.wants.length p.s.wc)], 123⟩, some ⟨ti123.z.cells.toList.map .v, 123⟩]) (by exact ⟨rfl, rfl, trivial⟩) (by exact ⟨rfl, rfl, trivial⟩) ?_
  refine W.go 99 rfl ?_
  refine W.eff rfl rfl rfl (Ef.call rfl (Clone101_t p.s.wa p.s.wc f.s.wants _ (hS1.wt.le hls) (by omega))) ?_
  rintro _ _ _ ⟨_, rfl, rfl, wa, wc, rfl, hlw, hsw, hcw⟩
  rename_i L3
  refine W.go 99 rfl ?_
  refine W.ret r rfl rfl ?_
  refine ⟨⟨⟨ad0, ad1, ad2, ad3, ad4, cp0, cp1, cp2, cp3, cp4⟩, ⟨ad5, ad6, ad7, ad8, ad9, cp5, cp6, cp7, cp8, cp9⟩, ⟨some ⟨bn, 0, none⟩, sa, wa, rs.length, sc, wc⟩⟩, ?_, hle10.trans (hle.trans (hls.trans hlw)), hB.le (hle.trans (hls.trans hlw)), hR.le (hle.trans (hls.trans hlw)), (hrows.le (hls.trans hlw)), hss.le hlw, hsw, hcw⟩
  rw [hrl]; rfl
end Go.Mz


set_option maxRecDepth 100000
namespace Go.Mz
open Go.Conc Go.Proofs
variable {X : Logic Tryz.prog}
theorem proofF_rest (f : Fi) (x : Prf) : (proofF f x).1.ro = f.ro ∧ (proofF f x).1.s = f.s := by
 unfold proofF
 split <;> exact ⟨rfl, rfl⟩
theorem deskB_rest (out : Nat) : ∀ (i : Nat) (l : List (Nat × List Int)) (s : Fi × Nat), (deskB out i l s).1.ro = s.1.ro ∧ (deskB out i l s).1.s = s.1.s
 | _, [], _ => ⟨rfl, rfl⟩
 | i, x :: l, s => by
  have h := deskB_rest out (i + 1) l (entB out i x s)
  have h2 : (entB out i x s).1.ro = s.1.ro ∧ (entB out i x s).1.s = s.1.s := by
   unfold entB
   split
   ·exact proofF_rest _ _
   ·exact ⟨rfl, rfl⟩
  exact ⟨h.1.trans h2.1, h.2.trans h2.2⟩
theorem Files_t (k : Bk) (p : Kp) (xs : List (Nat × List Int)) (L : LH) (hgl : GlOk L) (hk : BkAt L k p) (w : WkOk k xs) : Sp X 16 [bkA k p] L (fun v L' => ∃ p' : Fp, v = .tuple #[blA (deskAt ⟨k.b, k.ro, k.s⟩ xs xs.length).b p'.b, roA k.ro p'.r, swA k.s p'.s, .int .i64 0] ∧ Le L L' ∧ FiAt L' (deskAt ⟨k.b, k.ro, k.s⟩ xs xs.length) p') := by
 have hrest := deskB_rest 0 0 (xs.take xs.length) (⟨k.b, k.ro, k.s⟩, 0)
 have hsm := w.ok.sm
 refine Sp.enter (n := 38) Tryz.func16 rfl rfl rfl rfl fun C hX _ hL0 r => ?_
 refine W.go 99 rfl ?_
 refine W.eff rfl rfl rfl (Ef.call rfl (open_c k p xs _ hk w.ok w.p)) ?_
 rintro _ _ _ ⟨_, rfl, rfl, bc, us, ua, uc, rfl, hle, hc⟩
 refine W.go 99 rfl ?_
 refine W.split rfl rfl rfl (fun c => absurd c (by decide)) (fun c => ?_)
 refine W.go 99 rfl ?_
 refine W.eff rfl rfl rfl (Ef.call rfl (behind_t bc k p xs us ua uc _ (hgl.le hle) hc w)) ?_
 rintro _ _ _ ⟨_, rfl, rfl, bf, J, fp, n, rfl, hLJ, hD⟩
 rename_i L2
 refine W.go 99 rfl ?_
 have hro : (deskAt ⟨k.b, k.ro, k.s⟩ xs xs.length).ro = k.ro := hrest.1
 have hso : (deskAt ⟨k.b, k.ro, k.s⟩ xs xs.length).s = k.s := hrest.2
 generalize deskAt ⟨k.b, k.ro, k.s⟩ xs xs.length = f at hD hro hso r ⊢
 have hfa : FiAt L2 f fp := ⟨hD.b.le hD.le, hD.r.le hD.le, hD.s.le hD.le⟩
 refine W.vf rfl rfl rfl rfl (Vf.loadN rfl rfl rfl (cellsAt_mid (vs := fiL f fp) hD.o rfl rfl)) ?_
 refine W.go 99 rfl ?_
 refine W.eff rfl rfl rfl (Ef.call rfl (apart_t f fp _ hfa (by rw [hso]; exact hsm.hl) (by rw [hso]; exact hsm.hr) (by rw [hso]; exact hsm.hs) (by rw [hso]; exact hsm.hw))) ?_
 rintro _ _ _ ⟨_, rfl, rfl, p', rfl, hl3, hf3⟩
 refine W.go 99 rfl ?_
 rename_i L3
 refine W.weak (E' := [(2, .p 1 0), (3, .p 2 0), (4, .p 3 0), (5, .v (.int .i64 0)), (10, .p 5 0)]) (B' := [some ⟨(bkL k p).map .v, 56⟩, some ⟨ti28.z.cells.toList.map .v, 28⟩, some ⟨ti48.z.cells.toList.map .v, 48⟩, some ⟨ti52.z.cells.toList.map .v, 52⟩, some ⟨(deskV bf).cells.toList.map .v, 118⟩, some ⟨(fiL f p').map .v, 123⟩]) (by exact ⟨rfl, rfl, rfl, rfl, rfl, trivial⟩) (by exact ⟨rfl, rfl, rfl, rfl, rfl, rfl, trivial⟩) ?_
 have hle3 := hle.trans (hLJ.trans (hD.le.trans hl3))
 refine W.pub 2 (.inl ⟨_, rfl⟩) rfl rfl ?_
 intro b2 hb2 _
 refine W.pub 3 (.inl ⟨_, rfl⟩) rfl rfl ?_
 intro b3 hb3 _
 refine W.pub 4 (.inl ⟨_, rfl⟩) rfl rfl ?_
 intro b4 hb4 _
 have n32 : b3 ≠ b2 := fun e => by rw [e, put_same] at hb3; cases hb3
 have n43 : b4 ≠ b3 := fun e => by rw [e, put_same] at hb4; cases hb4
 have n42 : b4 ≠ b2 := fun e => by rw [e, put_ne _ _ n32.symm, put_same] at hb4; cases hb4
 rw [put_ne _ _ n32] at hb3
 rw [put_ne _ _ n43, put_ne _ _ n42] at hb4
 have g2 : (((L3.put b2 (.cells #[.slice none 0 0, .slice none 0 0, .slice none 0 0, .slice none 0 0, .slice none 0 0] 28)).put b3 (.cells #[.slice none 0 0, .slice none 0 0, .slice none 0 0, .slice none 0 0, .slice none 0 0] 48)).put b4 (.cells #[.slice none 0 0, .slice none 0 0, .int .i64 0, .slice none 0 0] 52)) b2 = some (.cells #[.slice none 0 0, .slice none 0 0, .slice none 0 0, .slice none 0 0, .slice none 0 0] 28 (0, 0), true) := by
  rw [put_ne _ _ n42.symm, put_ne _ _ n32.symm, put_same]
 have g3 : (((L3.put b2 (.cells #[.slice none 0 0, .slice none 0 0, .slice none 0 0, .slice none 0 0, .slice none 0 0] 28)).put b3 (.cells #[.slice none 0 0, .slice none 0 0, .slice none 0 0, .slice none 0 0, .slice none 0 0] 48)).put b4 (.cells #[.slice none 0 0, .slice none 0 0, .int .i64 0, .slice none 0 0] 52)) b3 = some (.cells #[.slice none 0 0, .slice none 0 0, .slice none 0 0, .slice none 0 0, .slice none 0 0] 48 (0, 0), true) := by
  rw [put_ne _ _ n43.symm, put_same]
 have g4 := put_same ((L3.put b2 (.cells #[.slice none 0 0, .slice none 0 0, .slice none 0 0, .slice none 0 0, .slice none 0 0] 28)).put b3 (.cells #[.slice none 0 0, .slice none 0 0, .slice none 0 0, .slice none 0 0, .slice none 0 0] 48)) b4 (.cells #[.slice none 0 0, .slice none 0 0, .int .i64 0, .slice none 0 0] 52)
 have hLL : Le L3 (((L3.put b2 (.cells #[.slice none 0 0, .slice none 0 0, .slice none 0 0, .slice none 0 0, .slice none 0 0] 28)).put b3 (.cells #[.slice none 0 0, .slice none 0 0, .slice none 0 0, .slice none 0 0, .slice none 0 0] 48)).put b4 (.cells #[.slice none 0 0, .slice none 0 0, .int .i64 0, .slice none 0 0] 52)) := le_put_none (le_put_none (Le.put hb2 _) hb3 _) hb4 _
 change W C _ _ _ _ _ (((L3.put b2 (.cells #[.slice none 0 0, .slice none 0 0, .slice none 0 0, .slice none 0 0, .slice none 0 0] 28)).put b3 (.cells #[.slice none 0 0, .slice none 0 0, .slice none 0 0, .slice none 0 0, .slice none 0 0] 48)).put b4 (.cells #[.slice none 0 0, .slice none 0 0, .int .i64 0, .slice none 0 0] 52))
 generalize (((L3.put b2 (.cells #[.slice none 0 0, .slice none 0 0, .slice none 0 0, .slice none 0 0, .slice none 0 0] 28)).put b3 (.cells #[.slice none 0 0, .slice none 0 0, .slice none 0 0, .slice none 0 0, .slice none 0 0] 48)).put b4 (.cells #[.slice none 0 0, .slice none 0 0, .int .i64 0, .slice none 0 0] 52)) = L4 at g2 g3 g4 hLL ⊢
 refine W.drawn (by kernel_rfl) L3 hLL ?_
 refine DD.run' [0, 1, 2, 3, 4, 5] rfl ?_
 refine DD.act 6 rfl rfl rfl rfl rfl (Ef.stoF rfl ⟨_, rfl, rfl⟩ rfl g2 rfl (Nat.le_refl _) (singles rfl)) ((by rintro _ _ _ ⟨rfl, rfl, rfl⟩; exact ⟨le_put_none hLL hb2 _, rfl, .inl rfl⟩)) ?_
 rintro _ _ _ ⟨rfl, rfl, rfl⟩
 refine DD.act 7 rfl rfl rfl rfl rfl (Ef.stoF rfl ⟨_, rfl, rfl⟩ rfl ((put_ne _ _ n32).trans g3) rfl (Nat.le_refl _) (singles rfl)) ((by rintro _ _ _ ⟨rfl, rfl, rfl⟩; exact ⟨le_put_none (le_put_none hLL hb2 _) hb3 _, rfl, .inl rfl⟩)) ?_
 rintro _ _ _ ⟨rfl, rfl, rfl⟩
 refine DD.act 8 rfl rfl rfl rfl rfl (Ef.stoF rfl ⟨_, rfl, rfl⟩ rfl ((put_ne _ _ n43).trans ((put_ne _ _ n42).trans g4)) rfl (Nat.le_refl _) (singles rfl)) ((by rintro _ _ _ ⟨rfl, rfl, rfl⟩; exact ⟨le_put_none (le_put_none (le_put_none hLL hb2 _) hb3 _) hb4 _, rfl, .inl rfl⟩)) ?_
 rintro _ _ _ ⟨rfl, rfl, rfl⟩
 refine DD.run' [9] rfl ?_
 refine .fin rfl ?_
 refine W.out r.ro (.inr .ret) ?_
 have hfin := le_put_none (le_put_none (le_put_none hLL hb2 (.cells (blL f.b p'.b).toArray 28)) hb3 (.cells (roL f.ro p'.r).toArray 48)) hb4 (.cells (encSw f.s p'.s).toArray 52)
 refine WM.ret3t r rfl rfl rfl rfl rfl rfl (loadNF rfl rfl (cellsAt_n (vs := blL f.b p'.b) ((put_ne _ _ n42.symm).trans ((put_ne _ _ n32.symm).trans (put_same _ _ _))) rfl)) (loadNF rfl rfl (cellsAt_n (vs := roL f.ro p'.r) ((put_ne _ _ n43.symm).trans (put_same _ _ _)) rfl)) (loadNF rfl rfl (cellsAt_n (vs := encSw f.s p'.s) (put_same _ _ _) rfl)) ?_
 refine ⟨p', ?_, hle3.trans hfin, hf3.le hfin⟩
 rw [← hro, ← hso]
end Go.Mz

