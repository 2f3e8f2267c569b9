/- Lemmas on which the claim leans. -/
import Derived.Test.YtnhckcgdmolgcaaGreatDoorMzAq
set_option maxRecDepth 100000
namespace Go.Mz
open Go.Conc Go.Proofs
variable {X : Logic Tryz.prog}
def GlOk (L : LH) : Prop := L.cell? ⟨0, 0, none⟩ = some (rty 161)
theorem GlOk.le {L L' : LH} (h : GlOk L) (hl : Le L L') : GlOk L' := hl.cell h
theorem AsNil_sp (t : Value) (L : LH) : Sp X 122 [.nilIface, t] L (fun v L' => v = .bool false ∧ L = L') := by
 refine Sp.enter (n := 42) Tryz.func122 rfl rfl rfl rfl fun C hX _ hL0 r => ?_
 refine W.go 99 rfl ?_
 exact W.ret r rfl rfl ⟨rfl, rfl⟩
theorem set_spE {a b : Nat} {x y : Value} {L : LH} (hx : single x = true) (hb : L.cell? ⟨b, 0, none⟩ = some x) (ha : L a = some (.cells #[y] 158 (0, 0), true)) :
  SpE Tryz.prog 171 [.agg #[hdl 158, .pointer (some ⟨a, 0, none⟩), .int .u64 409], .agg #[hdl 158, .pointer (some ⟨b, 0, none⟩), .int .u64 153]] L (fun v L' => v = .tuple #[] ∧ L' = L.put a (.cells #[x] 158)) :=
 ⟨_, _, ext171, fun R hR => w171 (hR.cell hb) hx (hR _ _ ha) fun R' h1 h2 => ⟨_, ⟨rfl, rfl⟩, Post.set hR ha h1 h2⟩⟩
theorem as_sp (a b : Nat) (d y : Value) (t : Value) (hd : single d = true) (L : LH) (hb : L.cell? ⟨b, 0, none⟩ = some (.pointer (some ⟨a, 0, none⟩))) (ha : L a = some (.cells #[y] 158 (0, 0), true)) :
  Sp X 146 [.iface 158 (.agg #[d]), t, .agg #[hdl 163, .pointer (some ⟨b, 0, none⟩), .int .u64 150], rty 158] L (fun v L' => v = .bool true ∧ L' a = some (.cells #[d] 158 (0, 0), true) ∧ ∀ b' x, b' ≠ a → L b' = some x → L' b' = some x) := by
 refine Sp.enter (n := 62) Tryz.func146 rfl rfl rfl rfl fun C hX _ hL0 r => ?_
 refine W.go 99 rfl ?_
 refine W.loop (fun m E B L' => m = 0 ∧ E = [(0, .v (.iface 158 (.agg #[d]))), (3, .v (rty 158)), (6, .p 0 0)] ∧ B = [some ⟨cellsS (.v (.agg #[hdl 163, .pointer (some ⟨b, 0, none⟩), .int .u64 150])), 205⟩] ∧ L = L')
  ⟨rfl, rfl, rfl, rfl⟩ ⟨rfl, rfl, rfl, trivial⟩ ⟨rfl, trivial⟩ ?_
 rintro _ _ _ _ ⟨rfl, rfl, rfl, rfl⟩ again
 refine W.go 99 rfl ?_
 refine W.eff rfl rfl rfl (Ef.ext rfl (SpE.pure ext169 fun _ _ _ => w169 _)) ?_
 rintro _ _ _ ⟨_, rfl, rfl, rfl, rfl⟩
 refine W.go 99 rfl ?_
 refine W.eff rfl rfl rfl (Ef.inv rfl rfl rfl (fun _ _ _ => mAssg _) (.inr (SpE.pure ext203 fun _ _ _ => w203))) ?_
 rintro _ _ _ ⟨_, rfl, rfl, rfl, rfl⟩
 refine W.go 99 rfl ?_
 refine W.split rfl rfl rfl (fun c => ?_) (fun c => absurd c (by decide))
 refine W.go 99 rfl ?_
 refine W.eff rfl rfl rfl (Ef.ext rfl (SpE.read ext170 fun _ _ R hR => w170 (hR.cell hb))) ?_
 rintro _ _ _ ⟨_, rfl, rfl, rfl, rfl⟩
 refine W.go 99 rfl ?_
 refine W.eff rfl rfl rfl (Ef.ext rfl (SpE.alloc ext143 fun _ _ _ => w143h _)) ?_
 rintro _ _ _ ⟨_, rfl, rfl, b1, hb1, rfl, rfl⟩
 refine W.go 99 rfl ?_
 have hne : a ≠ b1 := fun e => by subst e; rw [ha] at hb1; cases hb1
 refine W.eff rfl rfl rfl (Ef.ext rfl (set_spE hd (b := b1) (cell_of (put_same _ _ _) rfl) ((put_ne _ _ hne).trans ha))) ?_
 rintro _ _ _ ⟨_, rfl, rfl, rfl, rfl⟩
 refine W.go 99 rfl ?_
 refine W.ret r rfl rfl ?_
 exact ⟨rfl, put_same _ _ _, fun b' x hb' hx => by rw [put_ne _ _ hb', put_ne _ _ (fun e => by subst e; rw [hb1] at hx; cases hx)]; exact hx⟩
theorem As_sp (a : Nat) (d y : Value) (hd : single d = true) (L : LH) (hg : GlOk L) (ha : L a = some (.cells #[y] 158 (0, 0), true)) :
  Sp X 122 [.iface 158 (.agg #[d]), .iface 163 (.pointer (some ⟨a, 0, none⟩))] L (fun v L' => v = .bool true ∧ L' a = some (.cells #[d] 158 (0, 0), true) ∧ ∀ b' x, b' ≠ a → L b' = some x → L' b' = some x) := by
 refine Sp.enter (n := 42) Tryz.func122 rfl rfl rfl rfl fun C hX _ hL0 r => ?_
 refine W.go 99 rfl ?_
 refine W.eff rfl rfl rfl (Ef.ext rfl (SpE.alloc ext143 fun _ _ _ => w143p _)) ?_
 rintro _ _ _ ⟨_, rfl, rfl, b1, hb1, rfl, rfl⟩
 refine W.go 99 rfl ?_
 have hne : a ≠ b1 := fun e => by subst e; rw [ha] at hb1; cases hb1
 have hb := cell_of (put_same L b1 (.cells #[.pointer (some ⟨a, 0, none⟩)] 163)) (off := 0) (v := .pointer (some ⟨a, 0, none⟩)) rfl
 refine W.eff rfl rfl rfl (Ef.ext rfl (SpE.pure ext144 fun _ _ _ => w144 _)) ?_
 rintro _ _ _ ⟨_, rfl, rfl, rfl, rfl⟩
 refine W.go 99 rfl ?_
 refine W.eff rfl rfl rfl (Ef.inv rfl rfl rfl (fun _ _ _ => mKind _) (.inr (SpE.pure ext191 fun _ _ _ => w191p))) ?_
 rintro _ _ _ ⟨_, rfl, rfl, rfl, rfl⟩
 refine W.go 99 rfl ?_
 refine W.split rfl rfl rfl (fun c => absurd c (by decide)) (fun c => ?_)
 refine W.go 99 rfl ?_
 refine W.eff rfl rfl rfl (Ef.ext rfl (SpE.read ext145 fun _ _ R hR => w145 (hR.cell hb))) ?_
 rintro _ _ _ ⟨_, rfl, rfl, rfl, rfl⟩
 refine W.go 99 rfl ?_
 refine W.split rfl rfl rfl (fun c => absurd c (by decide)) (fun c => ?_)
 refine W.go 99 rfl ?_
 refine W.eff rfl rfl rfl (Ef.inv rfl rfl rfl (fun _ _ _ => mElem _) (.inr (SpE.pure ext205 fun _ _ _ => w205))) ?_
 rintro _ _ _ ⟨_, rfl, rfl, rfl, rfl⟩
 refine W.go 99 rfl ?_
 refine W.eff rfl rfl rfl (Ef.inv rfl rfl rfl (fun _ _ _ => mKind _) (.inr (SpE.pure ext191 fun _ _ _ => w191h))) ?_
 rintro _ _ _ ⟨_, rfl, rfl, rfl, rfl⟩
 refine W.go 99 rfl ?_
 refine W.split rfl rfl rfl (fun c => ?_) (fun c => absurd c (by decide))
 refine W.go 99 rfl ?_
 refine W.vf rfl rfl rfl rfl (Vf.load rfl rfl rfl (hg.le (Le.put hb1 _))) ?_
 refine W.go 99 rfl ?_
 refine W.eff rfl rfl rfl (Ef.inv rfl rfl rfl (fun _ _ _ => mImpl _) (.inr (SpE.pure ext206 fun _ _ _ => w206))) ?_
 rintro _ _ _ ⟨_, rfl, rfl, rfl, rfl⟩
 refine W.go 99 rfl ?_
 refine W.split rfl rfl rfl (fun c => absurd c (by decide)) (fun c => ?_)
 refine W.go 99 rfl ?_
 refine W.eff rfl rfl rfl (Ef.call rfl (as_sp a b1 d y _ hd _ hb ((put_ne _ _ hne).trans ha))) ?_
 rintro _ _ _ ⟨_, rfl, rfl, rfl, h1, h2⟩
 refine W.go 99 rfl ?_
 refine W.ret r rfl rfl ?_
 exact ⟨rfl, h1, fun b' x hb' hx => h2 b' x hb' (by rw [put_ne _ _ (fun e => by subst e; rw [hb1] at hx; cases hx)]; exact hx)⟩
end Go.Mz


set_option maxRecDepth 100000
namespace Go.Mz
open Go.Conc Go.Proofs
variable {X : Logic Tryz.prog}
def endV (x : Int × Int) : Value := if x.1 = 1 then .iface 164 (.agg #[.int .i64 x.2]) else if x.1 = 0 then .iface 165 (.agg #[.int .i64 x.2]) else .iface 166 (.agg #[.int .i64 x.2])
theorem prevH_succ {hs : List Int} {d0 d : Nat} (hd : d0 ≤ d) (h : d < hs.length) : prevH hs d0 (d + 1) = some hs[d] := by
 unfold prevH; rw [if_neg (by omega), Nat.add_sub_cancel, List.getElem?_eq_getElem h]
theorem fate_sp (b : Nat) (s : St) (p : Pt) (ha : Option Addr) (hc : Nat) (hs : List Int) (t0 t1 t2 mv : Value) (c : Cone) (sh : Shelf) (i k d0 : Nat) (hdn : d0 < hs.length) (hi : s.cones[i]? = some c) (hk : s.shelves[k]? = some sh) (L : LH) (h : SvAt L b s p ha hc hs t0 t1 t2 mv) (hg : GlOk L) :
  Sp X 84 [.pointer (some ⟨b, 0, none⟩), .int .i64 i, .agg #[.int .i64 k, .int .i64 d0]] L (fun v L' => v = endV (fateS s hs c ⟨k, d0⟩) ∧ Le L L') := by
 have hil := (List.getElem?_eq_some_iff.1 hi).1
 have hkl := (List.getElem?_eq_some_iff.1 hk).1
 obtain ⟨sa, hsa⟩ := h.st.sh.addr hkl
 obtain ⟨ca, hca⟩ := h.st.co.addr hil
 obtain ⟨aa, rfl⟩ := h.he.addr hdn
 obtain ⟨p1, p2, n1, n2⟩ := p
 obtain rfl : p1 = some sa := hsa
 obtain rfl : p2 = some ca := hca
 have hcm := h.ok.co c (List.mem_of_getElem? hi)
 have hsm := h.ok.sh sh (List.mem_of_getElem? hk)
 have ht5 := h.ok.t5
 have hlen : hs.length ≤ 4 := by have := h.hok.len; have := h.ok.d4; omega
 have hdays : s.days = hs.length := h.hok.len.symm
 have hl : liftOf s (k : Int) = sh.lift := by simp [liftOf, hk]
 have h0 : fateS s hs c ⟨k, d0⟩ = fateL sh.lift c none d0 0 (hs.drop d0) := by unfold fateS; rw [hl]; simp
 refine Sp.enter (n := 74) Tryz.func84 rfl rfl rfl rfl fun C hX _ hL0 r => ?_
 refine W.go 99 rfl ?_
 refine W.drawn (by kernel_rfl) _ (Le.refl _) ?_
 refine DD.run' [2, 0, 1, 3] rfl ?_
 refine .fin rfl ?_
 refine W.go 7 rfl ?_
 refine W.pub 9 (.inl ⟨_, rfl⟩) rfl rfl ?_
 intro a hna _
 refine W.pt (fun m E B L' => ∃ (d : Nat) (sum : Int) (y : Value), m = hs.length - d ∧ d0 ≤ d ∧ d < hs.length ∧ 0 ≤ sum ∧ sum ≤ 8 * d ∧ fateL sh.lift c (prevH hs d0 d) d sum (hs.drop d) = fateL sh.lift c none d0 0 (hs.drop d0) ∧ Le L L' ∧ L' a = some (.cells #[y] 158 (0, 0), true) ∧
   E = [(0, .v (.pointer (some ⟨b, 0, none⟩))), (1, .v (.int .i64 i)), (5, .p 0 0), (7, .v (.int .i64 sum)), (8, .v (.int .i64 d)), (9, .v (.pointer (some ⟨a, 0, none⟩)))] ∧ B = [some ⟨cellsS (.v (.agg #[.int .i64 k, .int .i64 d0])), 30⟩])
  ⟨d0, 0, _, rfl, Nat.le_refl _, hdn, by omega, by omega, by unfold prevH; rw [if_pos rfl], Le.put hna _, put_same _ _ _, rfl, rfl⟩ ⟨rfl, rfl, rfl, rfl, rfl, rfl, trivial⟩ ⟨rfl, trivial⟩ ?_
 rintro _ _ _ L1 ⟨d, sum, y, rfl, hd, hdl, hs0, hs8, hf, hle, hay, rfl, rfl⟩ again
 have h' := h.le hle
 have hdd := List.drop_eq_getElem_cons hdl
 have hhm := h.ok.t5
 have hr := h.hok.r hs[d] (List.getElem_mem hdl)
 rw [hdd, fateL] at hf
 refine W.go 99 rfl ?_
 refine W.eff rfl rfl rfl (Ef.call rfl (bears_sp b s _ _ hc hs t0 t1 t2 mv c sh i k d0 d hd hdl hi hk L1 h')) ?_
 rintro _ _ _ ⟨_, rfl, rfl, rfl, rfl⟩
 refine W.go 99 rfl ?_
 cases hb : hotB sh.lift c (prevH hs d0 d) hs[d] with
 | true =>
  simp only [if_true]
  refine W.eff rfl rfl rfl (Ef.call rfl (As_sp a _ _ rfl _ (hg.le hle) hay)) ?_
  rintro _ _ _ ⟨_, rfl, rfl, rfl, ha1, hrest⟩
  refine W.go 99 rfl ?_
  refine W.split rfl rfl rfl (fun c => ?_) (fun c => absurd c (by decide))
  refine W.go 99 rfl ?_
  refine W.vf rfl rfl rfl rfl (Vf.load rfl rfl rfl (cell_of ha1 rfl)) ?_
  refine W.go 99 rfl ?_
  refine W.ret r rfl rfl ?_
  exact ⟨by rw [h0, ← hf, if_pos hb]; rfl, fun b' x hx => hrest b' x (fun e => by subst e; rw [hna] at hx; cases hx) (hle b' x hx)⟩
 | false =>
  simp only [Bool.false_eq_true, if_false]
  refine W.eff rfl rfl rfl (Ef.call rfl (AsNil_sp _ _)) ?_
  rintro _ _ _ ⟨_, rfl, rfl, rfl, rfl⟩
  refine W.go 99 rfl ?_
  refine W.split rfl rfl rfl (fun c => absurd c (by decide)) (fun c => ?_)
  refine W.go 99 rfl ?_
  refine W.drawn (by kernel_rfl) _ (Le.refl _) ?_
  refine DD.run' [0, 1, 2, 3] rfl ?_
  refine DD.vf 4 rfl rfl rfl rfl rfl (Vf.load rfl rfl rfl (h'.cell 6 rfl)) ?_
  refine DD.run' [5] rfl ?_
  refine DD.vf 6 rfl rfl rfl rfl rfl (Vf.idx1 rfl rfl rfl rfl rfl rfl rfl (hdl)) ?_
  refine DD.vf 7 rfl rfl rfl rfl rfl (Vf.load rfl rfl rfl (h'.he.int (List.getElem?_eq_getElem hdl))) ?_
  refine DD.run' [8, 9, 10, 11] rfl ?_
  refine DD.vf 12 rfl rfl rfl rfl rfl (Vf.load rfl rfl rfl (h'.cell 0 rfl)) ?_
  refine DD.run' [13, 14] rfl ?_
  refine DD.vf 15 rfl rfl rfl rfl rfl (Vf.idx rfl rfl rfl rfl rfl rfl (hkl)) ?_
  refine DD.run' [16] rfl ?_
  refine DD.vf 17 rfl rfl rfl rfl rfl (Vf.load rfl rfl rfl (h'.st.sh.fld hk 0 rfl)) ?_
  refine DD.run' [18] rfl ?_
  rw [wrap64_in (hs[d] + sh.lift) (by omega) (by omega)]
  refine DD.run' [19] rfl ?_
  rw [wrap64_in (sum + (hs[d] + sh.lift)) (by omega) (by omega)]
  refine DD.run' [20] rfl ?_
  refine .fin rfl ?_
  refine W.go 99 rfl ?_
  refine W.vf rfl rfl rfl rfl (Vf.load rfl rfl rfl (h'.cell 1 rfl)) ?_
  refine W.go 99 rfl ?_
  refine W.vf rfl rfl rfl rfl (Vf.idx rfl rfl rfl rfl rfl rfl (hil)) ?_
  refine W.go 99 rfl ?_
  refine W.vf rfl rfl rfl rfl (Vf.load rfl rfl rfl (h'.st.co.fld hi 0 rfl)) ?_
  refine W.go 99 rfl ?_
  refine W.split rfl rfl rfl (fun c2 => W.go 99 rfl ?_) (fun c2 => W.go 99 rfl ?_)
  ·refine W.ret r rfl rfl ?_
   exact ⟨by rw [h0, ← hf, if_neg (by simp [hb]), if_pos (by simpa using c2)]; rfl, hle⟩
  refine W.vf rfl rfl rfl rfl (Vf.load rfl rfl rfl (h'.cell 2 rfl)) ?_
  refine W.go 99 rfl ?_
  refine W.split rfl rfl rfl (fun c3 => W.go 99 rfl ?_) (fun c3 => W.go 99 rfl ?_)
  ·have hd1 : d + 1 < hs.length := by rw [wrap64_in _ (by omega) (by omega)] at c3; simp at c3; omega
   refine W.goto rfl ?_
   refine W.go 3 rfl ?_
   exact W.again (again _ _ _ _ (by omega) ⟨d + 1, sum + (hs[d] + sh.lift), _, rfl, by omega, hd1, by omega, by omega, by rw [prevH_succ hd hdl, ← hf, if_neg (by simp [hb]), if_neg (by simpa using c2)]; rfl, hle, hay, rfl, rfl⟩) ⟨rfl, rfl, rfl, rfl, congrArg some (inc64 (by omega)), rfl, trivial⟩ ⟨rfl, trivial⟩
  have hd1 : d + 1 = hs.length := by rw [wrap64_in _ (by omega) (by omega)] at c3; simp at c3; omega
  refine W.vf rfl rfl rfl rfl (Vf.load rfl rfl rfl (h'.cell 2 rfl)) ?_
  refine W.go 99 rfl ?_
  refine W.ret r rfl rfl ?_
  refine ⟨?_, hle⟩
  rw [h0, ← hf, if_neg (by simp [hb]), if_neg (by simpa using c2), List.drop_of_length_le (by omega), wrap64_in _ (by omega) (by omega)]
  unfold fateL endV
  simp [retV]
  omega
end Go.Mz


set_option maxRecDepth 100000
namespace Go.Mz
open Go.Conc Go.Proofs
variable {X : Logic Tryz.prog}
def badV (e : Int) : Value := .iface 199 (.agg #[.int .i64 e])
theorem must_ok (e : Int) (L : LH) : Sp X 142 [.bool true, .int .i64 e] L (fun v L' => v = .tuple #[] ∧ L = L') := by
 refine Sp.enter (n := 9) Tryz.func142 rfl rfl rfl rfl fun C hX _ hL0 r => ?_
 refine W.go 99 rfl ?_
 refine W.split rfl rfl rfl (fun c => absurd c (by decide)) (fun c => ?_)
 refine W.go 99 rfl ?_
 refine W.ret0 r rfl rfl ⟨rfl, rfl⟩
theorem must_no (e : Int) (L : LH) : Sp X 142 [.bool false, .int .i64 e] L (fun _ _ => False) (fun ch L' => ch = [pe1 (badV e)] ∧ L = L') := by
 refine Sp.enter (n := 9) Tryz.func142 rfl rfl rfl rfl fun C hX _ hL0 r => ?_
 refine W.go 99 rfl ?_
 refine W.split rfl rfl rfl (fun c => ?_) (fun c => absurd c (by decide))
 refine W.go 99 rfl ?_
 refine W.panicOp rfl rfl rfl rfl ?_
 exact WM.raise r ⟨rfl, rfl⟩
def b3 (x y z : Bool) : Nat := (if x then 1 else 0) + (if y then 2 else 0) + (if z then 4 else 0)
def bm (q : Nat → Bool) : Nat := b3 (q 0) (q 1) (q 2)
theorem bm_lt (q : Nat → Bool) : bm q < 8 := by unfold bm; cases q 0 <;> cases q 1 <;> cases q 2 <;> decide
theorem bm_bit (q : Nat → Bool) {i : Nat} (hi : i < 3) : (bm q).testBit i = q i := by
 unfold bm
 rcases lt3 hi with rfl | rfl | rfl <;> cases q 0 <;> cases q 1 <;> cases q 2 <;> decide
theorem b3_or (x y z : Bool) : b3 x y z ||| 2 ^ 0 = b3 true y z ∧ b3 x y z ||| 2 ^ 1 = b3 x true z ∧ b3 x y z ||| 2 ^ 2 = b3 x y true := by
 cases x <;> cases y <;> cases z <;> decide
theorem bm_or (q : Nat → Bool) {i : Nat} (hi : i < 3) : bm q ||| 2 ^ i = bm (fun j => q j || j == i) := by
 obtain ⟨h0, h1, h2⟩ := b3_or (q 0) (q 1) (q 2)
 unfold bm
 rcases lt3 hi with rfl | rfl | rfl
 ·rw [h0]; simp
 ·rw [h1]; simp
 ·rw [h2]; simp
theorem bits_bm (q : Nat → Bool) : bitsL (bm q) = (List.range 3).filter q := by
 unfold bitsL
 apply List.filter_congr
 intro i hi
 exact bm_bit q (List.mem_range.1 hi)
def encQ (q : Nat → Nat → Nat → Bool) : List Value := (List.range 12).map fun n => .int .u8 (bm (q (n / 4) (n % 4)))
theorem encQ_len (q : Nat → Nat → Nat → Bool) : (encQ q).length = 12 := by simp [encQ]
theorem encQ_get (q : Nat → Nat → Nat → Bool) {k d : Nat} (hk : k < 3) (hd : d < 4) : (encQ q)[k * 4 + d]? = some (.int .u8 (bm (q k d))) := by
 unfold encQ
 rw [List.getElem?_map, List.getElem?_range (by omega)]
 simp only [Option.map_some, Option.some.injEq]
 rw [show (k * 4 + d) / 4 = k by omega, show (k * 4 + d) % 4 = d by omega]
def qAdd (q : Nat → Nat → Nat → Bool) (k d i : Nat) : Nat → Nat → Nat → Bool := fun k' d' j => q k' d' j || (k' == k && d' == d && j == i)
theorem encQ_set (q : Nat → Nat → Nat → Bool) {k d i : Nat} (hk : k < 3) (hd : d < 4) (hi : i < 3) : (encQ q).set (k * 4 + d) (.int .u8 (bm (q k d) ||| 2 ^ i : Nat)) = encQ (qAdd q k d i) := by
 apply List.ext_getElem?
 intro n
 by_cases hn : n < 12
 ·by_cases e : n = k * 4 + d
  ·subst e
   rw [List.getElem?_set_self (by rw [encQ_len]; exact hn), encQ_get _ hk hd, bm_or _ hi]
   have : (fun j => q k d j || j == i) = qAdd q k d i k d := by funext j; simp [qAdd]
   rw [this]
  ·rw [List.getElem?_set_ne (Ne.symm e)]
   unfold encQ
   rw [List.getElem?_map, List.getElem?_map, List.getElem?_range hn]
   simp only [Option.map_some, Option.some.injEq, Value.int.injEq, true_and]
   have : ¬ (n / 4 = k ∧ n % 4 = d) := by omega
   congr 2
   funext j
   unfold qAdd
   by_cases e1 : n / 4 = k
   ·have e2 : n % 4 ≠ d := fun h => this ⟨e1, h⟩
    simp [e1, e2]
   ·simp [e1]
 ·rw [List.getElem?_eq_none (by rw [List.length_set, encQ_len]; omega), List.getElem?_eq_none (by rw [encQ_len]; omega)]
def qUp (q : Nat → Nat → Nat → Bool) (k i lo hi : Nat) : Nat → Nat → Nat → Bool := fun k' d' j => q k' d' j || (k' == k && decide (lo ≤ d') && decide (d' < hi) && j == i)
theorem qUp_0 (q : Nat → Nat → Nat → Bool) (k i lo : Nat) : qUp q k i lo lo = q := by
 funext k' d' j
 unfold qUp
 by_cases h : lo ≤ d'
 ·have : ¬ d' < lo := by omega
  simp [this]
 ·simp [h]
theorem qUp_add (q : Nat → Nat → Nat → Bool) {k i lo d : Nat} (h : lo ≤ d) : qAdd (qUp q k i lo d) k d i = qUp q k i lo (d + 1) := by
 funext k' d' j
 unfold qAdd qUp
 by_cases h1 : d' = d
 ·subst h1
  simp [h]
 ·have : (decide (d' < d) : Bool) = decide (d' < d + 1) := by
   by_cases h2 : d' < d
   ·simp [h2]; omega
   ·simp [h2]; omega
  simp [h1, this]
theorem put_sp (b pq : Nat) (s : St) (p : Pt) (ha : Option Addr) (hc : Nat) (hs : List Int) (t0 t1 t2 mv : Value) (c : Cone) (i : Nat) (a : Stand) (q : Nat → Nat → Nat → Bool) (hi : s.cones[i]? = some c) (L : LH) (h : SvAt L b s p ha hc hs t0 t1 t2 mv) (hg : GlOk L) (hq : L pq = some (.cells (encQ q).toArray 148 (0, 0), true)) :
  Sp X 135 [.pointer (some ⟨b, 0, none⟩), .pointer (some ⟨pq, 0, none⟩), .int .i64 i, .agg (encSt a).toArray] L
   (fun v L' => putE s hs c a = 0 ∧ v = .tuple #[] ∧ L' pq = some (.cells (encQ (if a.shelf = -1 then q else qUp q a.shelf.toNat i a.day.toNat ((fateS s hs c a).2 + 1).toNat)).toArray 148 (0, 0), true) ∧ ∀ b' x, b' ≠ pq → L b' = some x → L' b' = some x)
   (fun ch L' => putE s hs c a ≠ 0 ∧ ch = [pe1 (badV (putE s hs c a))] ∧ Le L L') := by
 have hil := (List.getElem?_eq_some_iff.1 hi).1
 have hc3 := h.ok.c3
 have hs3 := h.ok.s3
 have hd4 := h.ok.d4
 obtain ⟨a1, a2⟩ := a
 refine Sp.enter (n := 83) Tryz.func135 rfl rfl rfl rfl fun C hX _ hL0 r => ?_
 refine W.go 99 rfl ?_
 refine W.split rfl rfl rfl (fun c1 => W.go 99 rfl ?_) (fun c1 => W.go 99 rfl ?_)
 ·have e1 : a1 = -1 := by simpa using c1
  subst e1
  by_cases e2 : a2 = 0
  ·subst e2
   refine W.eff rfl rfl rfl (Ef.call rfl (must_ok _ _)) ?_
   rintro _ _ _ ⟨_, rfl, rfl, rfl, rfl⟩
   refine W.go 99 rfl ?_
   refine W.ret r rfl rfl ?_
   exact ⟨rfl, rfl, by simpa using hq, fun b' x _ hx => hx⟩
  ·have e3 : (a2 == 0) = false := by simp [e2]
   rw [e3]
   have e4 : putE s hs c ⟨-1, a2⟩ = 1 := by unfold putE; simp [e2]
   refine W.callP rfl rfl rfl rfl (must_no _ _) ?_ ?_
   ·exact fun _ _ h => h.elim
   ·rintro _ _ ⟨rfl, rfl⟩
    exact WM.raise r ⟨by rw [e4]; decide, by rw [e4], Le.refl _⟩
 have n1 : a1 ≠ -1 := by simpa using c1
 refine W.drawn (by kernel_rfl) _ (Le.refl _) ?_
 refine DD.run' [0, 1, 2, 3, 4, 5] rfl ?_
 refine DD.vf 6 rfl rfl rfl rfl rfl (Vf.load rfl rfl rfl (h.cell 0 rfl)) ?_
 refine DD.run' [7, 8] rfl ?_
 rw [wrap64_in ((s.shelves.length : Int) - 1) (by omega) (by omega)]
 refine DD.act 9 rfl rfl rfl rfl rfl (Ef.call rfl (within_sp _ _ _ _)) (by rintro _ _ _ ⟨_, rfl, rfl, rfl, rfl⟩; exact ⟨Le.refl _, rfl, .inl rfl⟩) ?_
 rintro _ _ _ ⟨_, rfl, rfl, rfl, rfl⟩
 refine DD.run' [10] rfl ?_
 refine DD.split 29 rfl (fun c2 => ?_) (fun c2 => ?_)
 ·refine DD.run' [11, 12, 13, 14, 15, 16] rfl ?_
  refine DD.vf 17 rfl rfl rfl rfl rfl (Vf.load rfl rfl rfl (h.cell 2 rfl)) ?_
  refine DD.run' [18] rfl ?_
  rw [wrap64_in (s.days - 1) (by have := h.ok.d1; omega) (by omega)]
  refine DD.act 19 rfl rfl rfl rfl rfl (Ef.call rfl (within_sp _ _ _ _)) (by rintro _ _ _ ⟨_, rfl, rfl, rfl, rfl⟩; exact ⟨Le.refl _, rfl, .inl rfl⟩) ?_
  rintro _ _ _ ⟨_, rfl, rfl, rfl, rfl⟩
  refine DD.run' [20] rfl ?_
  refine DD.split 39 rfl (fun c3 => ?_) (fun c3 => ?_)
  ·have hst : isStand s ⟨a1, a2⟩ = true := by unfold isStand; rw [c2, c3]; rfl
   rw [inB_iff] at c2 c3
   obtain ⟨k, rfl⟩ : ∃ k : Nat, a1 = k := ⟨a1.toNat, by simp at c2; omega⟩
   obtain ⟨d0, rfl⟩ : ∃ d : Nat, a2 = d := ⟨a2.toNat, by simp at c3; omega⟩
   have hkl : k < s.shelves.length := by simp at c2; omega
   have hlen := h.hok.len
   have hdl : d0 < hs.length := by simp at c3; omega
   have hk := List.getElem?_eq_getElem hkl
   have hpe : putE s hs c ⟨k, d0⟩ = if (fateS s hs c ⟨k, d0⟩).1 = 1 then 12 else if (fateS s hs c ⟨k, d0⟩).1 = 2 then 9 else 0 := by
    unfold putE; rw [if_neg n1, if_neg (by simp [hst])]
   refine DD.act 21 rfl rfl rfl rfl rfl (Ef.call rfl (must_ok _ _)) (by rintro _ _ _ ⟨_, rfl, rfl, rfl, rfl⟩; exact ⟨Le.refl _, rfl, .inl rfl⟩) ?_
   rintro _ _ _ ⟨_, rfl, rfl, rfl, rfl⟩
   refine .fin rfl ?_
   refine W.go 99 rfl ?_
   refine W.eff rfl rfl rfl (Ef.call rfl (fate_sp b s p ha hc hs t0 t1 t2 mv c _ i k d0 hdl hi hk L h hg)) ?_
   rintro _ _ _ ⟨_, rfl, rfl, rfl, hle⟩
   have hfr : (d0 : Int) ≤ (fateS s hs c ⟨k, d0⟩).2 ∧ (fateS s hs c ⟨k, d0⟩).2 < hs.length ∧ 0 ≤ (fateS s hs c ⟨k, d0⟩).1 ∧ (fateS s hs c ⟨k, d0⟩).1 ≤ 2 := by
    obtain ⟨f1, f2, f3, f4⟩ := fateL_range (lift := liftOf s ((k : Nat) : Int)) (c := c) (l := hs.drop d0) (p := none) (d := (d0 : Int)) (sum := 0)
    have e : fateS s hs c ⟨k, d0⟩ = fateL (liftOf s ((k : Nat) : Int)) c none d0 0 (hs.drop d0) := by unfold fateS; simp
    rw [e]
    have hl : (hs.drop d0).length = hs.length - d0 := List.length_drop
    exact ⟨f1 (by omega), by omega, f3, f4⟩
   generalize hx : fateS s hs c ⟨k, d0⟩ = x at hfr hpe ⊢
   obtain ⟨e, ld⟩ := x
   obtain ⟨f1, f2, f3, f4⟩ := hfr
   simp only at f1 f2 f3 f4 hpe
   obtain ⟨ld, rfl⟩ : ∃ n : Nat, ld = n := ⟨ld.toNat, by omega⟩
   by_cases e1 : e = 1
   ·subst e1
    refine W.go 99 rfl ?_
    refine W.split rfl rfl rfl (fun c => ?_) (fun c => absurd c (by decide))
    refine W.go 99 rfl ?_
    refine W.panicOp rfl rfl rfl rfl ?_
    exact WM.raise r ⟨by rw [hpe]; simp, by rw [hpe]; rfl, hle⟩
   by_cases e2 : e = 2
   ·subst e2
    refine W.go 99 rfl ?_
    refine W.split rfl rfl rfl (fun c => absurd c (by decide)) (fun c => ?_)
    refine W.go 99 rfl ?_
    refine W.split rfl rfl rfl (fun c => ?_) (fun c => absurd c (by decide))
    refine W.go 99 rfl ?_
    refine W.panicOp rfl rfl rfl rfl ?_
    exact WM.raise r ⟨by rw [hpe]; simp, by rw [hpe]; rfl, hle⟩
   obtain rfl : e = 0 := by omega
   have hpe0 : putE s hs c ⟨k, d0⟩ = 0 := hpe
   clear hpe
   refine W.go 99 rfl ?_
   refine W.split rfl rfl rfl (fun c => absurd c (by decide)) (fun c => ?_)
   refine W.go 99 rfl ?_
   refine W.split rfl rfl rfl (fun c => absurd c (by decide)) (fun c => ?_)
   refine W.go 99 rfl ?_
   refine W.split rfl rfl rfl (fun c => ?_) (fun c => absurd c (by decide))
   refine W.go 99 rfl ?_
   rename_i L1
   refine W.loop (fun m E B L' => ∃ d : Nat, m = ld + 1 - d ∧ d0 ≤ d ∧ d ≤ ld + 1 ∧ L' pq = some (.cells (encQ (qUp q k i d0 d)).toArray 148 (0, 0), true) ∧ (∀ b' x, b' ≠ pq → L b' = some x → L' b' = some x) ∧
     E = [(1, .v (.pointer (some ⟨pq, 0, none⟩))), (2, .v (.int .i64 i)), (7, .p 0 0), (10, .p 1 0), (11, .v (.int .i64 d))] ∧ B = [some ⟨cellsS (.v (.agg (encSt ⟨k, d0⟩).toArray)), 30⟩, some ⟨[.v (.int .i64 ld)], 165⟩])
    ⟨d0, rfl, Nat.le_refl _, by omega, by rw [qUp_0]; exact hle _ _ hq, fun b' x _ hx => hle b' x hx, rfl, rfl⟩ ⟨rfl, rfl, rfl, rfl, rfl, trivial⟩ ⟨rfl, rfl, trivial⟩ ?_
   rintro _ _ _ L2 ⟨d, rfl, g1, g2, g3, g4, rfl, rfl⟩ again
   refine W.go 99 rfl ?_
   refine W.split rfl rfl rfl (fun d1 => W.go 99 rfl ?_) (fun d1 => W.go 99 rfl ?_)
   ·have hdl1 : d ≤ ld := by simp at d1; omega
    have hk3 : k < 3 := by omega
    have hd4' : d < 4 := by omega
    have hcell : L2.cell? ((Addr.add ⟨pq, 0, none⟩ (k * 4)).add (d * 1)) = some (.int .u8 (bm (qUp q k i d0 d k d))) := by
     rw [add_of, add_of]
     exact cell_of g3 (by rw [List.getElem?_toArray, Nat.zero_add, Nat.mul_one]; exact encQ_get _ hk3 hd4')
    refine W.drawn (by kernel_rfl) noL (noL_le _) ?_
    refine DD.run' [0, 1, 2, 3, 4, 5, 6, 7, 8] rfl ?_
    refine DD.vf 9 rfl rfl rfl rfl rfl (Vf.idxF rfl rfl rfl rfl rfl rfl (hk3)) ?_
    refine DD.vf 10 rfl rfl rfl rfl rfl (Vf.idxF rfl rfl rfl rfl rfl rfl (hd4')) ?_
    refine DD.run' [12, 14] rfl ?_
    refine DD.vf 15 rfl rfl rfl rfl rfl (Vf.idxF rfl rfl rfl rfl rfl rfl (hk3)) ?_
    refine DD.act 11 rfl rfl rfl rfl rfl (Ef.val rfl (Vf.load rfl rfl rfl (hcell))) (by rintro _ _ _ ⟨rfl, rfl, rfl⟩; exact ⟨noL_le _, rfl, .inl rfl⟩) ?_
    rintro _ _ _ ⟨rfl, rfl, rfl⟩
    refine DD.act 13 rfl rfl rfl rfl rfl (Ef.call rfl (with_sp _ i (bm_lt _) (by omega) _)) (by rintro _ _ _ ⟨_, rfl, rfl, rfl, rfl⟩; exact ⟨noL_le _, rfl, .inl rfl⟩) ?_
    rintro _ _ _ ⟨_, rfl, rfl, rfl, rfl⟩
    refine DD.vf 16 rfl rfl rfl rfl rfl (Vf.idxF rfl rfl rfl rfl rfl rfl (hd4')) ?_
    rw [add_of, add_of]
    refine DD.act 17 rfl rfl rfl rfl rfl (Ef.stoF rfl ⟨_, rfl, rfl⟩ rfl g3 rfl (by rw [List.size_toArray, encQ_len]; show 0 + k * 4 + d * 1 + 1 ≤ 12; omega) (singles rfl)) (by rintro _ _ _ ⟨rfl, rfl, rfl⟩; exact ⟨noL_le _, rfl, .inl rfl⟩) ?_
    rintro _ _ _ ⟨rfl, rfl, rfl⟩
    refine .fin rfl ?_
    refine W.go 99 rfl ?_
    have hrow : putRow (encQ (qUp q k i d0 d)).toArray (0 + k * 4 + d * 1) (Value.int .u8 ((bm (qUp q k i d0 d k d) ||| 2 ^ i : Nat) : Int)).cells.toList = (encQ (qUp q k i d0 (d + 1))).toArray := by
     show ((encQ (qUp q k i d0 d)).toArray).setIfInBounds _ _ = _
     rw [List.setIfInBounds_toArray, show 0 + k * 4 + d * 1 = k * 4 + d by omega, encQ_set _ hk3 hd4' (by omega), qUp_add _ g1]
    refine W.again (again _ _ _ _ (by omega) ⟨d + 1, rfl, by omega, by omega, by rw [← hrow]; exact put_same _ _ _, fun b' x hb' hx => by rw [put_ne _ _ hb']; exact g4 b' x hb' hx, rfl, rfl⟩) ⟨rfl, rfl, rfl, rfl, congrArg some (inc64 (by omega)), trivial⟩ ⟨rfl, rfl, trivial⟩
   ·have hd : d = ld + 1 := by simp at d1; omega
    subst hd
    refine W.ret0 r rfl rfl ⟨hpe0, rfl, ?_, g4⟩
    have e5 : ((ld : Int) + 1).toNat = ld + 1 := by omega
    rw [g3, if_neg n1, hx]
    simp only [Int.toNat_natCast, e5]
  ·have e4 : putE s hs c ⟨a1, a2⟩ = 3 := by
    unfold putE isStand
    rw [if_neg n1, if_pos (by simp [c3])]
   refine DD.callP 21 rfl rfl rfl rfl rfl rfl (must_no _ _) ?_
   rintro _ _ ⟨rfl, rfl⟩
   exact WM.raise r ⟨by rw [e4]; decide, by rw [e4], Le.refl _⟩
 ·refine DD.run' [11, 12, 13, 14, 15, 16, 17, 18, 19, 20] rfl ?_
  have e4 : putE s hs c ⟨a1, a2⟩ = 3 := by
   unfold putE isStand
   rw [if_neg n1, if_pos (by simp [c2])]
  refine DD.callP 21 rfl rfl rfl rfl rfl rfl (must_no _ _) ?_
  rintro _ _ ⟨rfl, rfl⟩
  exact WM.raise r ⟨by rw [e4]; decide, by rw [e4], Le.refl _⟩
end Go.Mz


set_option maxRecDepth 100000
namespace Go.Mz
open Go.Conc Go.Proofs
variable {X : Logic Tryz.prog}
def roomAt (s : St) (q : Nat → Nat → Nat → Bool) (k d : Nat) : Bool := decide ((((List.range 3).filter (q k d)).length : Int) ≤ roomOf s k)
def roomB (s : St) (q : Nat → Nat → Nat → Bool) : Bool := (List.range s.shelves.length).all fun k => (List.range s.days.toNat).all fun d => roomAt s q k d
theorem all_no {n i : Nat} {f : Nat → Bool} (hi : i < n) (h : f i = false) : (List.range n).all f = false := by
 rw [Bool.eq_false_iff]
 intro e
 have := List.all_eq_true.1 e i (List.mem_range.2 hi)
 rw [h] at this; cases this
theorem all_yes {n : Nat} {f : Nat → Bool} (h : ∀ i, i < n → f i = true) : (List.range n).all f = true := List.all_eq_true.2 fun i hi => h i (List.mem_range.1 hi)
theorem nth_map_v (l : List Value) (n : Nat) : nth (l.map SV.v) n = (l[n]?).map SV.v := by rw [nth_eq, List.getElem?_map]
theorem room_sp (b : Nat) (s : St) (p : Pt) (ha : Option Addr) (hc : Nat) (hs : List Int) (t0 t1 t2 mv : Value) (q : Nat → Nat → Nat → Bool) (L : LH) (h : SvAt L b s p ha hc hs t0 t1 t2 mv) :
  Sp X 136 [.pointer (some ⟨b, 0, none⟩), .agg (encQ q).toArray] L (fun v L' => v = .bool (roomB s q) ∧ Le L L') := by
 have hs3 := h.ok.s3
 have hd4 := h.ok.d4
 have hd1 := h.ok.d1
 refine Sp.enter (n := 39) Tryz.func136 rfl rfl rfl rfl fun C hX _ hL0 r => ?_
 refine W.go 99 rfl ?_
 refine W.vf rfl rfl rfl rfl (Vf.load rfl rfl rfl (h.cell 0 rfl)) ?_
 refine W.go 99 rfl ?_
 refine W.loop (fun m E B L' => ∃ i : Nat, m = s.shelves.length - i ∧ i ≤ s.shelves.length ∧ (∀ k, k < i → ((List.range s.days.toNat).all fun d => roomAt s q k d) = true) ∧ Le L L' ∧
   E = [(0, .v (.pointer (some ⟨b, 0, none⟩))), (3, .p 0 0), (12, .v (.slice p.sa s.shelves.length p.c1)), (13, .v (.int .i64 s.shelves.length)), (14, .v (.int .i64 i))] ∧ B = [some ⟨cellsS (.v (.agg (encQ q).toArray)), 148⟩])
  ⟨0, rfl, by omega, fun k hk => absurd hk (Nat.not_lt_zero _), Le.refl _, rfl, rfl⟩ ⟨rfl, rfl, rfl, rfl, rfl, trivial⟩ ⟨rfl, trivial⟩ ?_
 rintro _ _ _ L1 ⟨i, rfl, h1, hall, hle, rfl, rfl⟩ again
 have h' := h.le hle
 refine W.go 99 rfl ?_
 refine W.split rfl rfl rfl (fun c1 => W.go 99 rfl ?_) (fun c1 => W.go 99 rfl ?_)
 ·have hi : i < s.shelves.length := by simpa using c1
  obtain ⟨sa, hsa⟩ := h.st.sh.addr hi
  obtain ⟨p1, p2, n1, n2⟩ := p
  obtain rfl : p1 = some sa := hsa
  have hk := List.getElem?_eq_getElem hi
  refine W.vf rfl rfl rfl rfl (Vf.idx rfl rfl rfl rfl rfl rfl (hi)) ?_
  refine W.go 99 rfl ?_
  refine W.vf rfl rfl rfl rfl (Vf.loadN rfl rfl rfl (h'.st.sh.whole hk rfl)) ?_
  refine W.go 99 rfl ?_
  refine W.vf rfl rfl rfl rfl (Vf.load rfl rfl rfl (h'.cell 2 rfl)) ?_
  refine W.go 99 rfl ?_
  refine W.loop (fun m E B L' => ∃ d : Nat, m = s.days.toNat - d ∧ d ≤ s.days.toNat ∧ (∀ d', d' < d → roomAt s q i d' = true) ∧ Le L L' ∧
    E = [(0, .v (.pointer (some ⟨b, 0, none⟩))), (3, .p 0 0), (12, .v (.slice (some sa) s.shelves.length n1)), (13, .v (.int .i64 s.shelves.length)), (14, .v (.int .i64 i)), (5, .v (.int .i64 i)), (6, .p 1 0), (23, .v (.int .i64 s.days)), (24, .v (.int .i64 d))] ∧
    B = [some ⟨cellsS (.v (.agg (encQ q).toArray)), 148⟩, some ⟨[.v (.int .i64 s.shelves[i].lift), .v (.int .i64 s.shelves[i].room)], 59⟩])
   ⟨0, rfl, by omega, fun k hk => absurd hk (Nat.not_lt_zero _), hle, rfl, rfl⟩ (by exact ⟨rfl, rfl, rfl, rfl, rfl, rfl, rfl, rfl, rfl, trivial⟩) (by exact ⟨rfl, rfl, trivial⟩) ?_
  rintro _ _ _ L2 ⟨d, rfl, g1, gall, gle, rfl, rfl⟩ again2
  refine W.go 99 rfl ?_
  refine W.split rfl rfl rfl (fun d1 => W.go 99 rfl ?_) (fun d1 => W.go 99 rfl ?_)
  ·have hd : d < s.days.toNat := by simp at d1; omega
   have hd' : d < 4 := by omega
   have hi3 : i < 3 := by omega
   have hnth : nth (cellsS (.v (.agg (encQ q).toArray))) (0 + i * 4 + d * 1) = some (.v (.int .u8 (bm (q i d)))) := by
    show nth ((encQ q).map SV.v) _ = _
    rw [nth_map_v, show 0 + i * 4 + d * 1 = i * 4 + d by omega, encQ_get _ hi3 hd']; rfl
   refine W.drawn (by kernel_rfl) _ (Le.refl _) ?_
   refine DD.run' [0, 1] rfl ?_
   refine DD.vf 2 rfl rfl rfl rfl rfl (Vf.idxA rfl rfl rfl rfl rfl rfl (hi3)) ?_
   refine DD.vf 3 rfl rfl rfl rfl rfl (Vf.idxA rfl rfl rfl rfl rfl rfl (hd')) ?_
   refine DD.vf 4 rfl rfl rfl rfl rfl (Vf.loadA rfl rfl rfl rfl (hnth)) ?_
   refine DD.run' [7, 8] rfl ?_
   refine DD.act 5 rfl rfl rfl rfl rfl (Ef.call rfl (list_sp _ (bm_lt _) _)) (by rintro _ _ _ ⟨_, rfl, rfl, _, _, rfl, hle2, _⟩; exact ⟨hle2, rfl, .inl rfl⟩) ?_
   rintro _ _ _ ⟨_, rfl, rfl, ad, cap, rfl, hle2, _, _⟩
   refine DD.run' [6, 9] rfl ?_
   refine .fin rfl ?_
   refine W.go 99 rfl ?_
   have hlen : (natI (bitsL (bm (q i d)))).length = ((List.range 3).filter (q i d)).length := by rw [natI, List.length_map, bits_bm]
   have hroom : roomOf s i = s.shelves[i].room := by simp [roomOf, hk]
   refine W.split rfl rfl rfl (fun c2 => W.go 99 rfl ?_) (fun c2 => W.go 99 rfl ?_)
   ·refine W.ret r rfl rfl ?_
    refine ⟨?_, gle.trans hle2⟩
    have : roomB s q = false := all_no hi (all_no hd (by unfold roomAt; rw [hroom, ← hlen]; simpa using c2))
    rw [this]; rfl
   ·exact W.again (again2 _ _ _ _ (by omega) ⟨d + 1, rfl, by omega, fun d' hd' => by
     by_cases e : d' = d
     ·subst e; unfold roomAt; rw [hroom, ← hlen]; simpa using c2
     ·exact gall d' (by omega), gle.trans hle2, rfl, rfl⟩) ⟨rfl, rfl, rfl, rfl, rfl, rfl, rfl, rfl, congrArg some (inc64 (by omega)), trivial⟩ ⟨rfl, rfl, trivial⟩
  ·have hd : d = s.days.toNat := by simp at d1; omega
   exact W.again (again _ _ _ _ (by omega) ⟨i + 1, rfl, by omega, fun k hk => by
    by_cases e : k = i
    ·subst e; exact all_yes fun d' hd' => gall d' (by omega)
    ·exact hall k (by omega), gle, rfl, rfl⟩) ⟨rfl, rfl, rfl, rfl, congrArg some (inc64 (by omega)), trivial⟩ ⟨rfl, trivial⟩
 ·have hi : i = s.shelves.length := by simp at c1; omega
  refine W.ret r rfl rfl ?_
  refine ⟨?_, hle⟩
  have : roomB s q = true := all_yes fun k hk => hall k (by omega)
  rw [this]; rfl
end Go.Mz


set_option maxRecDepth 100000
namespace Go.Mz
open Go.Conc Go.Proofs
variable {X : Logic Tryz.prog}
theorem dry_sp (b i : Nat) (L : LH) : Sp X 140 [.pointer (some ⟨b, 0, none⟩), .int .i64 i] L (fun v L' => ∃ b1 b2, v = .func (.func 168) #[] #[.pointer (some ⟨b1, 0, none⟩), .pointer (some ⟨b2, 0, none⟩)] ∧ L b1 = none ∧ L b2 = none ∧ b2 ≠ b1 ∧ L' = (L.put b1 (.cells #[.pointer (some ⟨b, 0, none⟩)] 101)).put b2 (.cells #[.int .i64 i] 3)) := by
 refine Sp.enter (n := 6) Tryz.func140 rfl rfl rfl rfl fun C hX _ hL0 r => ?_
 refine W.go 99 rfl ?_
 refine W.pub 2 (.inl ⟨_, rfl⟩) rfl rfl ?_
 intro b1 hb1 _
 refine W.pub 3 (.inl ⟨_, rfl⟩) rfl rfl ?_
 intro b2 hb2 _
 have hne : b2 ≠ b1 := fun e => by subst e; rw [put_same] at hb2; cases hb2
 refine W.ret r rfl rfl ?_
 exact ⟨b1, b2, rfl, hb1, by rw [put_ne _ _ hne] at hb2; exact hb2, hne, rfl⟩
structure DryK (b b1 b2 i : Nat) (s : St) (p : Pt) (ha : Option Addr) (hc : Nat) (hs : List Int) (L : LH) : Prop where
 c1 : L.cell? ⟨b1, 0, none⟩ = some (.pointer (some ⟨b, 0, none⟩))
 c2 : L.cell? ⟨b2, 0, none⟩ = some (.int .i64 i)
 sv : ∃ t0 t1 t2 mv, SvAt L b s p ha hc hs t0 t1 t2 mv
 gl : GlOk L
theorem DryK.le {b b1 b2 i : Nat} {s : St} {p : Pt} {ha : Option Addr} {hc : Nat} {hs : List Int} {L L' : LH} (hl : Le L L') (h : DryK b b1 b2 i s p ha hc hs L) : DryK b b1 b2 i s p ha hc hs L' :=
 ⟨hl.cell h.c1, hl.cell h.c2, let ⟨t0, t1, t2, mv, h1⟩ := h.sv; ⟨t0, t1, t2, mv, h1.le hl⟩, h.gl.le hl⟩
def stRow (s : St) (k : Nat) : List Stand := (List.range s.days.toNat).map fun (d : Nat) => ⟨(k : Int), (d : Int)⟩
def gridTo (s : St) (k d : Nat) : List Stand := (List.range k).flatMap (stRow s) ++ (List.range d).map fun (d : Nat) => ⟨(k : Int), (d : Int)⟩
theorem grid_split (s : St) {k d : Nat} (hk : k < s.shelves.length) (hd : d < s.days.toNat) : ∃ post, grid s = gridTo s k d ++ ⟨k, d⟩ :: post := by
 unfold grid gridTo
 show ∃ post, (List.range s.shelves.length).flatMap (stRow s) = _
 rw [range_split hk, List.flatMap_append, List.flatMap_cons]
 have : stRow s k = (List.range d).map (fun (d : Nat) => (⟨(k : Int), (d : Int)⟩ : Stand)) ++ ⟨k, d⟩ :: (List.range' (d + 1) (s.days.toNat - d - 1)).map (fun (d : Nat) => (⟨(k : Int), (d : Int)⟩ : Stand)) := by
  unfold stRow
  rw [range_split hd, List.map_append, List.map_cons]
 rw [this]
 exact ⟨_, by simp only [List.append_assoc, List.cons_append]; rfl⟩
theorem gridTo_succ (s : St) (k d : Nat) : gridTo s k (d + 1) = gridTo s k d ++ [⟨k, d⟩] := by
 unfold gridTo; rw [List.range_succ, List.map_append]; simp
theorem gridTo_row (s : St) (k : Nat) : gridTo s (k + 1) 0 = gridTo s k s.days.toNat := by
 unfold gridTo; rw [List.range_succ, List.flatMap_append]; simp [stRow]
theorem gridTo_all (s : St) : gridTo s s.shelves.length 0 = grid s := by
 unfold gridTo grid
 simp only [List.range_zero, List.map_nil, List.append_nil]
 rfl
def dryB (s : St) (hs : List Int) (c : Cone) (a : Stand) : Bool := (fateS s hs c a).1 == 0
theorem fate_ends {s : St} {hs : List Int} {c : Cone} {k d : Nat} : 0 ≤ (fateS s hs c ⟨k, d⟩).1 ∧ (fateS s hs c ⟨k, d⟩).1 ≤ 2 := by
 unfold fateS
 obtain ⟨_, _, f3, f4⟩ := fateL_range (lift := liftOf s ((k : Nat) : Int)) (c := c) (l := hs.drop ((d : Nat) : Int).toNat) (p := none) (d := (d : Int)) (sum := 0)
 exact ⟨f3, f4⟩
theorem dry1_it (b b1 b2 i : Nat) (s : St) (p : Pt) (ha : Option Addr) (hc : Nat) (hs : List Int) (c : Cone) (hi : s.cones[i]? = some c) : Iter X 168 [.pointer (some ⟨b1, 0, none⟩), .pointer (some ⟨b2, 0, none⟩)] (fun a => [.agg (encSt a).toArray]) (standsS s hs c) (DryK b b1 b2 i s p ha hc hs) := by
 intro yv J Z L hY0 hJ0
 have hY := hY0.frame (fun _ _ hl h => DryK.le hl h) noL
 have hJ : Fra J noL ((gridTo s 0 0).filter (dryB s hs c)) L := Fra.zero hJ0
 clear hJ0
 obtain ⟨t0, t1, t2, mv, h⟩ := (hY.inv _ _ hJ).1.sv
 have hs3 := h.ok.s3
 have hd4 := h.ok.d4
 have hd1 := h.ok.d1
 have hlen := h.hok.len
 have hc3 := h.ok.c3
 refine Sp.enter (n := 46) Tryz.func168 rfl rfl rfl rfl fun C hX _ hL0 r => ?_
 refine W.go 99 rfl ?_
 refine W.vf rfl rfl rfl rfl (Vf.load rfl rfl rfl ((hY.inv _ _ hJ).1.c1)) ?_
 refine W.go 99 rfl ?_
 refine W.vf rfl rfl rfl rfl (Vf.load rfl rfl rfl (h.cell 0 rfl)) ?_
 refine W.go 99 rfl ?_
 refine W.loop (fun m E B L' => ∃ k : Nat, m = s.shelves.length - k ∧ k ≤ s.shelves.length ∧ Fra J noL ((gridTo s k 0).filter (dryB s hs c)) L' ∧
   E = [(0, .v yv), (1, .v (.pointer (some ⟨b1, 0, none⟩))), (2, .v (.pointer (some ⟨b2, 0, none⟩))), (14, .v (.int .i64 s.shelves.length)), (15, .v (.int .i64 k))] ∧ B = [])
  ⟨0, rfl, by omega, hJ, rfl, rfl⟩ (by exact ⟨rfl, rfl, rfl, rfl, rfl, trivial⟩) trivial ?_
 clear h t0 t1 t2 mv hJ
 rintro _ _ _ L1 ⟨k, rfl, h1, hJ, rfl, rfl⟩ again
 obtain ⟨t0, t1, t2, mv, h⟩ := (hY.inv _ _ hJ).1.sv
 refine W.go 99 rfl ?_
 refine W.split rfl rfl rfl (fun e1 => W.go 99 rfl ?_) (fun e1 => W.go 99 rfl ?_)
 ·have hk : k < s.shelves.length := by simpa using e1
  refine W.vf rfl rfl rfl rfl (Vf.load rfl rfl rfl ((hY.inv _ _ hJ).1.c1)) ?_
  refine W.go 99 rfl ?_
  refine W.vf rfl rfl rfl rfl (Vf.load rfl rfl rfl (h.cell 2 rfl)) ?_
  refine W.go 99 rfl ?_
  refine W.loop (fun m E B L' => ∃ d : Nat, m = s.days.toNat - d ∧ d ≤ s.days.toNat ∧ Fra J noL ((gridTo s k d).filter (dryB s hs c)) L' ∧
    E = [(0, .v yv), (1, .v (.pointer (some ⟨b1, 0, none⟩))), (2, .v (.pointer (some ⟨b2, 0, none⟩))), (4, .v (.int .i64 k)), (14, .v (.int .i64 s.shelves.length)), (15, .v (.int .i64 k)), (22, .v (.int .i64 s.days)), (23, .v (.int .i64 d))] ∧ B = [])
   ⟨0, rfl, by omega, hJ, rfl, rfl⟩ (by exact ⟨rfl, rfl, rfl, rfl, rfl, rfl, rfl, rfl, trivial⟩) trivial ?_
  clear h t0 t1 t2 mv hJ
  rintro _ _ _ L2 ⟨d, rfl, g1, hJ, rfl, rfl⟩ again2
  obtain ⟨t0, t1, t2, mv, h⟩ := (hY.inv _ _ hJ).1.sv
  refine W.go 99 rfl ?_
  refine W.split rfl rfl rfl (fun e2 => W.go 99 rfl ?_) (fun e2 => W.go 99 rfl ?_)
  ·have hd : d < s.days.toNat := by simp at e2; omega
   obtain ⟨post, hpost⟩ := grid_split s hk hd
   refine W.vf rfl rfl rfl rfl (Vf.load rfl rfl rfl ((hY.inv _ _ hJ).1.c1)) ?_
   refine W.go 99 rfl ?_
   refine W.vf rfl rfl rfl rfl (Vf.load rfl rfl rfl ((hY.inv _ _ hJ).1.c2)) ?_
   refine W.go 99 rfl ?_
   refine W.eff rfl rfl rfl (Ef.call rfl (fate_sp b s p ha hc hs t0 t1 t2 mv c _ i k d (by omega) hi (List.getElem?_eq_getElem hk) L2 h (hY.inv _ _ hJ).1.gl)) ?_
   rintro _ _ _ ⟨_, rfl, rfl, rfl, hle⟩
   have hJ2 := hJ.mono hle
   have hfe := fate_ends (s := s) (hs := hs) (c := c) (k := k) (d := d)
   by_cases hdr : (fateS s hs c ⟨k, d⟩).1 = 0
   ·have hdb : dryB s hs c ⟨k, d⟩ = true := by unfold dryB; rw [hdr]; rfl
    have hval : endV (fateS s hs c ⟨k, d⟩) = .iface 165 (.agg #[.int .i64 (fateS s hs c ⟨k, d⟩).2]) := by unfold endV; rw [if_neg (by omega), if_pos hdr]
    rw [hval]
    refine W.go 99 rfl ?_
    refine W.split rfl rfl rfl (fun e3 => W.go 99 rfl ?_) (fun e3 => W.go 99 rfl ?_)
    ·have hsp : standsS s hs c = (gridTo s k d).filter (dryB s hs c) ++ ⟨k, d⟩ :: post.filter (dryB s hs c) := by
      show (grid s).filter (dryB s hs c) = _
      rw [hpost, List.filter_append, List.filter_cons_of_pos hdb]
     have hy := hY.yl _ _ _ _ hsp hJ2
     rw [← hX] at hy
     refine W.eff rfl rfl rfl (Ef.callS rfl rfl rfl hy) ?_
     rintro _ _ _ ⟨_, rfl, rfl, hq⟩
     rcases hq with ⟨rfl, hq⟩ | ⟨rfl, hq⟩
     ·refine W.go 99 rfl ?_
      refine W.split rfl rfl rfl (fun c => absurd c (by decide)) (fun c => ?_)
      refine W.go 99 rfl ?_
      exact W.again (again2 _ _ _ _ (by omega) ⟨d + 1, rfl, by omega, by rw [gridTo_succ, List.filter_append, List.filter_cons_of_pos hdb]; exact hq, rfl, rfl⟩) ⟨rfl, rfl, rfl, rfl, rfl, rfl, rfl, congrArg some (inc64 (by omega)), trivial⟩ trivial
     ·refine W.go 99 rfl ?_
      refine W.split rfl rfl rfl (fun c => ?_) (fun c => absurd c (by decide))
      refine W.go 99 rfl ?_
      refine W.ret r rfl rfl ?_
      exact ⟨rfl, .inr hq⟩
    ·cases e3
   ·have hdb : dryB s hs c ⟨k, d⟩ = false := by unfold dryB; simpa using hdr
    have hfil : (gridTo s k (d + 1)).filter (dryB s hs c) = (gridTo s k d).filter (dryB s hs c) := by
     rw [gridTo_succ, List.filter_append, List.filter_cons_of_neg (by rw [hdb]; simp)]; simp
    have hval : endV (fateS s hs c ⟨k, d⟩) = .iface 164 (.agg #[.int .i64 (fateS s hs c ⟨k, d⟩).2]) ∨ endV (fateS s hs c ⟨k, d⟩) = .iface 166 (.agg #[.int .i64 (fateS s hs c ⟨k, d⟩).2]) := by
     unfold endV
     by_cases e : (fateS s hs c ⟨k, d⟩).1 = 1
     ·exact .inl (by rw [if_pos e])
     ·exact .inr (by rw [if_neg e, if_neg hdr])
    rcases hval with hval | hval
    all_goals
     rw [hval]
     refine W.go 99 rfl ?_
     refine W.split rfl rfl rfl (fun c => absurd c (by decide)) (fun c => ?_)
     refine W.go 99 rfl ?_
     exact W.again (again2 _ _ _ _ (by omega) ⟨d + 1, rfl, by omega, by rw [hfil]; exact hJ2, rfl, rfl⟩) ⟨rfl, rfl, rfl, rfl, rfl, rfl, rfl, congrArg some (inc64 (by omega)), trivial⟩ trivial
  ·have hd : d = s.days.toNat := by simp at e2; omega
   subst hd
   exact W.again (again _ _ _ _ (by omega) ⟨k + 1, rfl, by omega, by rw [gridTo_row]; exact hJ, rfl, rfl⟩) ⟨rfl, rfl, rfl, rfl, congrArg some (inc64 (by omega)), trivial⟩ trivial
 ·have hk : k = s.shelves.length := by simp at e1; omega
  subst hk
  refine W.ret0 r rfl rfl ⟨rfl, .inl ?_⟩
  rw [gridTo_all] at hJ
  exact hJ
end Go.Mz


set_option maxRecDepth 100000
namespace Go.Mz
open Go.Conc Go.Proofs
variable {X : Logic Tryz.prog}
def qOf (s : St) (hs : List Int) (l : List Stand) : Nat → Nat → Nat → Bool := fun k d i => onB s hs l k d i
theorem qOf_nil (s : St) (hs : List Int) : qOf s hs [] = fun _ _ _ => false := by funext k d i; simp [qOf, onB]
theorem qOf_none (s : St) (hs : List Int) (l : List Stand) : qOf s hs (l ++ [none1]) = qOf s hs l := by
 funext k d i
 unfold qOf onB
 by_cases h : i < l.length
 ·rw [List.getElem?_append_left h]
 ·rw [List.getElem?_eq_none (l := l) (by omega)]
  by_cases e : i = l.length
  ·subst e
   rw [List.getElem?_append_right (Nat.le_refl _), Nat.sub_self]
   cases hc : s.cones[l.length]? with
   | none => simp
   | some c =>
    simp only [List.getElem?_cons_zero, none1]
    have : ((-1 : Int) == (k : Int)) = false := by rw [beq_eq_false_iff_ne]; omega
    rw [this]; rfl
  ·rw [List.getElem?_eq_none (by simp; omega)]
theorem qOf_add (s : St) (hs : List Int) (l : List Stand) {k d0 : Nat} {c : Cone} (hc : s.cones[l.length]? = some c) (he : 0 ≤ (fateS s hs c ⟨k, d0⟩).2) :
  qUp (qOf s hs l) k l.length d0 ((fateS s hs c ⟨k, d0⟩).2 + 1).toNat = qOf s hs (l ++ [⟨k, d0⟩]) := by
 funext k' d' i
 unfold qUp qOf onB
 by_cases h : i < l.length
 ·rw [List.getElem?_append_left h]
  have : (i == l.length) = false := by rw [beq_eq_false_iff_ne]; omega
  simp only [this, Bool.and_false, Bool.or_false]
 ·rw [List.getElem?_eq_none (l := l) (by omega)]
  by_cases e : i = l.length
  ·subst e
   rw [List.getElem?_append_right (Nat.le_refl _), Nat.sub_self, hc]
   simp only [List.getElem?_cons_zero, Bool.false_or, beq_self_eq_true, Bool.and_true]
   rw [Bool.eq_iff_iff]
   simp only [Bool.and_eq_true, beq_iff_eq, decide_eq_true_eq]
   omega
  ·rw [List.getElem?_eq_none (l := l ++ [(⟨k, d0⟩ : Stand)]) (by rw [List.length_append]; simp only [List.length_cons, List.length_nil]; omega)]
   have : (i == l.length) = false := by simpa using e
   cases s.cones[i]? <;> simp [this]
theorem onB_out {s : St} {hs : List Int} {l : List Stand} {k d i : Nat} (h : s.cones.length ≤ i) : onB s hs l k d i = false := by
 unfold onB
 rw [List.getElem?_eq_none (l := s.cones) h]
 cases l[i]? <;> rfl
theorem roomB_fits {s : St} (h3 : s.cones.length ≤ 3) (hs : List Int) (l : List Stand) : roomB s (qOf s hs l) = fitsS s hs l := by
 unfold roomB fitsS
 congr 1
 funext k
 congr 1
 funext d
 unfold roomAt onS
 have : (List.range 3).filter (qOf s hs l k d) = (List.range s.cones.length).filter (onB s hs l k d) := by
  rw [List.range_eq_range', List.range_eq_range', show 3 = s.cones.length + (3 - s.cones.length) by omega, ← List.range'_append_1, List.filter_append]
  rw [Nat.zero_add]
  have : (List.range' s.cones.length (3 - s.cones.length)).filter (qOf s hs l k d) = [] := by
   rw [List.filter_eq_nil_iff]
   intro i hi
   rw [List.mem_range'_1] at hi
   show ¬ onB s hs l k d i = true
   rw [onB_out hi.1]; simp
  rw [this, List.append_nil]
  rfl
 rw [this]
theorem fits_none {s : St} (h3 : s.cones.length ≤ 3) (hs : List Int) (l : List Stand) : fitsS s hs (l ++ [none1]) = fitsS s hs l := by rw [← roomB_fits h3, ← roomB_fits h3, qOf_none]
theorem roomOf_pos {s : St} (h : Ok s) {k : Nat} (hk : k < s.shelves.length) : 1 ≤ roomOf s k ∧ roomOf s k ≤ 2 := by
 unfold roomOf
 rw [List.getElem?_eq_getElem hk]
 exact (h.sh _ (List.getElem_mem hk)).2.2
theorem fits_nil {s : St} (h : Ok s) (hs : List Int) : fitsS s hs [] = true := by
 unfold fitsS
 refine all_yes fun k hk => all_yes fun d _ => ?_
 have := roomOf_pos h hk
 have hn : onS s hs [] k d = [] := by
  unfold onS
  rw [List.filter_eq_nil_iff]
  intro i _
  simp [onB]
 rw [hn]
 simp; omega
theorem opts_get {s : St} {hs : List Int} {so : Nat → Bool} {each : Bool} {i : Nat} {c : Cone} (hc : s.cones[i]? = some c) : (optsS s hs so each)[i]? = some (optS s hs (so i) each c) := by
 unfold optsS
 rw [List.getElem?_map, List.getElem?_zipIdx, hc]
 simp
theorem opts_drop {s : St} {hs : List Int} {so : Nat → Bool} {each : Bool} {i : Nat} {c : Cone} (hc : s.cones[i]? = some c) : (optsS s hs so each).drop i = optS s hs (so i) each c :: (optsS s hs so each).drop (i + 1) := by
 have h := opts_get (hs := hs) (so := so) (each := each) hc
 obtain ⟨h1, h2⟩ := List.getElem?_eq_some_iff.1 h
 rw [List.drop_eq_getElem_cons h1, h2]
theorem opts_len {s : St} {hs : List Int} {so : Nat → Bool} {each : Bool} : (optsS s hs so each).length = s.cones.length := by simp [optsS]
def padP (l : List Stand) : List Stand := l ++ List.replicate (3 - l.length) ⟨0, 0⟩
def encP (l : List Stand) : List Value := (padP l).flatMap encSt
def tI (t0 t1 t2 : Value) : Nat → Value
 | 0 => t0
 | 1 => t1
 | _ => t2
structure Sd where
 b : Nat
 s : St
 p : Pt
 ha : Option Addr
 hc : Nat
 hs : List Int
 t0 : Value
 t1 : Value
 t2 : Value
 mv : Value
structure SvF (L : LH) (z : Sd) : Prop where
 sv : SvAt L z.b z.s z.p z.ha z.hc z.hs z.t0 z.t1 z.t2 z.mv
 st : ∀ i c, z.s.cones[i]? = some c → ∃ ad cap, tI z.t0 z.t1 z.t2 i = .slice ad (standsS z.s z.hs c).length cap ∧ SlAt L ad 2 encSt (standsS z.s z.hs c)
 gl : GlOk L
theorem SvF.le {L L' : LH} {z : Sd} (h : SvF L z) (hl : Le L L') : SvF L' z :=
 ⟨h.sv.le hl, fun i c hc => let ⟨ad, cap, h3, h4⟩ := h.st i c hc; ⟨ad, cap, h3, h4.le hl⟩, h.gl.le hl⟩
abbrev pt (b : Nat) : Value := .pointer (some ⟨b, 0, none⟩)
structure PlK (z : Sd) (bs be bo : Nat) (each : Bool) (so : Nat → Bool) (L : LH) : Prop where
 cs : L.cell? ⟨bs, 0, none⟩ = some (pt z.b)
 ce : L.cell? ⟨be, 0, none⟩ = some (.bool each)
 co : L.cell? ⟨bo, 0, none⟩ = some (.int .u8 (bm so))
 sv : SvF L z
theorem PlK.le {z : Sd} {bs be bo : Nat} {each : Bool} {so : Nat → Bool} {L L' : LH} (hl : Le L L') (h : PlK z bs be bo each so L) : PlK z bs be bo each so L' :=
 ⟨hl.cell h.cs, hl.cell h.ce, hl.cell h.co, h.sv.le hl⟩
theorem plans_sp (b : Nat) (so : Nat → Bool) (each : Bool) (L : LH) : Sp X 97 [pt b, .int .u8 (bm so), .bool each] L (fun v L' => ∃ bs be bo, v = .func (.func 132) #[] #[pt bs, pt be, pt bo] ∧ Le L L' ∧
  L'.cell? ⟨bs, 0, none⟩ = some (pt b) ∧ L'.cell? ⟨be, 0, none⟩ = some (.bool each) ∧ L'.cell? ⟨bo, 0, none⟩ = some (.int .u8 (bm so))) := by
 refine Sp.enter (n := 8) Tryz.func97 rfl rfl rfl rfl fun C hX _ hL0 r => ?_
 refine W.go 99 rfl ?_
 refine W.pub 3 (.inl ⟨_, rfl⟩) rfl rfl ?_
 intro b1 hb1 _
 refine W.pub 4 (.inl ⟨_, rfl⟩) rfl rfl ?_
 intro b2 hb2 _
 refine W.pub 5 (.inl ⟨_, rfl⟩) rfl rfl ?_
 intro b3 hb3 _
 refine W.ret r rfl rfl ?_
 exact ⟨b1, b3, b2, rfl, (Le.put hb1 _).trans ((Le.put hb2 _).trans (Le.put hb3 _)), (Le.put hb3 _).cell ((Le.put hb2 _).cell (cell_of (put_same _ _ _) rfl)), cell_of (put_same _ _ _) rfl, (Le.put hb3 _).cell (cell_of (put_same _ _ _) rfl)⟩
end Go.Mz


set_option maxRecDepth 100000
namespace Go.Mz
open Go.Conc Go.Proofs
variable {X : Logic Tryz.prog}
theorem encP_len {l : List Stand} (h : l.length ≤ 3) : (encP l).length = 6 := by
 unfold encP
 rw [flat_len encSt_len, padP, List.length_append, List.length_replicate]
 omega
theorem putP (l : List Stand) (h : l.length ≤ 2) (a : Stand) : putL ((encP l).map SV.v) (0 + l.length * 2) [.v (.int .i64 a.shelf), .v (.int .i64 a.day)] = (encP (l ++ [a])).map SV.v := by
 match l, h with
 | [], _ => rfl
 | [x], _ => rfl
 | [x, y], _ => rfl
theorem putP2 (l : List Stand) (h : l.length ≤ 2) (b a : Stand) : putL ((encP (l ++ [b])).map SV.v) (0 + l.length * 2) [.v (.int .i64 a.shelf), .v (.int .i64 a.day)] = (encP (l ++ [a])).map SV.v := by
 match l, h with
 | [], _ => rfl
 | [x], _ => rfl
 | [x, y], _ => rfl
theorem nat1 {n : Nat} (h : n ≤ 1000) : IntKind.i64.wrap ((n : Int) + 1) = ((n + 1 : Nat) : Int) := by rw [wrap64_in _ (by omega) (by omega)]; rfl
abbrev encPl (l : List Stand) : List Value := [.agg (encP l).toArray]
theorem cellsAt_all {L : LH} {b : Nat} {vs : List Value} {e : TypeId} {fz : Nat × Nat} {wr : Bool} (h : L b = some (.cells vs.toArray e fz, wr)) : cellsAt L ⟨b, 0, none⟩ vs.length vs :=
 ⟨rfl, fun i v hv => by rw [add_of, Nat.zero_add]; exact cell_of h (by rw [List.getElem?_toArray]; exact hv)⟩
theorem cellsAt_n {L : LH} {b n : Nat} {vs : List Value} {e : TypeId} {fz : Nat × Nat} {wr : Bool} (h : L b = some (.cells vs.toArray e fz, wr)) (hn : vs.length = n) : cellsAt L ⟨b, 0, none⟩ n vs := hn ▸ cellsAt_all h
theorem stands_mem {s : St} {hs : List Int} {c : Cone} {a : Stand} (h : a ∈ standsS s hs c) : ∃ k d : Nat, a = ⟨k, d⟩ ∧ k < s.shelves.length ∧ d < s.days.toNat ∧ (fateS s hs c ⟨k, d⟩).1 = 0 := by
 obtain ⟨h1, h2⟩ := List.mem_filter.1 h
 obtain ⟨k, hk, h3⟩ := List.mem_flatMap.1 h1
 obtain ⟨d, hd, rfl⟩ := List.mem_map.1 h3
 exact ⟨k, d, rfl, List.mem_range.1 hk, List.mem_range.1 hd, by simpa using h2⟩
theorem fate_day {s : St} {hs : List Int} {c : Cone} {k d : Nat} (hd : d < hs.length) : (d : Int) ≤ (fateS s hs c ⟨k, d⟩).2 ∧ (fateS s hs c ⟨k, d⟩).2 < hs.length := by
 obtain ⟨f1, f2, _, _⟩ := fateL_range (lift := liftOf s ((k : Nat) : Int)) (c := c) (l := hs.drop d) (p := none) (d := (d : Int)) (sum := 0)
 have e : fateS s hs c ⟨k, d⟩ = fateL (liftOf s ((k : Nat) : Int)) c none d 0 (hs.drop d) := by unfold fateS; simp
 rw [e]
 have hl : (hs.drop d).length = hs.length - d := List.length_drop
 exact ⟨f1 (by omega), by omega⟩
theorem flatMap_len {α β : Type} {f : α → List β} {k : Nat} (hk : ∀ x, (f x).length = k) : ∀ l : List α, (l.flatMap f).length = l.length * k
 | [] => by simp
 | x :: l => by rw [List.flatMap_cons, List.length_append, hk, flatMap_len hk l, List.length_cons, Nat.succ_mul]; omega
theorem stands_len {s : St} (h : Ok s) (hs : List Int) (c : Cone) : (standsS s hs c).length ≤ 12 := by
 have h1 : (standsS s hs c).length ≤ (grid s).length := List.length_filter_le _ _
 have h2 : (grid s).length = s.shelves.length * s.days.toNat := by
  unfold grid
  rw [flatMap_len (k := s.days.toNat) (fun k => by simp), List.length_range]
 have h3 : s.shelves.length * s.days.toNat ≤ 3 * 4 := Nat.mul_le_mul h.s3 (by have := h.d4; omega)
 omega
theorem put_dry {s : St} (h : Ok s) {hs : List Int} {c : Cone} {k d : Nat} (hk : k < s.shelves.length) (hd : d < s.days.toNat) (hf : (fateS s hs c ⟨k, d⟩).1 = 0) : putE s hs c ⟨k, d⟩ = 0 := by
 have hst : isStand s ⟨k, d⟩ = true := by unfold isStand inB; simp; omega
 unfold putE
 rw [if_neg (show ¬ ((k : Int) = -1) by omega), if_neg (by simp [hst]), hf]; rfl
abbrev growV (bs by_ be bo bg : Nat) : Value := .func (.func 133) #[] #[pt bs, pt by_, pt be, pt bo, pt bg]
theorem grow_sp (z : Sd) (bs be bo by_ bg : Nat) (each : Bool) (so : Nat → Bool) (yv : Value) (xs : List (List Stand)) (J : List (List Stand) → LH → Prop) (Z : LH → Prop) (F : LH)
  (hY0 : Yl X yv encPl xs (PlK z bs be bo each so) J Z) (hFy : F.cell? ⟨by_, 0, none⟩ = some yv) (hFg : F.cell? ⟨bg, 0, none⟩ = some (growV bs by_ be bo bg)) :
  ∀ (n : Nat) (bgn : List Stand) (pre post : List (List Stand)) (L : LH), bgn.length + n = z.s.cones.length → fitsS z.s z.hs bgn = true → xs = pre ++ grow (fitsS z.s z.hs) ((optsS z.s z.hs so each).drop bgn.length) bgn ++ post → Fra J F pre L →
   Sp X 133 [.agg (encP bgn).toArray, .agg (encQ (qOf z.s z.hs bgn)).toArray, .int .i64 bgn.length, pt bs, pt by_, pt be, pt bo, pt bg] L
    (fun v L' => (v = .bool true ∧ Fra J F (pre ++ grow (fitsS z.s z.hs) ((optsS z.s z.hs so each).drop bgn.length) bgn) L') ∨ (v = .bool false ∧ FraZ Z F L')) := by
 have hY := hY0.frame (fun _ _ hl h => PlK.le hl h) F
 intro n
 induction n with
 | zero =>
  intro bgn pre post L hn hf hx hJ
  have hK := hY.inv _ _ hJ
  have h := hK.1.sv.sv
  have hst := hK.1.sv.st
  have hc3 := h.ok.c3
  have hg : grow (fitsS z.s z.hs) ((optsS z.s z.hs so each).drop bgn.length) bgn = [bgn] := by
   rw [List.drop_of_length_le (by rw [opts_len]; omega)]; rfl
  rw [hg] at hx ⊢
  refine Sp.enter (n := 81) Tryz.func133 rfl rfl rfl rfl fun C hX _ hL0 r => ?_
  refine W.goP [24,39,40,61,74] 99 rfl ?_
  refine W.vf rfl rfl rfl rfl (Vf.load rfl rfl rfl (hK.1.cs)) ?_
  refine W.goP [24,39,40,61,74] 99 rfl ?_
  refine W.vf rfl rfl rfl rfl (Vf.load rfl rfl rfl (h.cell 1 rfl)) ?_
  refine W.goP [24,39,40,61,74] 99 rfl ?_
  refine W.split rfl rfl rfl (fun _ => ?_) (fun e => absurd e (by simp; omega))
  refine W.goP [24,39,40,61,74] 99 rfl ?_
  refine W.vf rfl rfl rfl rfl (Vf.load rfl rfl rfl (hK.2.cell hFy)) ?_
  refine W.goP [24,39,40,61,74] 99 rfl ?_
  refine W.vf rfl rfl rfl rfl (Vf.loadAll rfl rfl rfl rfl rfl (encP_len (by omega))) ?_
  have hy := hY.yl pre bgn post L (by rw [hx]; simp) hJ
  rw [← hX] at hy
  refine W.eff rfl rfl rfl (Ef.callS rfl rfl rfl hy) ?_
  rintro _ _ _ ⟨_, rfl, rfl, hq⟩
  refine W.goP [24,39,40,61,74] 99 rfl ?_
  refine W.ret r rfl rfl ?_
  exact hq
 | succ n ih =>
  intro bgn pre post L hn hf hx hJ
  have hK := hY.inv _ _ hJ
  have h := hK.1.sv.sv
  have hst := hK.1.sv.st
  have hc3 := h.ok.c3
  have hl : bgn.length < z.s.cones.length := by omega
  obtain ⟨c, hcc⟩ : ∃ c, z.s.cones[bgn.length]? = some c := ⟨_, List.getElem?_eq_getElem hl⟩
  have hbl : bgn.length ≤ 2 := by omega
  have child : ∀ (a : Stand) (dn rs : List Stand) (L : LH), optS z.s z.hs (so bgn.length) each c = dn ++ a :: rs → fitsS z.s z.hs (bgn ++ [a]) = true → Fra J F (pre ++ dn.flatMap fun a => if fitsS z.s z.hs (bgn ++ [a]) then grow (fitsS z.s z.hs) ((optsS z.s z.hs so each).drop (bgn.length + 1)) (bgn ++ [a]) else []) L →
    Sp X 133 [.agg (encP (bgn ++ [a])).toArray, .agg (encQ (qOf z.s z.hs (bgn ++ [a]))).toArray, .int .i64 ((bgn.length + 1 : Nat) : Int), pt bs, pt by_, pt be, pt bo, pt bg] L
     (fun v L' => (v = .bool true ∧ Fra J F (pre ++ (dn ++ [a]).flatMap fun a => if fitsS z.s z.hs (bgn ++ [a]) then grow (fitsS z.s z.hs) ((optsS z.s z.hs so each).drop (bgn.length + 1)) (bgn ++ [a]) else []) L') ∨ (v = .bool false ∧ FraZ Z F L')) := by
   intro a dn rs L ho hfa hJa
   have hlen : (bgn ++ [a]).length = bgn.length + 1 := by simp
   have := ih (bgn ++ [a]) (pre ++ dn.flatMap fun a => if fitsS z.s z.hs (bgn ++ [a]) then grow (fitsS z.s z.hs) ((optsS z.s z.hs so each).drop (bgn.length + 1)) (bgn ++ [a]) else []) (rs.flatMap (fun a => if fitsS z.s z.hs (bgn ++ [a]) then grow (fitsS z.s z.hs) ((optsS z.s z.hs so each).drop (bgn.length + 1)) (bgn ++ [a]) else []) ++ post) L (by rw [hlen]; omega) hfa
    (by rw [hx, opts_drop hcc, grow, ho, hlen, List.flatMap_append, List.flatMap_cons, if_pos hfa]; simp only [List.append_assoc]) hJa
   rw [hlen] at this
   rw [List.flatMap_append]
   simp only [List.flatMap_cons, List.flatMap_nil, List.append_nil, if_pos hfa, ← List.append_assoc]
   exact this
  rw [opts_drop hcc] at hx ⊢
  rw [grow] at hx ⊢
  generalize hG : (fun a => if fitsS z.s z.hs (bgn ++ [a]) then grow (fitsS z.s z.hs) ((optsS z.s z.hs so each).drop (bgn.length + 1)) (bgn ++ [a]) else []) = G at hx child ⊢
  clear ih
  refine Sp.enter (n := 81) Tryz.func133 rfl rfl rfl rfl fun C hX _ hL0 r => ?_
  refine W.goP [24,39,40,61,74] 99 rfl ?_
  refine W.vf rfl rfl rfl rfl (Vf.load rfl rfl rfl (hK.1.cs)) ?_
  refine W.goP [24,39,40,61,74] 99 rfl ?_
  refine W.vf rfl rfl rfl rfl (Vf.load rfl rfl rfl (h.cell 1 rfl)) ?_
  refine W.goP [24,39,40,61,74] 99 rfl ?_
  refine W.split rfl rfl rfl (fun e => absurd e (by simp; omega)) (fun _ => ?_)
  refine W.goP [24,39,40,61,74] 99 rfl ?_
  refine W.vf rfl rfl rfl rfl (Vf.idxA rfl rfl rfl rfl rfl rfl (show bgn.length < 3 by omega)) ?_
  have hle6 : 0 + bgn.length * 2 + 2 ≤ ((encP bgn).map SV.v).length := by rw [List.length_map, encP_len (by omega)]; omega
  refine W.eff0 rfl rfl (Ef.stoA rfl rfl rfl rfl rfl (by exact rfl) (by exact hle6) (by exact rfl) (by exact (putP bgn (by omega) none1))) ?_
  rintro _ _ _ ⟨rfl, rfl, rfl⟩
  refine W.goP [24,39,40,61,74] 99 rfl ?_
  have hob : ∀ o1, ((!each || !so bgn.length) = true → o1 = [none1]) → ((!each || !so bgn.length) = false → o1 = []) → optS z.s z.hs (so bgn.length) each c = o1 ++ (if so bgn.length then standsS z.s z.hs c else []) := fun o1 h1 h2 => by
   unfold optS
   cases hb : (!each || !so bgn.length)
   ·rw [h2 hb]; simp
   ·rw [h1 hb]; simp
  refine W.cut2 (fun E B L' => ∃ o1, ((!each || !so bgn.length) = true → o1 = [none1]) ∧ ((!each || !so bgn.length) = false → o1 = []) ∧ Fra J F (pre ++ o1.flatMap G) L' ∧
   SubE E [(2, .v (.int .i64 bgn.length)), (3, .v (pt bs)), (4, .v (pt by_)), (5, .v (pt be)), (6, .v (pt bo)), (7, .v (pt bg)), (8, .p 0 0), (9, .p 1 0)] ∧
   PreB B [some ⟨(encP (bgn ++ [none1])).map .v, 122⟩, some ⟨cellsS (.v (.agg (encQ (qOf z.s z.hs bgn)).toArray)), 148⟩]) ?_ ?_
  ·rintro E B L1 ⟨o1, ho1, ho2, hJ1, hE1, hB1⟩
   refine W.weak hE1 hB1 ?_ rfl (scB_v _ _ (scB_v (encQ (qOf z.s z.hs bgn)) _ rfl))
   have ho := hob o1 ho1 ho2
   have hK := hY.inv _ _ hJ1
   clear hst h
   have h := hK.1.sv.sv
   have hst := hK.1.sv.st
   refine W.goP [24,39,40,61,74] 99 rfl ?_
   refine W.vf rfl rfl rfl rfl (Vf.load rfl rfl rfl (hK.1.co)) ?_
   refine W.goP [24,39,40,61,74] 99 rfl ?_
   refine W.eff rfl rfl rfl (Ef.call rfl (has_sp _ _ (bm_lt _) (by omega) _)) ?_
   rintro _ _ _ ⟨_, rfl, rfl, rfl, rfl⟩
   refine W.goP [24,39,40,61,74] 99 rfl ?_
   refine W.split rfl rfl rfl (fun e1 => W.goP [24,39,40,61,74] 99 rfl ?_) (fun e1 => W.goP [24,39,40,61,74] 99 rfl ?_)
   ·have hso : so bgn.length = false := by rw [← bm_bit so (show bgn.length < 3 by omega)]; simpa using e1
    refine W.ret r rfl rfl ?_
    refine .inl ⟨rfl, ?_⟩
    rw [ho, hso]
    simpa using hJ1
   have hso : so bgn.length = true := by rw [← bm_bit so (show bgn.length < 3 by omega)]; simpa using e1
   rw [hso] at ho
   simp only [if_true] at ho
   obtain ⟨ad, cap, htI, hsl⟩ := hst _ c hcc
   have hct : L1.cell? ⟨z.b, 7 + bgn.length, none⟩ = some (.slice ad (standsS z.s z.hs c).length cap) := by
    refine h.cell (7 + bgn.length) ?_
    rw [← htI]
    rcases lt3 (show bgn.length < 3 by omega) with e | e | e <;> rw [e] <;> rfl
   refine W.vf rfl rfl rfl rfl (Vf.load rfl rfl rfl (hK.1.cs)) ?_
   refine W.goP [24,39,40,61,74] 99 rfl ?_
   refine W.vf rfl rfl rfl rfl (Vf.idxF rfl rfl rfl rfl rfl rfl (show bgn.length < 3 by omega)) ?_
   refine W.goP [24,39,40,61,74] 99 rfl ?_
   have hct2 : L1.cell? ((Addr.add ⟨z.b, 0, none⟩ 7).add (bgn.length * 1)) = some (.slice ad (standsS z.s z.hs c).length cap) := by rw [add_of, add_of, Nat.zero_add, Nat.mul_one]; exact hct
   refine W.vf rfl rfl rfl rfl (Vf.load rfl rfl rfl (hct2)) ?_
   refine W.goP [24,39,40,61,74] 99 rfl ?_
   clear hst hct hct2 hsl
   refine W.loop (fun m E B L' => ∃ (j : Nat) (a' : Stand), m = (standsS z.s z.hs c).length - j ∧ j ≤ (standsS z.s z.hs c).length ∧ Fra J F (pre ++ (o1 ++ (standsS z.s z.hs c).take j).flatMap G) L' ∧
    E = [(2, .v (.int .i64 bgn.length)), (3, .v (pt bs)), (4, .v (pt by_)), (5, .v (pt be)), (6, .v (pt bo)), (7, .v (pt bg)), (8, .p 0 0), (9, .p 1 0), (55, .v (.slice ad (standsS z.s z.hs c).length cap)), (56, .v (.int .i64 (standsS z.s z.hs c).length)), (57, .v (.int .i64 j))] ∧
    B = [some ⟨(encP (bgn ++ [a'])).map .v, 122⟩, some ⟨cellsS (.v (.agg (encQ (qOf z.s z.hs bgn)).toArray)), 148⟩])
    ⟨0, none1, rfl, by omega, by simpa using hJ1, rfl, rfl⟩ (by exact ⟨rfl, rfl, rfl, rfl, rfl, rfl, rfl, rfl, rfl, rfl, rfl, trivial⟩) (by exact ⟨rfl, rfl, trivial⟩) ?_ rfl (scB_v _ _ (scB_v (encQ (qOf z.s z.hs bgn)) _ rfl))
   rintro _ _ _ L2 ⟨j, a', rfl, hj, hJ2, rfl, rfl⟩ again
   have hK := hY.inv _ _ hJ2
   clear h
   have h := hK.1.sv.sv
   obtain ⟨ad', cap', e1', hsl⟩ := hK.1.sv.st _ c hcc
   rw [htI] at e1'
   cases e1'
   refine W.goP [24,39,40,61,74] 99 rfl ?_
   refine W.split rfl rfl rfl (fun d1 => W.goP [24,39,40,61,74] 99 rfl ?_) (fun d1 => W.goP [24,39,40,61,74] 99 rfl ?_)
   ·have hjl : j < (standsS z.s z.hs c).length := by simpa using d1
    obtain ⟨k, d0, hae, hk, hd0, hfa⟩ := stands_mem (List.getElem_mem hjl)
    obtain ⟨sa, rfl⟩ := hsl.addr hjl
    have htk : (standsS z.s z.hs c).take (j + 1) = (standsS z.s z.hs c).take j ++ [(standsS z.s z.hs c)[j]] := List.take_succ_eq_append_getElem hjl
    have hge := List.getElem?_eq_getElem hjl
    have hl12 := stands_len h.ok z.hs c
    rw [hae] at htk hge
    have hfd := fate_day (s := z.s) (c := c) (k := k) (d := d0) (hs := z.hs) (by have := h.hok.len; omega)
    have hqa : qUp (qOf z.s z.hs bgn) k bgn.length d0 ((fateS z.s z.hs c ⟨k, d0⟩).2 + 1).toNat = qOf z.s z.hs (bgn ++ [⟨k, d0⟩]) := qOf_add z.s z.hs bgn hcc (by omega)
    refine W.vf rfl rfl rfl rfl (Vf.idx rfl rfl rfl rfl rfl rfl (hjl)) ?_
    refine W.goP [24,39,40,61,74] 99 rfl ?_
    refine W.vf rfl rfl rfl rfl (Vf.loadN rfl rfl rfl (hsl.whole hge rfl)) ?_
    refine W.goP [24,39,40,61,74] 99 rfl ?_
    refine W.vf rfl rfl rfl rfl (Vf.loadAll rfl rfl rfl rfl rfl (encQ_len _)) ?_
    refine W.goP [24,39,40,61,74] 99 rfl ?_
    refine W.pub 14 (.inl ⟨_, rfl⟩) rfl rfl ?_
    intro bq hbq _
    have hl2 := Le.put hbq (.cells (encQ (qOf z.s z.hs bgn)).toArray 148)
    have hpq := put_same L2 bq (.cells (encQ (qOf z.s z.hs bgn)).toArray 148)
    refine W.vf rfl rfl rfl rfl (Vf.load rfl rfl rfl (hl2.cell hK.1.cs)) ?_
    refine W.goP [24,39,40,61,74] 99 rfl ?_
    refine W.callP rfl rfl rfl rfl (put_sp z.b bq z.s z.p z.ha z.hc z.hs z.t0 z.t1 z.t2 z.mv c bgn.length ⟨k, d0⟩ (qOf z.s z.hs bgn) hcc _ (h.le hl2) (hK.1.sv.gl.le hl2) hpq) ?_ ?_
    ·rintro v L3 ⟨_, rfl, hq3, hk3⟩
     have hle3 : Le L2 L3 := fun b' x hx => hk3 b' x (fun e => by subst e; rw [hbq] at hx; cases hx) (hl2 b' x hx)
     have hJ3 := hJ2.mono hle3
     have hK3 := hY.inv _ _ hJ3
     rw [if_neg (show ¬ ((k : Int) = -1) by omega)] at hq3
     simp only [Int.toNat_natCast] at hq3
     rw [hqa] at hq3
     refine W.goP [24,39,40,61,74] 99 rfl ?_
     refine W.vf rfl rfl rfl rfl (Vf.load rfl rfl rfl (hK3.1.cs)) ?_
     refine W.goP [24,39,40,61,74] 99 rfl ?_
     refine W.vf rfl rfl rfl rfl (Vf.loadN rfl rfl rfl (cellsAt_n hq3 (encQ_len _))) ?_
     refine W.goP [24,39,40,61,74] 99 rfl ?_
     have hr := room_sp (X := C.X) z.b z.s z.p z.ha z.hc z.hs z.t0 z.t1 z.t2 z.mv (qOf z.s z.hs (bgn ++ [⟨k, d0⟩])) L3 (hK3.1.sv.sv)
     refine W.eff rfl rfl rfl (Ef.call rfl (hr)) ?_
     rintro _ _ _ ⟨_, rfl, rfl, rfl, hle4⟩
     have hJ4 := hJ3.mono hle4
     have hK4 := hY.inv _ _ hJ4
     rw [roomB_fits hc3]
     refine W.goP [24,39,40,61,74] 99 rfl ?_
     refine W.split rfl rfl rfl (fun d2 => W.goP [24,39,40,61,74] 99 rfl ?_) (fun d2 => W.goP [24,39,40,61,74] 99 rfl ?_)
     ·have hfn : fitsS z.s z.hs (bgn ++ [⟨k, d0⟩]) = false := by simpa using d2
      have hGa : G ⟨k, d0⟩ = [] := by rw [← hG]; simp only [hfn, Bool.false_eq_true, if_false]
      exact W.again (again _ _ _ _ (by omega) ⟨j + 1, a', rfl, by omega, by rw [htk, ← List.append_assoc, List.flatMap_append]; simp only [List.flatMap_cons, List.flatMap_nil, hGa, List.append_nil]; exact hJ4, rfl, rfl⟩) ⟨rfl, rfl, rfl, rfl, rfl, rfl, rfl, rfl, rfl, rfl, congrArg some (inc64 (by omega)), trivial⟩ ⟨rfl, rfl, trivial⟩ rfl (scB_v _ _ (scB_v (encQ (qOf z.s z.hs bgn)) _ rfl))
     have hfy : fitsS z.s z.hs (bgn ++ [⟨k, d0⟩]) = true := by simpa using d2
     have hle6' : 0 + bgn.length * 2 + 2 ≤ ((encP (bgn ++ [a'])).map SV.v).length := by rw [List.length_map, encP_len (by simp; omega)]; omega
     refine W.vf rfl rfl rfl rfl (Vf.idxA rfl rfl rfl rfl rfl rfl (show bgn.length < 3 by omega)) ?_
     refine W.eff0 rfl rfl (Ef.stoA rfl rfl rfl rfl rfl (by exact rfl) (by exact hle6') (by exact rfl) (by exact (putP2 bgn (by omega) a' ⟨k, d0⟩))) ?_
     rintro _ _ _ ⟨rfl, rfl, rfl⟩
     refine W.goP [24,39,40,61,74] 99 rfl ?_
     refine W.vf rfl rfl rfl rfl (Vf.load rfl rfl rfl (hK4.2.cell hFg)) ?_
     refine W.goP [24,39,40,61,74] 99 rfl ?_
     refine W.vf rfl rfl rfl rfl (Vf.loadAll rfl rfl rfl rfl rfl (encP_len (by simp; omega))) ?_
     refine W.goP [24,39,40,61,74] 99 rfl ?_
     refine W.vf rfl rfl rfl rfl (Vf.loadN rfl rfl rfl (cellsAt_n (hle4 _ _ hq3) (encQ_len _))) ?_
     refine W.goP [24,39,40,61,74] 99 rfl ?_
     rw [nat1 (by omega)]
     have hch := child ⟨k, d0⟩ (o1 ++ (standsS z.s z.hs c).take j) ((standsS z.s z.hs c).drop (j + 1)) _ (by rw [hso, ho, List.append_assoc]; congr 1; rw [← hae]; exact (List.take_append_drop j _).symm.trans (by rw [List.drop_eq_getElem_cons hjl])) hfy hJ4
     rw [← hX] at hch
     refine W.eff rfl rfl rfl (Ef.callS rfl rfl rfl (Sp.toV (f1 := []) (f2 := [pt bs, pt by_, pt be, pt bo, pt bg]) hch)) ?_
     rintro _ _ _ ⟨_, rfl, rfl, hq⟩
     rcases hq with ⟨rfl, hq⟩ | ⟨rfl, hq⟩
     ·refine W.goP [24,39,40,61,74] 99 rfl ?_
      refine W.split rfl rfl rfl (fun c => absurd c (by decide)) (fun c => ?_)
      refine W.goP [24,39,40,61,74] 99 rfl ?_
      exact W.again (again _ _ _ _ (by omega) ⟨j + 1, ⟨k, d0⟩, rfl, by omega, by rw [htk, ← List.append_assoc]; exact hq, rfl, rfl⟩) ⟨rfl, rfl, rfl, rfl, rfl, rfl, rfl, rfl, rfl, rfl, congrArg some (inc64 (by omega)), trivial⟩ ⟨rfl, rfl, trivial⟩ rfl (scB_v _ _ (scB_v (encQ (qOf z.s z.hs bgn)) _ rfl))
     ·refine W.goP [24,39,40,61,74] 99 rfl ?_
      refine W.split rfl rfl rfl (fun c => ?_) (fun c => absurd c (by decide))
      refine W.goP [24,39,40,61,74] 99 rfl ?_
      refine W.ret r rfl rfl ?_
      exact .inr ⟨rfl, hq⟩
    ·rintro ch L3 ⟨hne, _⟩
     exact absurd (put_dry h.ok hk hd0 hfa) hne
   ·have hje : j = (standsS z.s z.hs c).length := by simp at d1; omega
    subst hje
    refine W.ret r rfl rfl ?_
    refine .inl ⟨rfl, ?_⟩
    rw [hso, ho]
    rw [List.take_length] at hJ2
    exact hJ2
  ·intro rest
   refine W.vf rfl rfl rfl rfl (Vf.load rfl rfl rfl (hK.1.ce)) ?_
   refine W.goP [24,39,40,61,74] 99 rfl ?_
   refine W.split rfl rfl rfl (fun e1 => W.goP [24,39,40,61,74] 99 rfl ?_) (fun e1 => W.goP [24,39,40,61,74] 99 rfl ?_)
   ·have he : each = false := by simpa using e1
    refine W.vf rfl rfl rfl rfl (Vf.load rfl rfl rfl (hK.2.cell hFg)) ?_
    refine W.goP [24,39,40,61,74] 99 rfl ?_
    refine W.vf rfl rfl rfl rfl (Vf.loadAll rfl rfl rfl rfl rfl (encP_len (by simp; omega))) ?_
    refine W.goP [24,39,40,61,74] 99 rfl ?_
    refine W.vf rfl rfl rfl rfl (Vf.loadAll rfl rfl rfl rfl rfl (encQ_len _)) ?_
    refine W.goP [24,39,40,61,74] 99 rfl ?_
    rw [nat1 (by omega)]
    have hch := child none1 [] (if so bgn.length then standsS z.s z.hs c else []) _ (by rw [hob [none1] (fun _ => rfl) (fun e => absurd e (by simp [*]))]; rfl) (by rw [fits_none hc3]; exact hf) (by simpa using hJ)
    rw [← hX, qOf_none] at hch
    refine W.eff rfl rfl rfl (Ef.callS rfl rfl rfl (Sp.toV (f1 := []) (f2 := [pt bs, pt by_, pt be, pt bo, pt bg]) hch)) ?_
    rintro _ _ _ ⟨_, rfl, rfl, hq⟩
    rcases hq with ⟨rfl, hq⟩ | ⟨rfl, hq⟩
    ·refine W.goP [24,39,40,61,74] 99 rfl ?_
     refine W.split rfl rfl rfl (fun c => absurd c (by decide)) (fun c => ?_)
     refine W.go 2 rfl ?_
     exact rest _ _ _ ⟨[none1], fun _ => rfl, fun e => absurd e (by simp [*]), hq, (by exact ⟨rfl, rfl, rfl, rfl, rfl, rfl, rfl, rfl, trivial⟩), (by exact ⟨rfl, rfl, trivial⟩)⟩
    ·refine W.goP [24,39,40,61,74] 99 rfl ?_
     refine W.split rfl rfl rfl (fun c => ?_) (fun c => absurd c (by decide))
     refine W.goP [24,39,40,61,74] 99 rfl ?_
     refine W.ret r rfl rfl ?_
     exact .inr ⟨rfl, hq⟩
   ·have he : each = true := by simpa using e1
    refine W.vf rfl rfl rfl rfl (Vf.load rfl rfl rfl (hK.1.co)) ?_
    refine W.goP [24,39,40,61,74] 99 rfl ?_
    refine W.eff rfl rfl rfl (Ef.call rfl (has_sp _ _ (bm_lt _) (by omega) _)) ?_
    rintro _ _ _ ⟨_, rfl, rfl, rfl, rfl⟩
    refine W.goP [24,39,40,61,74] 99 rfl ?_
    rw [bm_bit so (show bgn.length < 3 by omega)]
    refine W.split rfl rfl rfl (fun e2 => ?_) (fun e2 => ?_)
    ·refine W.goP [24,39,40,61,74] 99 rfl ?_
     have hso : so bgn.length = false := by simpa using e2
     refine W.vf rfl rfl rfl rfl (Vf.load rfl rfl rfl (hK.2.cell hFg)) ?_
     refine W.goP [24,39,40,61,74] 99 rfl ?_
     refine W.vf rfl rfl rfl rfl (Vf.loadAll rfl rfl rfl rfl rfl (encP_len (by simp; omega))) ?_
     refine W.goP [24,39,40,61,74] 99 rfl ?_
     refine W.vf rfl rfl rfl rfl (Vf.loadAll rfl rfl rfl rfl rfl (encQ_len _)) ?_
     refine W.goP [24,39,40,61,74] 99 rfl ?_
     rw [nat1 (by omega)]
     have hch := child none1 [] (if so bgn.length then standsS z.s z.hs c else []) _ (by rw [hob [none1] (fun _ => rfl) (fun e => absurd e (by simp [*]))]; rfl) (by rw [fits_none hc3]; exact hf) (by simpa using hJ)
     rw [← hX, qOf_none] at hch
     refine W.eff rfl rfl rfl (Ef.callS rfl rfl rfl (Sp.toV (f1 := []) (f2 := [pt bs, pt by_, pt be, pt bo, pt bg]) hch)) ?_
     rintro _ _ _ ⟨_, rfl, rfl, hq⟩
     rcases hq with ⟨rfl, hq⟩ | ⟨rfl, hq⟩
     ·refine W.goP [24,39,40,61,74] 99 rfl ?_
      refine W.split rfl rfl rfl (fun c => absurd c (by decide)) (fun c => ?_)
      refine W.go 2 rfl ?_
      exact rest _ _ _ ⟨[none1], fun _ => rfl, fun e => absurd e (by simp [*]), hq, (by exact ⟨rfl, rfl, rfl, rfl, rfl, rfl, rfl, rfl, trivial⟩), (by exact ⟨rfl, rfl, trivial⟩)⟩
     ·refine W.goP [24,39,40,61,74] 99 rfl ?_
      refine W.split rfl rfl rfl (fun c => ?_) (fun c => absurd c (by decide))
      refine W.goP [24,39,40,61,74] 99 rfl ?_
      refine W.ret r rfl rfl ?_
      exact .inr ⟨rfl, hq⟩
    ·have hso : so bgn.length = true := by simpa using e2
     refine W.go 11 rfl ?_
     exact rest _ _ _ ⟨[], fun e => absurd e (by simp [*]), fun _ => rfl, by simpa using hJ, (by exact ⟨rfl, rfl, rfl, rfl, rfl, rfl, rfl, rfl, trivial⟩), (by exact ⟨rfl, rfl, trivial⟩)⟩
end Go.Mz


set_option maxRecDepth 100000
namespace Go.Mz
open Go.Conc Go.Proofs
variable {X : Logic Tryz.prog}
theorem plans1_it (z : Sd) (bs be bo : Nat) (each : Bool) (so : Nat → Bool) : Iter X 132 [pt bs, pt be, pt bo] encPl (plansS z.s z.hs so each) (PlK z bs be bo each so) := by
 intro yv J Z L hY hJ
 obtain ⟨yf, yt, yc, rfl⟩ := hY.fn
 have hok := (hY.inv _ _ hJ).sv.sv.ok
 have hF := Fra.zero hJ
 refine Sp.enter (n := 11) Tryz.func132 rfl rfl rfl rfl fun C hX _ hL0 r => ?_
 refine W.goP [5] 99 rfl ?_
 refine W.pub 4 (.inl ⟨_, rfl⟩) rfl rfl ?_
 intro b4 h4 _
 refine W.goP [6] 99 rfl ?_
 refine W.pub 5 (.inl ⟨_, rfl⟩) rfl rfl ?_
 intro b5 h5 _
 have hne : b4 ≠ b5 := fun e => by subst e; rw [put_same] at h5; cases h5
 have hF1 := hF.put h4 (.cells #[.func yf yt yc] 187)
 have hF2 := hF1.put h5 (.cells #[.nilFunc] 188)
 have hF3 := hF2.set (b := b5) (by rw [put_same]; simp) (.cells #[growV bs b4 be bo b5] 188)
 refine W.go 99 rfl ?_
 refine W.eff0 rfl rfl (Ef.stoF rfl ⟨_, rfl, rfl⟩ rfl (put_same _ _ _) rfl (Nat.le_refl _) (singles rfl)) ?_
 rintro _ _ _ ⟨rfl, rfl, rfl⟩
 refine W.go 99 rfl ?_
 refine W.vf rfl rfl rfl rfl (Vf.load rfl rfl rfl (cell_of (put_same _ _ _) rfl)) ?_
 refine W.go 99 rfl ?_
 have hg := grow_sp z bs be bo b4 b5 each so (.func yf yt yc) _ J Z (((noL.put b4 (.cells #[.func yf yt yc] 187)).put b5 (.cells #[.nilFunc] 188)).put b5 (.cells #[growV bs b4 be bo b5] 188)) hY (cell_of (by rw [put_ne _ _ hne, put_ne _ _ hne]; exact put_same _ _ _) rfl) (cell_of (put_same _ _ _) rfl)
  z.s.cones.length [] [] [] _ (by simp) (fits_nil hok _) (by simp [plansS]) hF3
 rw [← hX, qOf_nil] at hg
 refine W.eff rfl rfl rfl (Ef.callS rfl rfl rfl (Sp.toV (f1 := []) (f2 := [pt bs, pt b4, pt be, pt bo, pt b5]) hg)) ?_
 rintro _ _ _ ⟨_, rfl, rfl, hq⟩
 refine W.go 99 rfl ?_
 refine W.ret0 r rfl rfl ⟨rfl, ?_⟩
 have e : [] ++ grow (fitsS z.s z.hs) ((optsS z.s z.hs so each).drop ([] : List Stand).length) [] = plansS z.s z.hs so each := by simp [plansS]
 rw [e] at hq
 rcases hq with ⟨_, hq⟩ | ⟨_, hq⟩
 ·exact .inl (hq.less (noL_le _))
 ·obtain ⟨L1, g1, g2, _⟩ := hq
  exact .inr ⟨L1, g1, g2, noL_le _⟩
theorem dries_sp (z : Sd) (so : Nat → Bool) (L : LH) (h : SvF L z) : Sp X 107 [pt z.b, .int .u8 (bm so)] L (fun v L' => v = .bool (driesS z.s z.hs so) ∧ Le L L') := by
 refine Sp.enter (n := 11) Tryz.func107 rfl rfl rfl rfl fun C hX _ hL0 r => ?_
 refine W.go 99 rfl ?_
 refine W.eff rfl rfl rfl (Ef.call rfl (plans_sp z.b so true _)) ?_
 rintro _ _ _ ⟨_, rfl, rfl, bs, be, bo, rfl, hle, k1, k2, k3⟩
 refine W.go 99 rfl ?_
 refine W.pub 5 (.inl ⟨_, rfl⟩) rfl rfl ?_
 intro bi hbi _
 rename_i L1 _
 have hplan : ∀ L', Le L1 L' → PlK z bs be bo true so L' := fun L' hl => ⟨hl.cell k1, hl.cell k2, hl.cell k3, h.le (hle.trans hl)⟩
 have hbl := put_same L1 bi (.cells #[.bool false] 4)
 refine W.iter L1 (Le.put hbi _) (fun pre L' => pre = [] ∧ L' bi = some (.cells #[.bool false] 4, true)) (fun j L' => j = .exit 0 ∧ plansS z.s z.hs so true ≠ [] ∧ L' bi = some (.cells #[.bool true] 4, true)) (plans1_it z bs be bo true so) ⟨_, rfl, rfl, rfl⟩ (by rw [r.ro]) [(8, .v (.func (.func 132) #[] #[pt bs, pt be, pt bo])), (5, .v (pt bi))] (by exact ⟨rfl, rfl, trivial⟩) rfl rfl rfl
  (fun _ _ _ hl h => ⟨h.1, hl _ _ h.2⟩) (fun _ _ _ hl h => ⟨h.1, h.2.1, hl _ _ h.2.2⟩) (fun _ L' hl _ => hplan L' hl) ⟨rfl, calm_cells hbl⟩ rfl (fun _ => rfl) ?_ ?_ ?_
 ·rintro d l pre x post L' q lb hx hl' ⟨rfl, hb⟩ hnl hnd hne g1 g2 C' c1 c2 hbeg hcont hbrk
  have hbl : bi ≠ l := fun e => by subst e; rw [g1] at hb; cases hb
  have hdb : bi ≠ d := fun e => by subst e; rw [g2] at hb; cases hb
  refine W.go 99 rfl ?_
  refine hbeg _ _ _ fun L2 r1 r2 => ?_
  refine W.go 99 rfl ?_
  refine W.eff0 rfl rfl (Ef.stoF rfl ⟨_, rfl, rfl⟩ rfl (by rw [r2 _ hbl]; exact hb) rfl (Nat.le_refl _) (singles rfl)) ?_
  rintro _ _ _ ⟨rfl, rfl, rfl⟩
  refine W.go 99 rfl ?_
  refine hbrk _ _ _ _ _ (.exit rfl) (by rw [put_ne _ _ (Ne.symm hbl)]; exact r1) (by rw [put_ne _ _ (Ne.symm hdb), r2 _ hne.symm]; exact g2) (le_put_none (fun b o ho => by rw [r2 _ (fun e => by subst e; rw [hnl] at ho; cases ho)]; exact hl' _ _ ho) hbi _) ⟨rfl, by rw [hx]; simp, calm_cells (put_same _ _ _)⟩
 ·rintro d l L' hl' - hnd ⟨hp, hb⟩ hd
  refine W.go 99 rfl ?_
  refine W.vf rfl rfl rfl rfl (Vf.load rfl rfl rfl (cell_of hb rfl)) ?_
  refine W.go 99 rfl ?_
  refine W.out (by rw [r.ro]) (.inr .ret) (WM.collected rfl hd (WM.ret r rfl rfl ⟨?_, hle.trans (le_put_none hl' hnd _)⟩))
  show _ = Value.bool (!(plansS z.s z.hs so true).isEmpty)
  rw [hp]; rfl
 ·rintro d l j L' hl' - hnd ⟨rfl, hp, hb⟩ hd
  refine W.go 99 rfl ?_
  refine W.vf rfl rfl rfl rfl (Vf.load rfl rfl rfl (cell_of hb rfl)) ?_
  refine W.go 99 rfl ?_
  refine W.out (by rw [r.ro]) (.inr .ret) (WM.collected rfl hd (WM.ret r rfl rfl ⟨?_, hle.trans (le_put_none hl' hnd _)⟩))
  show _ = Value.bool (!(plansS z.s z.hs so true).isEmpty)
  cases hh : plansS z.s z.hs so true with
  | nil => exact absurd hh hp
  | cons _ _ => rfl
end Go.Mz


set_option maxRecDepth 100000
namespace Go.Mz
open Go.Conc Go.Proofs
variable {X : Logic Tryz.prog}
def fullC (n : Nat) : Nat → Bool := fun i => decide (i < n)
theorem plans_full (s : St) (hs : List Int) (each : Bool) : plansS s hs (fullC s.cones.length) each = plansS s hs allC each := by
 unfold plansS
 congr 1
 unfold optsS
 apply List.map_congr_left
 intro x hx
 have := List.snd_lt_of_mem_zipIdx hx
 have e : fullC s.cones.length x.2 = allC x.2 := by simp [fullC, allC]; omega
 rw [e]
theorem full_sp (z : Sd) (L : LH) (h : SvF L z) : Sp X 98 [pt z.b] L (fun v L' => v = .int .u8 (bm (fullC z.s.cones.length)) ∧ L = L') := by
 have hc3 := h.sv.ok.c3
 refine Sp.enter (n := 11) Tryz.func98 rfl rfl rfl rfl fun C hX _ hL0 r => ?_
 refine W.go 99 rfl ?_
 refine W.vf rfl rfl rfl rfl (Vf.load rfl rfl rfl (h.sv.cell 1 rfl)) ?_
 refine W.go 99 rfl ?_
 refine W.ret r rfl rfl ?_
 refine ⟨?_, rfl⟩
 obtain e | e | e | e : z.s.cones.length = 0 ∨ z.s.cones.length = 1 ∨ z.s.cones.length = 2 ∨ z.s.cones.length = 3 := by omega
 all_goals rw [e]; rfl
theorem slP {L : LH} {b : Nat} {l : List Stand} {t : TypeId} (h : L b = some (.cells (encP l).toArray t, true)) : SlAt L (some ⟨b, 0, none⟩) 2 encSt l := fun i x hx => ⟨_, rfl, fun j v hv => by
 rw [add_of, Nat.zero_add]
 refine cell_of h ?_
 rw [List.getElem?_toArray]
 unfold encP padP
 rw [List.flatMap_append]
 have := flat_get encSt_len hx hv
 rw [List.getElem?_append_left (List.getElem?_eq_some_iff.1 this).1]
 exact this⟩
theorem planL_sp (z : Sd) (l : List Stand) (L : LH) (h : SvF L z) (hl : l.length = z.s.cones.length) : Sp X 101 [pt z.b, .agg (encP l).toArray] L (fun v L' => NewSl L 2 encSt l v L') := by
 have hc3 := h.sv.ok.c3
 refine Sp.enter (n := 13) Tryz.func101 rfl rfl rfl rfl fun C hX _ hL0 r => ?_
 refine W.goP [4] 99 rfl ?_
 refine W.pub (x := ⟨(encP l).map .v, 122⟩) 3 (.inl ⟨_, rfl⟩) rfl (denL_map_v _ _) ?_
 intro b3 hb3 _
 refine W.go 99 rfl ?_
 have hle := Le.put hb3 (.cells (encP l).toArray 122)
 have hb := put_same L b3 (.cells (encP l).toArray 122)
 refine W.vf rfl rfl rfl rfl (Vf.load rfl rfl rfl ((h.le hle).sv.cell 1 rfl)) ?_
 refine W.go 99 rfl ?_
 refine W.vf rfl rfl rfl rfl (Vf.sliceA rfl rfl Tryz.underlying122 size30 (show z.s.cones.length ≤ 3 by omega) (by decide)) ?_
 refine W.go 99 rfl ?_
 rw [← hl]
 have hsl : SlAt (L.put b3 (.cells (encP l).toArray 122)) (some ⟨b3, 0, none⟩) 2 encSt l := slP hb
 have hr := CloneSt_sp (X := C.X) (some ⟨b3, 0, none⟩) 3 l _ hsl (by omega)
 refine W.eff rfl rfl rfl (Ef.call rfl (hr)) ?_
 rintro _ _ _ ⟨_, rfl, rfl, ad, cap, rfl, hle2, hs2, hcap⟩
 refine W.go 99 rfl ?_
 refine W.ret r rfl rfl ?_
 exact ⟨ad, cap, rfl, hle.trans hle2, hs2, hcap⟩
theorem take_raw (b : Nat) (y0 y1 y2 y3 y4 y5 m0 x0 x1 x2 x3 x4 x5 m : Int) (any : Bool) (L : LH) (h : L b = some (.cells #[.int .i64 y0, .int .i64 y1, .int .i64 y2, .int .i64 y3, .int .i64 y4, .int .i64 y5, .int .i64 m0, .bool any] 124, true)) :
  Sp X 99 [pt b, .agg #[.int .i64 x0, .int .i64 x1, .int .i64 x2, .int .i64 x3, .int .i64 x4, .int .i64 x5], .int .i64 m] L (fun v L' => v = .tuple #[] ∧ (∀ b', b' ≠ b → L' b' = L b') ∧
   L' b = some (.cells (if !any || decide (m < m0) then #[.int .i64 x0, .int .i64 x1, .int .i64 x2, .int .i64 x3, .int .i64 x4, .int .i64 x5, .int .i64 m, .bool true] else #[.int .i64 y0, .int .i64 y1, .int .i64 y2, .int .i64 y3, .int .i64 y4, .int .i64 y5, .int .i64 m0, .bool any]) 124, true)) := by
 cases any with
 | false =>
  refine Sp.enter (n := 30) Tryz.func99 rfl rfl rfl rfl fun C hX _ hL0 r => ?_
  refine W.go 99 rfl ?_
  refine W.vf rfl rfl rfl rfl (Vf.load rfl rfl rfl (cell_of h rfl)) ?_
  refine W.go 99 rfl ?_
  refine W.split rfl rfl rfl (fun c => ?_) (fun c => absurd c (by decide))
  refine W.go 99 rfl ?_
  refine W.eff0 rfl rfl (Ef.stoL rfl ⟨_, rfl, rfl⟩ rfl h rfl rfl rfl rfl rfl) ?_
  rintro _ _ _ ⟨rfl, rfl, rfl⟩
  refine W.go 99 rfl ?_
  refine W.eff0 rfl rfl (Ef.stoL rfl ⟨_, rfl, rfl⟩ rfl (put_same _ _ _) rfl rfl rfl rfl rfl) ?_
  rintro _ _ _ ⟨rfl, rfl, rfl⟩
  refine W.go 99 rfl ?_
  refine W.eff0 rfl rfl (Ef.stoL rfl ⟨_, rfl, rfl⟩ rfl (put_same _ _ _) rfl rfl rfl rfl rfl) ?_
  rintro _ _ _ ⟨rfl, rfl, rfl⟩
  refine W.go 99 rfl ?_
  refine W.ret0 r rfl rfl ?_
  exact ⟨rfl, fun b' hb' => by rw [put_ne _ _ hb', put_ne _ _ hb', put_ne _ _ hb'], put_same _ _ _⟩
 | true =>
  refine Sp.enter (n := 30) Tryz.func99 rfl rfl rfl rfl fun C hX _ hL0 r => ?_
  refine W.go 99 rfl ?_
  refine W.vf rfl rfl rfl rfl (Vf.load rfl rfl rfl (cell_of h rfl)) ?_
  refine W.go 99 rfl ?_
  refine W.split rfl rfl rfl (fun c => absurd c (by decide)) (fun c => ?_)
  refine W.go 99 rfl ?_
  refine W.vf rfl rfl rfl rfl (Vf.load rfl rfl rfl (cell_of h rfl)) ?_
  refine W.go 99 rfl ?_
  refine W.split rfl rfl rfl (fun e1 => W.go 99 rfl ?_) (fun e1 => W.go 99 rfl ?_)
  ·refine W.eff0 rfl rfl (Ef.stoL rfl ⟨_, rfl, rfl⟩ rfl h rfl rfl rfl rfl rfl) ?_
   rintro _ _ _ ⟨rfl, rfl, rfl⟩
   refine W.go 99 rfl ?_
   refine W.eff0 rfl rfl (Ef.stoL rfl ⟨_, rfl, rfl⟩ rfl (put_same _ _ _) rfl rfl rfl rfl rfl) ?_
   rintro _ _ _ ⟨rfl, rfl, rfl⟩
   refine W.go 99 rfl ?_
   refine W.eff0 rfl rfl (Ef.stoL rfl ⟨_, rfl, rfl⟩ rfl (put_same _ _ _) rfl rfl rfl rfl rfl) ?_
   rintro _ _ _ ⟨rfl, rfl, rfl⟩
   refine W.go 99 rfl ?_
   refine W.ret0 r rfl rfl ?_
   refine ⟨rfl, fun b' hb' => by rw [put_ne _ _ hb', put_ne _ _ hb', put_ne _ _ hb'], ?_⟩
   rw [if_pos (by simpa using e1)]
   exact put_same _ _ _
  ·refine W.ret0 r rfl rfl ?_
   refine ⟨rfl, fun b' hb' => rfl, ?_⟩
   rw [if_neg (by simpa using e1)]
   exact h
theorem tell1_sp (d : Int) (L : LH) : Sp X 196 [.agg #[.int .i64 d]] L (fun v L' => v = .tuple #[.int .i64 1, .int .i64 d] ∧ L' = L) := by
 refine Sp.enter (n := 6) Tryz.func196 rfl rfl rfl rfl fun C hX _ hL0 r => ?_
 refine W.go 99 rfl ?_
 refine W.drawn (by kernel_rfl) _ (Le.refl _) ?_
 refine DD.run' [0, 1, 2, 3] rfl ?_
 refine .fin rfl ?_
 refine W.go 99 rfl ?_
 exact W.ret r rfl rfl ⟨rfl, rfl⟩
theorem tell0_sp (d : Int) (L : LH) : Sp X 197 [.agg #[.int .i64 d]] L (fun v L' => v = .tuple #[.int .i64 0, .int .i64 d] ∧ L' = L) := by
 refine Sp.enter (n := 6) Tryz.func197 rfl rfl rfl rfl fun C hX _ hL0 r => ?_
 refine W.go 99 rfl ?_
 refine W.drawn (by kernel_rfl) _ (Le.refl _) ?_
 refine DD.run' [0, 1, 2, 3] rfl ?_
 refine .fin rfl ?_
 refine W.go 99 rfl ?_
 exact W.ret r rfl rfl ⟨rfl, rfl⟩
theorem tell2_sp (d : Int) (L : LH) : Sp X 198 [.agg #[.int .i64 d]] L (fun v L' => v = .tuple #[.int .i64 2, .int .i64 d] ∧ L' = L) := by
 refine Sp.enter (n := 6) Tryz.func198 rfl rfl rfl rfl fun C hX _ hL0 r => ?_
 refine W.go 99 rfl ?_
 refine W.drawn (by kernel_rfl) _ (Le.refl _) ?_
 refine DD.run' [0, 1, 2, 3] rfl ?_
 refine .fin rfl ?_
 refine W.go 99 rfl ?_
 exact W.ret r rfl rfl ⟨rfl, rfl⟩
theorem tell_ef {C : Cx Tryz.prog} {E : Look} {B : List (Option Bx)} {L : LH} {dst : Option Tmp} {ty : TypeId} {pos : String} {af : Array Edge} {gd : Option (Nat × Bool)} {y : Operand} {ts : Array TypeId} (x : Int × Int) (h0 : 0 ≤ x.1) (h2 : x.1 ≤ 2) (hx : evS E y = some (.v (endV x))) :
  Ef C ⟨dst, .call { callee := .invoke y "muscovado/stove.tell", args := #[], argTypes := ts }, ty, pos, af, gd⟩ E B L (CallQ B fun v L' => v = .tuple #[.int .i64 x.1, .int .i64 x.2] ∧ L' = L) := by
 obtain ⟨x1, d⟩ := x
 simp only at h0 h2 hx ⊢
 obtain rfl | rfl | rfl : x1 = 0 ∨ x1 = 1 ∨ x1 = 2 := by omega
 ·exact Ef.inv hx rfl rfl (fun Q H R => by kernel_rfl) (.inl (tell0_sp d L))
 ·exact Ef.inv hx rfl rfl (fun Q H R => by kernel_rfl) (.inl (tell1_sp d L))
 ·exact Ef.inv hx rfl rfl (fun Q H R => by kernel_rfl) (.inl (tell2_sp d L))
def lastP (s : St) (hs : List Int) (l : List (Cone × Stand)) : Int := l.foldl (fun n x => max n (fateS s hs x.1 x.2).2) (-1)
theorem lastP_add (s : St) (hs : List Int) (l : List (Cone × Stand)) (x : Cone × Stand) : lastP s hs (l ++ [x]) = max (lastP s hs l) (fateS s hs x.1 x.2).2 := by simp [lastP]
theorem max_if (a b : Int) : (if b > a then b else a) = max a b := by omega
theorem done_sp (z : Sd) (l : List Stand) (L : LH) (h : SvF L z) (hl : l.length = z.s.cones.length) (hst : ∀ (i : Nat) c a, z.s.cones[i]? = some c → l[i]? = some a → a ∈ standsS z.s z.hs c) : Sp X 104 [pt z.b, .agg (encP l).toArray] L (fun v L' => v = .int .i64 (lastS z.s z.hs l) ∧ Le L L') := by
 have hc3 := h.sv.ok.c3
 refine Sp.enter (n := 32) Tryz.func104 rfl rfl rfl rfl fun C hX _ hL0 r => ?_
 refine W.goP [4] 99 rfl ?_
 refine W.pub (x := ⟨(encP l).map .v, 122⟩) 3 (.inl ⟨_, rfl⟩) rfl (denL_map_v _ _) ?_
 intro b3 hb3 _
 refine W.go 99 rfl ?_
 have hle := Le.put hb3 (.cells (encP l).toArray 122)
 have hb := put_same L b3 (.cells (encP l).toArray 122)
 refine W.vf rfl rfl rfl rfl (Vf.loadN rfl rfl rfl (cellsAt_n hb (encP_len (by omega)))) ?_
 refine W.go 99 rfl ?_
 have hr := planL_sp (X := C.X) z l _ (h.le hle) hl
 refine W.eff rfl rfl rfl (Ef.call rfl (hr)) ?_
 rintro _ _ _ ⟨_, rfl, rfl, ad, cap, rfl, hle2, hs2, hcap⟩
 refine W.go 99 rfl ?_
 rename_i L2
 have hz : (z.s.cones.zip l).length = l.length := by rw [List.length_zip]; omega
 refine W.loop (fun m E B L' => ∃ (j : Nat), m = l.length - j ∧ j ≤ l.length ∧ Le L2 L' ∧
   E = [(0, .v (pt z.b)), (5, .v (.int .i64 (lastP z.s z.hs ((z.s.cones.zip l).take j)))), (12, .v (.slice ad l.length cap)), (13, .v (.int .i64 l.length)), (14, .v (.int .i64 j))] ∧ B = [])
  ⟨0, rfl, by omega, Le.refl _, rfl, rfl⟩ (by exact ⟨rfl, rfl, rfl, rfl, rfl, trivial⟩) trivial ?_
 rintro _ _ _ L3 ⟨j, rfl, hj, hle3, rfl, rfl⟩ again
 refine W.go 99 rfl ?_
 refine W.split rfl rfl rfl (fun e1 => W.go 99 rfl ?_) (fun e1 => W.go 99 rfl ?_)
 ·have hjl : j < l.length := by simpa using e1
  have hjc : j < z.s.cones.length := by omega
  obtain ⟨k, d0, hae, hk, hd0, hfa⟩ := stands_mem (hst j _ _ (List.getElem?_eq_getElem hjc) (List.getElem?_eq_getElem hjl))
  have hge := List.getElem?_eq_getElem hjl
  rw [hae] at hge
  have hs3 := hs2.le hle3
  obtain ⟨sa, rfl⟩ := hs3.addr hjl
  have h3 := h.le (hle.trans (hle2.trans hle3))
  have hlen := h.sv.hok.len
  have hd4 := h.sv.ok.d4
  have hfd := fate_day (s := z.s) (c := z.s.cones[j]) (k := k) (d := d0) (hs := z.hs) (by omega)
  have hfe := fate_ends (s := z.s) (hs := z.hs) (c := z.s.cones[j]) (k := k) (d := d0)
  have htk : (z.s.cones.zip l).take (j + 1) = (z.s.cones.zip l).take j ++ [(z.s.cones[j], ⟨k, d0⟩)] := by
   rw [List.take_succ_eq_append_getElem (by omega)]
   congr 2
   rw [List.getElem_zip, hae]
  refine W.vf rfl rfl rfl rfl (Vf.idx rfl rfl rfl rfl rfl rfl (hjl)) ?_
  refine W.go 99 rfl ?_
  refine W.vf rfl rfl rfl rfl (Vf.loadN rfl rfl rfl (hs3.whole hge rfl)) ?_
  refine W.go 99 rfl ?_
  refine W.eff rfl rfl rfl (Ef.call rfl (fate_sp z.b z.s z.p z.ha z.hc z.hs z.t0 z.t1 z.t2 z.mv _ _ j k d0 (by omega) (List.getElem?_eq_getElem hjc) (List.getElem?_eq_getElem hk) L3 h3.sv h3.gl)) ?_
  rintro _ _ _ ⟨_, rfl, rfl, rfl, hle4⟩
  refine W.go 99 rfl ?_
  refine W.eff rfl rfl rfl (tell_ef (fateS z.s z.hs z.s.cones[j] ⟨k, d0⟩) hfe.1 hfe.2 rfl) ?_
  rintro _ _ _ ⟨_, rfl, rfl, rfl, rfl⟩
  refine W.go 99 rfl ?_
  refine W.again (again _ _ _ _ (by omega) ⟨j + 1, rfl, by omega, hle3.trans hle4, rfl, rfl⟩) ⟨rfl, ?_, rfl, rfl, congrArg some (inc64 (by omega)), trivial⟩ trivial
  rw [htk, lastP_add, ← max_if]
  rfl
 ·have hje : j = l.length := by simp at e1; omega
  refine W.ret r rfl rfl ?_
  refine ⟨?_, hle.trans (hle2.trans hle3)⟩
  rw [hje, ← hz, List.take_length]; rfl
end Go.Mz


set_option maxRecDepth 100000
namespace Go.Mz
open Go.Conc Go.Proofs
variable {X : Logic Tryz.prog}
def intsP (l : List Stand) : List Int := (padP l).flatMap fun a => [a.shelf, a.day]
theorem encP_ints (l : List Stand) : Value.agg (encP l).toArray = intsV (intsP l) := by
 unfold intsV intsP encP
 rw [List.map_flatMap]
 rfl
theorem pad3 {l : List Stand} (h : l.length ≤ 3) : ∃ a b c : Stand, padP l = [a, b, c] := by
 have e : (padP l).length = 3 := by unfold padP; rw [List.length_append, List.length_replicate]; omega
 match hh : padP l, e with
 | [a, b, c], _ => exact ⟨a, b, c, rfl⟩
theorem pad_inj {l m : List Stand} (h : l.length = m.length) (he : padP l = padP m) : l = m := by
 unfold padP at he
 exact (List.append_inj he h).1
theorem eqP {p q : List Stand} (hp : p.length ≤ 3) (hq : q.length = p.length) (n : Nat) (Q : Bool → LH → Prop) (H : Value → LH → Prop) (R : LH) : wpS Tryz.prog Q H (Op.equalIn (n + 3) 122 (intsV (intsP p)) (intsV (intsP q))) R = Q (decide (p = q)) R := by
 obtain ⟨a, b, c, e1⟩ := pad3 hp
 obtain ⟨a', b', c', e2⟩ := pad3 (l := q) (by omega)
 unfold intsP
 rw [e1, e2]
 show wpS Tryz.prog Q H (Op.equalIn (n + 3) 122 (intsV [a.shelf, a.day, b.shelf, b.day, c.shelf, c.day]) (intsV [a'.shelf, a'.day, b'.shelf, b'.day, c'.shelf, c'.day])) R = _
 rw [eq122]
 congr 1
 have key : p = q ↔ (a = a' ∧ b = b' ∧ c = c') := by
  constructor
  ·rintro rfl; rw [e1] at e2; simpa using e2
  ·rintro ⟨rfl, rfl, rfl⟩; exact pad_inj hq.symm (by rw [e1, e2])
 rw [Bool.eq_iff_iff]
 simp only [Bool.and_eq_true, beq_iff_eq, decide_eq_true_eq, key]
 obtain ⟨a1, a2⟩ := a; obtain ⟨b1, b2⟩ := b; obtain ⟨c1, c2⟩ := c
 obtain ⟨a1', a2'⟩ := a'; obtain ⟨b1', b2'⟩ := b'; obtain ⟨c1', c2'⟩ := c'
 simp
theorem keyP {p : List Stand} (hp : p.length ≤ 3) (em : Bool) (Q : Unit → LH → Prop) (H : Value → LH → Prop) (R : LH) : wpS Tryz.prog Q H (Instr.checkKey em 10000 122 (.agg (encP p).toArray)) R = Q () R := by
 obtain ⟨a, b, c, e1⟩ := pad3 hp
 rw [encP_ints]
 unfold intsP
 rw [e1]
 exact key122 (a := a.shelf) (b := a.day) (c := b.shelf) (d := b.day) (e := c.shelf) (f := c.day) em Q H R
def MemoOk (n : Nat) (es : Array MapEntry) : Prop := ∀ e ∈ es.toList, ∃ p : List Stand, p.length = n ∧ e.key = .agg (encP p).toArray ∧ e.val = .int .i64 (cnt p)
theorem memo_find {n : Nat} (hn : n ≤ 3) {q : List Stand} (hq : q.length = n) : ∀ (es : List MapEntry) (i : Nat), (∀ e ∈ es, ∃ p : List Stand, p.length = n ∧ e.key = .agg (encP p).toArray ∧ e.val = .int .i64 (cnt p)) →
  ∃ res : Option (Nat × Value), (res = none ∨ ∃ j, res = some (j, .int .i64 (cnt q))) ∧ ∀ (Q : Option (Nat × Value) → LH → Prop) (H : Value → LH → Prop) (R : LH), wpS Tryz.prog Q H (Instr.findAsking 122 (.agg (encP q).toArray) es i) R = Q res R
 | [], i, _ => ⟨none, .inl rfl, fun Q H R => rfl⟩
 | e :: es, i, h => by
  obtain ⟨p, h1, h2, h3⟩ := h e (List.mem_cons_self ..)
  by_cases hpq : q = p
  ·refine ⟨some (i, .int .i64 (cnt q)), .inr ⟨i, rfl⟩, fun Q H R => ?_⟩
   rw [Instr.findAsking, h2, encP_ints, encP_ints, wpS_bind]
   show wpS Tryz.prog _ H (Op.equalIn (9997 + 3) 122 _ _) R = _
   rw [eqP (by omega) (by omega)]
   simp only [hpq, decide_true, if_true, h3]
   rfl
  ·obtain ⟨res, r1, r2⟩ := memo_find hn hq es (i + 1) fun e he => h e (List.mem_cons_of_mem _ he)
   refine ⟨res, r1, fun Q H R => ?_⟩
   rw [← r2 Q H R, Instr.findAsking, h2, encP_ints, encP_ints, wpS_bind]
   show wpS Tryz.prog _ H (Op.equalIn (9997 + 3) 122 _ _) R = _
   rw [eqP (by omega) (by omega)]
   simp only [hpq, decide_false, Bool.false_eq_true, if_false]
theorem memo_key {n : Nat} (hn : n ≤ 3) {q : List Stand} (hq : q.length = n) {es : Array MapEntry} (h : MemoOk n es) :
  ∃ res : Option (Nat × Value), (res = none ∨ ∃ j, res = some (j, .int .i64 (cnt q))) ∧ ∀ (Q : Option (Nat × Value) → LH → Prop) (H : Value → LH → Prop) (R : LH), wpS Tryz.prog Q H (Instr.findKey 122 (.agg (encP q).toArray) es.toList) R = Q res R := by
 obtain ⟨res, r1, r2⟩ := memo_find hn hq es.toList 0 h
 refine ⟨res, r1, fun Q H R => ?_⟩
 unfold Instr.findKey
 rw [wpS_bind, wpS_underlying Tryz.underlying122]
 have hl : ∀ (es : List MapEntry) (i : Nat), (es = [] ∧ Instr.findNow (.array 3 30) (.agg (encP q).toArray) es i = some none) ∨ Instr.findNow (.array 3 30) (.agg (encP q).toArray) es i = none := fun es i => by
  cases es with
  | nil => exact .inl ⟨rfl, rfl⟩
  | cons e es => exact .inr rfl
 rcases hl es.toList 0 with ⟨e, hh⟩ | hh
 ·rw [hh]
  rw [e] at r2
  exact (r2 Q H R)
 ·rw [hh]
  exact r2 Q H R
theorem cnt_add (l : List Stand) (a : Stand) : cnt (l ++ [a]) = cnt l + if 0 ≤ a.shelf then 1 else 0 := by
 unfold cnt
 rw [List.countP_append, List.countP_singleton]
 split <;> split <;> simp_all
theorem cnt_le (l : List Stand) : 0 ≤ cnt l ∧ cnt l ≤ l.length := by
 unfold cnt
 have := List.countP_le_length (p := fun a : Stand => decide (0 ≤ a.shelf)) (l := l)
 omega
def MemoAt (L : LH) (z : Sd) : Prop := ∃ r es clk, z.mv = .map (some r) ∧ L r = some (.map es clk, true) ∧ MemoOk z.s.cones.length es
theorem cones_sp (z : Sd) (l : List Stand) (mr : Nat) (es : Array MapEntry) (clk : Nat) (L : LH) (h : SvF L z) (hl : l.length = z.s.cones.length) (hmv : z.mv = .map (some mr)) (hr : L mr = some (.map es clk, true)) (hm : MemoOk z.s.cones.length es) :
  Sp X 100 [pt z.b, .agg (encP l).toArray] L (fun v L' => v = .int .i64 (cnt l) ∧ (∀ b o, b ≠ mr → L b = some o → L' b = some o) ∧ ∃ es clk, L' mr = some (.map es clk, true) ∧ MemoOk z.s.cones.length es) := by
 have hc3 := h.sv.ok.c3
 obtain ⟨res, hres, hfind⟩ := memo_key hc3 hl hm
 refine Sp.enter (n := 45) Tryz.func100 rfl rfl rfl rfl fun C hX _ hL0 r => ?_
 refine W.goP [4] 99 rfl ?_
 refine W.pub (x := ⟨(encP l).map .v, 122⟩) 3 (.inl ⟨_, rfl⟩) rfl (denL_map_v _ _) ?_
 intro b3 hb3 _
 refine W.go 99 rfl ?_
 have hle := Le.put hb3 (.cells (encP l).toArray 122)
 have hb := put_same L b3 (.cells (encP l).toArray 122)
 refine W.drawn (by kernel_rfl) _ (Le.refl _) ?_
 refine DD.run' [0, 1, 2] rfl ?_
 have h10 : (L.put b3 (.cells (encP l).toArray 122)).cell? ⟨z.b, 10, none⟩ = some (.map (some mr)) := (h.le hle).sv.cell 10 (by rw [← hmv]; rfl)
 refine DD.vf 3 rfl rfl rfl rfl rfl (Vf.load rfl rfl rfl (h10)) ?_
 refine DD.vf 4 rfl rfl rfl rfl rfl (Vf.loadN rfl rfl rfl (cellsAt_n hb (encP_len (by omega)))) ?_
 refine DD.vf 5 rfl rfl rfl rfl rfl (Vf.lookup rfl rfl rfl Tryz.underlying140 (hle _ _ hr) zero3 (keyP (by omega)) hfind) ?_
 rcases hres with rfl | ⟨j0, rfl⟩
 ·refine DD.run' [6, 7, 8, 9, 10] rfl ?_
  refine .fin rfl ?_
  refine W.go 99 rfl ?_
  refine W.split rfl rfl rfl (fun c => absurd c (by decide)) (fun c => ?_)
  refine W.go 99 rfl ?_
  refine W.vf rfl rfl rfl rfl (Vf.load rfl rfl rfl ((h.le hle).sv.cell 1 rfl)) ?_
  refine W.go 99 rfl ?_
  refine W.vf rfl rfl rfl rfl (Vf.sliceA rfl rfl Tryz.underlying122 size30 (show z.s.cones.length ≤ 3 by omega) (by decide)) ?_
  refine W.go 99 rfl ?_
  rw [← hl]
  have hsl : SlAt (L.put b3 (.cells (encP l).toArray 122)) (some ⟨b3, 0, none⟩) 2 encSt l := slP hb
  refine W.loop (fun m E B L' => ∃ (j : Nat), m = l.length - j ∧ j ≤ l.length ∧ L' = L.put b3 (.cells (encP l).toArray 122) ∧
    E = [(0, .v (pt z.b)), (3, .v (pt b3)), (5, .v (.int .i64 (cnt (l.take j)))), (26, .v (.slice (some ⟨b3, 0, none⟩) l.length 3)), (27, .v (.int .i64 l.length)), (28, .v (.int .i64 j))] ∧ B = [])
   ⟨0, rfl, by omega, rfl, rfl, rfl⟩ (by exact ⟨rfl, rfl, rfl, rfl, rfl, rfl, trivial⟩) trivial ?_
  rintro _ _ _ _ ⟨j, rfl, hj, rfl, rfl, rfl⟩ again
  refine W.go 99 rfl ?_
  refine W.split rfl rfl rfl (fun e1 => W.go 99 rfl ?_) (fun e1 => W.go 99 rfl ?_)
  ·have hjl : j < l.length := by simpa using e1
   have hge := List.getElem?_eq_getElem hjl
   have htk : l.take (j + 1) = l.take j ++ [l[j]] := List.take_succ_eq_append_getElem hjl
   have hcj := cnt_le (l.take j)
   rw [List.length_take] at hcj
   refine W.vf rfl rfl rfl rfl (Vf.idx rfl rfl rfl rfl rfl rfl (hjl)) ?_
   refine W.go 99 rfl ?_
   refine W.vf rfl rfl rfl rfl (Vf.loadN rfl rfl rfl (hsl.whole hge rfl)) ?_
   refine W.go 99 rfl ?_
   refine W.split rfl rfl rfl (fun e2 => W.go 99 rfl ?_) (fun e2 => W.go 99 rfl ?_)
   ·refine W.again (again _ _ _ _ (by omega) ⟨j + 1, rfl, by omega, rfl, rfl, rfl⟩) ⟨rfl, rfl, congrArg some (w64 (by rw [htk, cnt_add, if_pos (by simpa using e2)]) (by rw [htk, cnt_add, if_pos (by simpa using e2)]; omega) (by rw [htk, cnt_add, if_pos (by simpa using e2)]; omega)), rfl, rfl, congrArg some (inc64 (by omega)), trivial⟩ trivial
   ·refine W.again (again _ _ _ _ (by omega) ⟨j + 1, rfl, by omega, rfl, rfl, rfl⟩) ⟨rfl, rfl, ?_, rfl, rfl, congrArg some (inc64 (by omega)), trivial⟩ trivial
    rw [htk, cnt_add, if_neg (by simpa using e2), Int.add_zero]
    rfl
  ·have hje : j = l.length := by simp at e1; omega
   subst hje
   rw [List.take_length]
   have hbr : b3 ≠ mr := fun e => by subst e; rw [hb3] at hr; cases hr
   have hzr : z.b ≠ mr := fun e => by
    obtain ⟨wr, h1⟩ := h.sv.blk
    rw [e, hr] at h1; cases h1
   refine W.drawn (by kernel_rfl) _ (but_le _ mr) ?_
   refine DD.run' [0, 1, 2] rfl ?_
   refine DD.vf 3 rfl rfl rfl rfl rfl (Vf.load rfl rfl rfl (but_cell h10 hzr)) ?_
   refine DD.vf 4 rfl rfl rfl rfl rfl (Vf.loadN rfl rfl rfl (cellsAt_n (by rw [but_get hbr]; exact hb) (encP_len (by omega)))) ?_
   refine DD.run' [5] rfl ?_
   refine DD.act 6 rfl rfl rfl rfl rfl (Ef.mapNew rfl rfl rfl rfl rfl Tryz.underlying140 (hle _ _ hr) (keyP (by omega)) hfind) ((by rintro _ _ _ ⟨rfl, rfl, rfl⟩; exact ⟨but_put, rfl, .inl rfl⟩)) ?_
   rintro _ _ _ ⟨rfl, rfl, rfl⟩
   refine .fin rfl ?_
   refine W.go 99 rfl ?_
   refine W.ret r rfl rfl ?_
   refine ⟨rfl, fun b o hne ho => by rw [put_ne _ _ hne]; exact hle _ _ ho, _, _, put_same _ _ _, ?_⟩
   intro e he
   rw [Array.toList_push] at he
   rcases List.mem_append.1 he with he | he
   ·exact hm e he
   ·rw [List.mem_singleton] at he
    subst he
    exact ⟨l, hl, rfl, rfl⟩
 ·refine DD.run' [6, 7, 8, 9, 10] rfl ?_
  refine .fin rfl ?_
  refine W.go 99 rfl ?_
  refine W.split rfl rfl rfl (fun c => ?_) (fun c => absurd c (by simp))
  refine W.go 99 rfl ?_
  refine W.ret r rfl rfl ?_
  exact ⟨rfl, fun b o _ ho => hle _ _ ho, es, clk, hle _ _ hr, hm⟩
end Go.Mz

