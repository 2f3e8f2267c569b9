/- Lemmas on which the claim leans. -/
import Derived.Test.YtfnjganjlkoehaaGreatDoorMzAs
set_option maxRecDepth 100000
namespace Go.Mz
open Go.Conc Go.Proofs
variable {X : Logic Tryz.prog}
abbrev plZ : Value := plV (0, 0, 0) (0, 0, 0) (0, 0, 0) 0
def AskQ (s : Sw) (p : Wp) (w l : List Int) (L : LH) (v : Value) (L' : LH) : Prop :=
 Le L L' ∧ ∃ (t u d : Int × Int × Int) (a : Int), (askW s w l ≠ 0 ∧ (v = .tuple #[swZ, plV t u d a, .int .i64 (askW s w l)] ∨ v = .tuple #[swA s p, plV t u d a, .int .i64 (askW s w l)])) ∨
  (askW s w l = 0 ∧ v = .tuple #[swA s p, plV t u d a, .int .i64 0] ∧ planW s (natsW w) l = ⟨l3 t, l3 u, l3 d, a⟩ ∧ PB 4000 ⟨l3 t, l3 u, l3 d, a⟩ ∧ SOk s ∧ Asc (natsW w) ∧ WnOk s (natsW w) ∧ l.length = s.loaves.length)
theorem openW_nil (s : Sw) : openW s [] [] = sawE s := by
 unfold openW
 by_cases h : sawE s = 0
 ·rw [if_neg (by simp [h])]; simp [h]
 ·rw [if_pos h]
theorem heapE_0 {l : List Int} (h : heapE l = 0) : ∀ x ∈ l, 0 ≤ x ∧ x ≤ 4 := by
 induction l with
 | nil => intro x hx; cases hx
 | cons y l ih =>
  rw [heapE] at h
  split at h
  ·cases h
  ·rename_i h1
   simp only [Bool.not_eq_true', Bool.not_eq_false, inB_iff] at h1
   intro x hx
   rcases List.mem_cons.1 hx with rfl | hx
   ·exact h1
   ·exact ih h x hx
theorem put_pad {l : List Int} {i : Nat} (hi : i < l.length) (h3 : l.length ≤ 3) {a b c : Int} (h : pad3 (l.take i) = [a, b, c]) : ∃ a' b' c', pad3 (l.take (i + 1)) = [a', b', c'] ∧
  putL [SV.v (.int .i64 a), SV.v (.int .i64 b), SV.v (.int .i64 c)] (0 + i * 1) [.v (.int .i64 l[i])] = [SV.v (.int .i64 a'), SV.v (.int .i64 b'), SV.v (.int .i64 c')] := by
 match l, i, hi, h3 with
 | [x], 0, _, _ => cases h; exact ⟨_, _, _, rfl, rfl⟩
 | [x, y], 0, _, _ => cases h; exact ⟨_, _, _, rfl, rfl⟩
 | [x, y], 1, _, _ => cases h; exact ⟨_, _, _, rfl, rfl⟩
 | [x, y, z], 0, _, _ => cases h; exact ⟨_, _, _, rfl, rfl⟩
 | [x, y, z], 1, _, _ => cases h; exact ⟨_, _, _, rfl, rfl⟩
 | [x, y, z], 2, _, _ => cases h; exact ⟨_, _, _, rfl, rfl⟩
theorem asked_sp (s : Sw) (p : Wp) (wa la : Option Addr) (wc lc : Nat) (w l : List Int) (L : LH) (h : SwAt L s p) (hn : Sm s) (hg : GlOk L) (h1 : IntsAt L wa w) (h2 : IntsAt L la l) (n1 : w.length ≤ 1000000) (n2 : l.length ≤ 1000000) :
  Sp X 106 [swA s p, .slice wa w.length wc, .slice la l.length lc] L (AskQ s p w l L) := by
 refine Sp.enter (n := 78) Tryz.func106 rfl rfl rfl rfl fun C hX _ hL0 r => ?_
 refine W.go 99 rfl ?_
 refine W.eff rfl rfl rfl (Ef.call rfl (open_sp s p none none 0 0 [] [] L h hn SlAt.empty SlAt.empty (by simp) (by simp))) ?_
 rintro _ _ _ ⟨v0, rfl, rfl, hle, hq⟩
 refine W.go 99 rfl ?_
 rename_i L1
 rw [openW_nil] at hq
 rcases hq with ⟨he, rfl⟩ | ⟨he, rfl⟩
 ·refine W.go 99 rfl ?_
  have ha : askW s w l = sawE s := by unfold askW; rw [if_pos he]
  refine W.split rfl rfl rfl (fun e1 => W.go 99 rfl ?_) (fun e1 => W.go 99 rfl ?_)
  ·refine W.ret r rfl rfl ?_
   exact ⟨hle, (0, 0, 0), (0, 0, 0), (0, 0, 0), 0, .inl ⟨by rw [ha]; exact he, .inl (by rw [ha]; rfl)⟩⟩
  ·simp at e1; exact absurd e1 he
 have hok := sawE_0 he
 refine W.go 99 rfl ?_
 refine W.split rfl rfl rfl (fun e1 => W.go 99 rfl ?_) (fun e1 => W.go 99 rfl ?_)
 ·simp at e1
 refine W.eff rfl rfl rfl (Ef.call rfl (read_sp s p wa wc w _ hok.w5 (h1.le hle) n1)) ?_
 rintro _ _ _ ⟨v0, rfl, rfl, rfl, hq⟩
 refine W.go 99 rfl ?_
 rcases hq with ⟨hr, rfl⟩ | ⟨hr, rfl⟩
 ·refine W.go 99 rfl ?_
  have ha : askW s w l = readW s w := by unfold askW; rw [if_neg (by simp [he]), if_pos hr]
  refine W.split rfl rfl rfl (fun e2 => W.go 99 rfl ?_) (fun e2 => W.go 99 rfl ?_)
  ·refine W.ret r rfl rfl ?_
   exact ⟨hle, (0, 0, 0), (0, 0, 0), (0, 0, 0), 0, .inl ⟨by rw [ha]; exact hr, .inr (by rw [ha]; rfl)⟩⟩
  ·simp at e2; exact absurd e2 hr
 obtain ⟨hasc, hwn, _⟩ := read_asc hr
 have hbm := bits5_mask hasc fun x hx => Nat.lt_of_lt_of_le (hwn x hx) hok.w5
 have hm32 := maskW_lt fun x hx => Nat.lt_of_lt_of_le (hwn x hx) hok.w5
 refine W.go 99 rfl ?_
 refine W.split rfl rfl rfl (fun e2 => W.go 99 rfl ?_) (fun e2 => W.go 99 rfl ?_)
 ·simp at e2
 refine W.eff rfl rfl rfl (Ef.call rfl (sized_sp _ _ _ _)) ?_
 rintro _ _ _ ⟨_, rfl, rfl, rfl, rfl⟩
 refine W.go 99 rfl ?_
 refine W.split rfl rfl rfl (fun e3 => W.go 99 rfl ?_) (fun e3 => W.go 99 rfl ?_)
 ·have e3' : sizedE l.length s.loaves.length s.loaves.length ≠ 0 := by simpa using e3
  have ha : askW s w l = sizedE l.length s.loaves.length s.loaves.length := by unfold askW; rw [if_neg (by simp [he]), if_neg (by simp [hr]), if_pos e3']
  refine W.ret r rfl rfl ?_
  exact ⟨hle, (0, 0, 0), (0, 0, 0), (0, 0, 0), 0, .inl ⟨by rw [ha]; exact e3', .inr (by rw [ha]; rfl)⟩⟩
 have e3' : sizedE l.length s.loaves.length s.loaves.length = 0 := by simpa using e3
 have hll : l.length = s.loaves.length := by have := sizedE_0.1 e3'; omega
 have hl3 := hok.l3
 have hbase : askW s w l = if heapE l ≠ 0 then heapE l else rightW s (planW s (natsW w) l) := by
  unfold askW; rw [if_neg (by simp [he]), if_neg (by simp [hr]), if_neg (by simp [e3'])]
 rename_i L2
 have h2' := h2.le hle
 refine W.loop (fun m E B L' => ∃ (i : Nat) (a b c : Int), m = l.length - i ∧ i ≤ l.length ∧ heapE (l.drop i) = heapE l ∧ pad3 (l.take i) = [a, b, c] ∧ L1 = L' ∧
   E = [(9, .p 3 0), (6, .p 1 0), (7, .p 2 0), (11, .v (.int .u8 (maskW (natsW w)))), (13, .p 4 0), (52, .v (.slice la l.length lc)), (53, .v (.int .i64 l.length)), (54, .v (.int .i64 i))] ∧
   B = [some ⟨cellsS (.v (swA s p)), 26⟩, some ⟨cellsS (.v swZ), 83⟩, some ⟨cellsS (.v plZ), 126⟩, some ⟨cellsS (.v (swA s p)), 83⟩, some ⟨cellsS (.v (v3 a b c)), 99⟩])
  ⟨0, 0, 0, 0, rfl, by omega, rfl, rfl, rfl, rfl, rfl⟩ (by exact ⟨rfl, rfl, rfl, rfl, rfl, rfl, rfl, rfl, trivial⟩) (by exact ⟨rfl, rfl, rfl, rfl, rfl, trivial⟩) ?_
 rintro _ _ _ _ ⟨i, a, b, c, rfl, hi, hg2, hpad, rfl, rfl, rfl⟩ again
 refine W.go 99 rfl ?_
 refine W.split rfl rfl rfl (fun d1 => W.go 99 rfl ?_) (fun d1 => W.go 99 rfl ?_)
 ·have hil : i < l.length := by simpa using d1
  obtain ⟨lad, rfl⟩ := h2'.addr hil
  rw [List.drop_eq_getElem_cons hil, heapE] at hg2
  obtain ⟨a', b', c', hp', hput⟩ := put_pad hil (by omega) hpad
  refine W.vf rfl rfl rfl rfl (Vf.idx1 rfl rfl rfl rfl rfl rfl rfl (hil)) ?_
  refine W.go 99 rfl ?_
  refine W.vf rfl rfl rfl rfl (Vf.load rfl rfl rfl (h2'.int (List.getElem?_eq_getElem hil))) ?_
  refine W.go 99 rfl ?_
  refine W.eff rfl rfl rfl (Ef.call rfl (within_sp _ _ _ _)) ?_
  rintro _ _ _ ⟨_, rfl, rfl, rfl, rfl⟩
  refine W.go 99 rfl ?_
  refine W.split rfl rfl rfl (fun d2 => W.go 99 rfl ?_) (fun d2 => W.go 99 rfl ?_)
  ·rw [if_pos (by simpa using d2)] at hg2
   have ha : askW s w l = 1 := by rw [hbase, ← hg2]; rfl
   refine W.ret r rfl rfl ?_
   exact ⟨hle, (0, 0, 0), (0, 0, 0), (0, 0, 0), 0, .inl ⟨by rw [ha]; decide, .inr (by rw [ha]; rfl)⟩⟩
  ·rw [if_neg (by simpa using d2)] at hg2
   refine W.vf rfl rfl rfl rfl (Vf.idxA rfl rfl rfl rfl rfl rfl (show i < 3 by omega)) ?_
   refine W.eff0 rfl rfl (Ef.stoA rfl rfl rfl rfl rfl (by exact rfl) (by exact (show 0 + i * 1 + 1 ≤ 3 by omega)) (by exact rfl) (by exact hput)) ?_
   rintro _ _ _ ⟨rfl, rfl, rfl⟩
   refine W.go 99 rfl ?_
   exact W.again (again _ _ _ _ (by omega) ⟨i + 1, a', b', c', rfl, by omega, hg2, hp', rfl, rfl, rfl⟩) ⟨rfl, rfl, rfl, rfl, rfl, rfl, rfl, congrArg some (inc64 (by omega)), trivial⟩ ⟨rfl, rfl, rfl, rfl, rfl, trivial⟩
 have hie : i = l.length := by simp at d1; omega
 subst hie
 rw [List.drop_length] at hg2
 rw [List.take_length] at hpad
 have hl4 := heapE_0 hg2.symm
 have hask : askW s w l = rightW s (planW s (natsW w) l) := by rw [hbase, if_neg (by rw [← hg2]; simp [heapE])]
 have hge : ∀ k, 0 ≤ l.getD k 0 ∧ l.getD k 0 ≤ 8 := fun k => by
  rw [List.getD_eq_getElem?_getD]
  cases e : l[k]? with
  | none => exact ⟨by decide, by decide⟩
  | some y => have := hl4 y (List.mem_of_getElem? e); exact ⟨this.1, by show y ≤ 8; omega⟩
 have ha := hge 0
 have hb := hge 1
 have hc := hge 2
 rw [← pad3_get, hpad] at ha hb hc
 have hpl := plan_sp (X := C.X) s p (maskW (natsW w)) a b c _ (h.le hle) hok hm32 (by rw [hbm]; exact hwn) ha hb hc
 have hwn' : WnOk s (bits5 (maskW (natsW w))) := by rw [hbm]; exact hwn
 have hPB : PB 4000 (planW s (natsW w) l) := by
  have := (planTo_PB hok hwn' (bits5_len _) hge s.loaves.length).mono (show (300 + 288 * (s.loaves.length : Int)) ≤ 4000 by omega)
  rw [hbm] at this
  exact this
 rw [hbm, ← hpad, planW_pad] at hpl
 obtain ⟨⟨t0, t1, t2, et, ht0, ht1, ht2⟩, ⟨s0, s1, s2, es, hs0, hs1, hs2⟩, ⟨d0, d1', d2, ed, hd0, hd1, hd2⟩, hqa⟩ := id hPB
 clear hbase
 generalize hPe : planW s (natsW w) l = P at *
 obtain ⟨q1, q2, q3, q4⟩ := P
 simp only at et es ed hqa
 subst et es ed
 refine W.eff rfl rfl rfl (Ef.call rfl (hpl)) ?_
 rintro _ _ _ ⟨_, rfl, rfl, rfl, hlp⟩
 change W _ _ _ _ ((71, SV.v (plV (t0, t1, t2) (s0, s1, s2) (d0, d1', d2) q4)) :: _) _ _
 refine W.go 99 rfl ?_
 rename_i L3
 refine W.weak (E' := [(6, .p 1 0), (7, .p 2 0), (9, .p 3 0), (16, .p 5 0)]) (B' := [some ⟨cellsS (.v (swA s p)), 26⟩, some ⟨cellsS (.v swZ), 83⟩, some ⟨cellsS (.v plZ), 126⟩, some ⟨cellsS (.v (swA s p)), 83⟩, some ⟨cellsS (.v (v3 a b c)), 99⟩, some ⟨cellsS (.v (plV (t0, t1, t2) (s0, s1, s2) (d0, d1', d2) q4)), 126⟩]) (by exact ⟨rfl, rfl, rfl, rfl, trivial⟩) (by exact ⟨rfl, rfl, rfl, rfl, rfl, rfl, trivial⟩) ?_
 refine W.pub 9 (.inl ⟨_, rfl⟩) rfl rfl ?_
 intro b9 hb9 _
 refine W.pub 16 (.inl ⟨_, rfl⟩) rfl rfl ?_
 intro b16 hb16 _
 have f9 := Le.put hb9 (.cells (encSw s p).toArray 83)
 have f16 := Le.put hb16 (.cells (encPl ⟨[t0, t1, t2], [s0, s1, s2], [d0, d1', d2], q4⟩).toArray 126)
 have k9 := f16 _ _ (put_same L3 b9 (.cells (encSw s p).toArray 83))
 have k16 := put_same (L3.put b9 (.cells (encSw s p).toArray 83)) b16 (.cells (encPl ⟨[t0, t1, t2], [s0, s1, s2], [d0, d1', d2], q4⟩).toArray 126)
 have hle6 := (hle.trans hlp).trans (f9.trans f16)
 clear f9 f16
 change W _ _ _ _ _ _ ((L3.put b9 (.cells (encSw s p).toArray 83)).put b16 (.cells (encPl ⟨[t0, t1, t2], [s0, s1, s2], [d0, d1', d2], q4⟩).toArray 126))
 generalize (L3.put b9 (.cells (encSw s p).toArray 83)).put b16 (.cells (encPl ⟨[t0, t1, t2], [s0, s1, s2], [d0, d1', d2], q4⟩).toArray 126) = L6 at k9 k16 hle6 ⊢
 refine W.drawn0 (by kernel_rfl) _ (Le.refl _) ?_
 refine DD.vf 0 rfl rfl rfl rfl rfl (Vf.loadN rfl rfl rfl (cellsAt_n (vs := encSw s p) k9 rfl)) ?_
 refine DD.vf 1 rfl rfl rfl rfl rfl (Vf.loadN rfl rfl rfl (cellsAt_n (vs := encPl ⟨[t0, t1, t2], [s0, s1, s2], [d0, d1', d2], q4⟩) k16 rfl)) ?_
 refine DD.vf 2 rfl rfl rfl rfl rfl (Vf.loadN rfl rfl rfl (cellsAt_n (vs := encSw s p) k9 rfl)) ?_
 refine DD.vf 3 rfl rfl rfl rfl rfl (Vf.loadN rfl rfl rfl (cellsAt_n (vs := encPl ⟨[t0, t1, t2], [s0, s1, s2], [d0, d1', d2], q4⟩) k16 rfl)) ?_
 refine DD.act 4 rfl rfl rfl rfl rfl (Ef.call rfl (right_sp s p _ L6 (h.le hle6) hok hPB)) ((by rintro _ _ _ ⟨_, rfl, rfl, rfl, hl⟩; exact ⟨hl, rfl, .inl rfl⟩)) ?_
 rintro _ _ _ ⟨_, rfl, rfl, rfl, hl7⟩
 refine DD.act 5 rfl rfl rfl rfl rfl (Ef.call rfl (errno_sp _ _ (hg.le (hle6.trans hl7)))) ((by rintro _ _ _ ⟨_, rfl, rfl, rfl, hl⟩; exact ⟨hl7.trans hl, rfl, .inl rfl⟩)) ?_
 rintro _ _ _ ⟨_, rfl, rfl, rfl, hl8⟩
 have hl68 := hl7.trans hl8
 refine DD.act 6 rfl rfl rfl rfl rfl (Ef.sto rfl) ((by rintro _ _ _ ⟨rfl, rfl, rfl⟩; exact ⟨hl68, rfl, .inl rfl⟩)) ?_
 rintro _ _ _ ⟨rfl, rfl, rfl⟩
 refine DD.act 7 rfl rfl rfl rfl rfl (Ef.sto rfl) ((by rintro _ _ _ ⟨rfl, rfl, rfl⟩; exact ⟨hl68, rfl, .inl rfl⟩)) ?_
 rintro _ _ _ ⟨rfl, rfl, rfl⟩
 refine DD.run' [8] rfl ?_
 refine .fin rfl ?_
 refine W.go 99 rfl ?_
 refine W.ret r rfl rfl ?_
 refine ⟨hle6.trans hl68, (t0, t1, t2), (s0, s1, s2), (d0, d1', d2), q4, ?_⟩
 by_cases hz : rightW s ⟨[t0, t1, t2], [s0, s1, s2], [d0, d1', d2], q4⟩ = 0
 ·exact .inr ⟨by rw [hask, hz], by rw [hz]; rfl, hPe, hPB, hok, hasc, hwn, hll⟩
 ·exact .inl ⟨by rw [hask]; exact hz, .inr (by rw [hask]; rfl)⟩
end Go.Mz


set_option maxRecDepth 100000
namespace Go.Mz
open Go.Conc Go.Proofs
variable {X : Logic Tryz.prog}
theorem nth_t {t u d : Int × Int × Int} {a : Int} {k : Nat} (hk : k < 3) : nth (cellsS (.v (plV t u d a))) (0 + 0 + k * 1) = some (.v (.int .i64 ((l3 t).getD k 0))) := by
 match k, hk with
 | 0, _ => rfl
 | 1, _ => rfl
 | 2, _ => rfl
def ListQ (x : List Int × Int × Int) (L : LH) (v : Value) (L' : LH) : Prop := ∃ ad cap, v = .tuple #[.slice ad x.1.length cap, .int .i64 x.2.1, .int .i64 x.2.2] ∧ IntsAt L' ad x.1 ∧ Le L L'
theorem Left_sp (s : Sw) (p : Wp) (wa la : Option Addr) (wc lc : Nat) (w l : List Int) (L : LH) (h : SwAt L s p) (hn : Sm s) (hg : GlOk L) (h1 : IntsAt L wa w) (h2 : IntsAt L la l) (n1 : w.length ≤ 1000000) (n2 : l.length ≤ 1000000) :
  Sp X 43 [swA s p, .slice wa w.length wc, .slice la l.length lc] L (ListQ (LeftE s w l) L) := by
 refine Sp.enter (n := 48) Tryz.func43 rfl rfl rfl rfl fun C hX _ hL0 r => ?_
 refine W.go 99 rfl ?_
 refine W.eff rfl rfl rfl (Ef.call rfl (asked_sp s p wa la wc lc w l L h hn hg h1 h2 n1 n2)) ?_
 rintro _ _ _ ⟨v0, rfl, rfl, hle, t, u, d, a, hq⟩
 rename_i L1
 rcases hq with ⟨he, hv⟩ | ⟨he, rfl, hpl, hPB, hok, _⟩
 ·have hLE : LeftE s w l = ([], 0, askW s w l) := by unfold LeftE; rw [if_pos he]
  rw [hLE] at r
  rcases hv with rfl | rfl
  ·refine W.go 99 rfl ?_
   refine W.split rfl rfl rfl (fun e1 => W.go 99 rfl ?_) (fun e1 => W.go 99 rfl ?_)
   ·refine W.ret r rfl rfl ?_
    exact ⟨none, 0, rfl, SlAt.empty, hle⟩
   ·simp at e1; exact absurd e1 he
  ·refine W.go 99 rfl ?_
   refine W.split rfl rfl rfl (fun e1 => W.go 99 rfl ?_) (fun e1 => W.go 99 rfl ?_)
   ·refine W.ret r rfl rfl ?_
    exact ⟨none, 0, rfl, SlAt.empty, hle⟩
   ·simp at e1; exact absurd e1 he
 have hLE : LeftE s w l = (stayW s ⟨l3 t, l3 u, l3 d, a⟩, leftW ⟨l3 t, l3 u, l3 d, a⟩, 0) := by unfold LeftE; rw [if_neg (by simp [he]), hpl]
 rw [hLE] at r
 have hl3 := hok.l3
 have hst := hok.st
 have hs1 := (h.le hle).st
 refine W.go 99 rfl ?_
 refine W.split rfl rfl rfl (fun e1 => W.go 99 rfl ?_) (fun e1 => W.go 99 rfl ?_)
 ·simp at e1
 refine W.loop (fun m E B L' => ∃ (i : Nat) (v : Value), m = s.stock.length - i ∧ i ≤ s.stock.length ∧ Grow L1 1 3 encI L' v ((List.range i).map fun k => s.stock.getD k 0 - (l3 t).getD k 0) ∧
   E = [(10, .p 2 0), (12, .v v), (28, .v (.slice p.sa s.stock.length p.sc)), (29, .v (.int .i64 s.stock.length)), (30, .v (.int .i64 i))] ∧ B = [some ⟨cellsS (.v (swA s p)), 26⟩, some ⟨cellsS (.v (swA s p)), 83⟩, some ⟨cellsS (.v (plV t u d a)), 126⟩])
  ⟨0, _, rfl, by omega, Grow.nil (Le.refl _), rfl, rfl⟩ (by exact ⟨rfl, rfl, rfl, rfl, rfl, trivial⟩) (by exact ⟨rfl, rfl, rfl, trivial⟩) ?_
 rintro _ _ _ L2 ⟨i, v, rfl, hi, hgr, rfl, rfl⟩ again
 refine W.go 99 rfl ?_
 refine W.split rfl rfl rfl (fun d1 => W.go 99 rfl ?_) (fun d1 => W.go 99 rfl ?_)
 ·have hil : i < s.stock.length := by simpa using d1
  have hx : s.stock[i]? = some s.stock[i] := List.getElem?_eq_getElem hil
  have hgx : s.stock.getD i 0 = s.stock[i] := by rw [List.getD_eq_getElem?_getD, hx]; rfl
  have hsr := hok.sr s.stock[i] (List.getElem_mem hil)
  have htr := hPB.t.get i
  obtain ⟨sa, hsa⟩ := hs1.addr hil
  have hs2 := hs1.le hgr.1
  obtain ⟨qa, qb, qc, qd, qe, qf⟩ := p
  obtain rfl : qb = some sa := hsa
  refine W.vf rfl rfl rfl rfl (Vf.idx1 rfl rfl rfl rfl rfl rfl rfl (hil)) ?_
  refine W.go 99 rfl ?_
  refine W.vf rfl rfl rfl rfl (Vf.load rfl rfl rfl (hs2.int hx)) ?_
  refine W.go 99 rfl ?_
  refine W.vf rfl rfl rfl rfl (Vf.idxA rfl rfl rfl rfl rfl rfl (show i < 3 by omega)) ?_
  refine W.vf rfl rfl rfl rfl (Vf.loadA rfl rfl rfl rfl (by exact nth_t (by omega))) ?_
  refine W.go 99 rfl ?_
  rw [wrap64_in (s.stock[i] - (l3 t).getD i 0) (by simp only at htr; omega) (by simp only at htr; omega)]
  refine W.eff rfl rfl rfl (Ef.grow rfl rfl rfl rfl rfl rfl rfl rfl rfl encI_len encI_sg hgr (ls := [s.stock[i] - (l3 t).getD i 0]) (.own rfl rfl rfl rfl) (by simp; omega)) ?_
  rintro _ _ _ ⟨v', rfl, rfl, hg', _⟩
  refine W.go 99 rfl ?_
  exact W.again (again _ _ _ _ (by omega) ⟨i + 1, v', rfl, by omega, by rw [List.range_succ, List.map_append, List.map_cons, List.map_nil, hgx]; exact hg', rfl, rfl⟩) ⟨rfl, rfl, rfl, rfl, congrArg some (inc64 (by omega)), trivial⟩ ⟨rfl, rfl, rfl, trivial⟩
 have hie : i = s.stock.length := by simp at d1; omega
 subst hie
 obtain ⟨⟨_, _, _, et, _⟩, ⟨_, _, _, es, hu0, hu1, hu2⟩, ⟨_, _, _, ed, hd0, hd1, hd2⟩, hqa⟩ := hPB
 cases es; cases ed
 refine W.go 99 rfl ?_
 refine W.eff rfl rfl rfl (Ef.call rfl (left_sp t u d a _ ⟨hu0, hu1, hu2⟩ ⟨hd0, hd1, hd2⟩ hqa)) ?_
 rintro _ _ _ ⟨_, rfl, rfl, rfl, hl⟩
 refine W.go 99 rfl ?_
 obtain ⟨ad, cap, rfl, hcp⟩ := hgr.slice
 have hgs := (hgr.at encI_len).2
 refine W.ret r rfl rfl ?_
 exact ⟨ad, cap, by unfold stayW; rfl, by unfold stayW; exact hgs.le hl, (hle.trans hgr.1).trans hl⟩
end Go.Mz


set_option maxRecDepth 100000
namespace Go.Mz
open Go.Conc Go.Proofs
variable {X : Logic Tryz.prog}
theorem foldBy_mem {α : Type} {lt : α → α → Bool} : ∀ (l : List α) (o : Option α) (x : α), l.foldl (takeBy lt) o = some x → x ∈ l ∨ o = some x
 | [], o, x, h => .inr h
 | y :: l, o, x, h => by
  rw [List.foldl_cons] at h
  rcases foldBy_mem l _ x h with h | h
  ·exact .inl (List.mem_cons_of_mem _ h)
  ·cases o with
   | none => cases h; exact .inl List.mem_cons_self
   | some z =>
    unfold takeBy at h
    dsimp only at h
    split at h
    ·cases h; exact .inl List.mem_cons_self
    ·exact .inr h
theorem firstBy_mem {α : Type} {lt : α → α → Bool} {l : List α} {x : α} (h : firstBy lt l = some x) : x ∈ l := by
 rcases foldBy_mem l none x h with h | h
 ·exact h
 ·cases h
theorem crushW_some {s : Sw} {w : List Nat} {c : Cr} (h : crushW s w = some c) : c.w = w ∧ c.l.length = s.stock.length := by
 have := firstBy_mem h
 obtain ⟨l, hl, rfl⟩ := List.mem_map.1 this
 exact ⟨rfl, (listsW_mem (plansW_mem hl)).1⟩
theorem l3_take {l : List Int} (h : l.length ≤ 3) : [l.getD 0 0, l.getD 1 0, l.getD 2 0].take l.length = l := by
 match l, h with
 | [], _ => rfl
 | [a], _ => rfl
 | [a, b], _ => rfl
 | [a, b, c], _ => rfl
theorem Crush_sp (s : Sw) (p : Wp) (wa : Option Addr) (wc : Nat) (w : List Int) (L : LH) (h : SwAt L s p) (hn : Sm s) (h1 : IntsAt L wa w) (n1 : w.length ≤ 1000000) :
  Sp X 33 [swA s p, .slice wa w.length wc] L (ListQ (CrushE s w) L) := by
 refine Sp.enter (n := 40) Tryz.func33 rfl rfl rfl rfl fun C hX _ hL0 r => ?_
 refine W.go 99 rfl ?_
 refine W.eff rfl rfl rfl (Ef.call rfl (open_sp s p none none 0 0 [] [] L h hn SlAt.empty SlAt.empty (by simp) (by simp))) ?_
 rintro _ _ _ ⟨v0, rfl, rfl, hle, hq⟩
 refine W.go 99 rfl ?_
 rename_i L1
 rw [openW_nil] at hq
 rcases hq with ⟨he, rfl⟩ | ⟨he, rfl⟩
 ·have hCE : CrushE s w = ([], 0, sawE s) := by unfold CrushE; rw [if_pos he]
  rw [hCE] at r
  refine W.go 99 rfl ?_
  refine W.split rfl rfl rfl (fun e1 => W.go 99 rfl ?_) (fun e1 => W.go 99 rfl ?_)
  ·refine W.ret r rfl rfl ?_
   exact ⟨none, 0, rfl, SlAt.empty, hle⟩
  ·simp at e1; exact absurd e1 he
 have hok := sawE_0 he
 refine W.go 99 rfl ?_
 refine W.split rfl rfl rfl (fun e1 => W.go 99 rfl ?_) (fun e1 => W.go 99 rfl ?_)
 ·simp at e1
 refine W.eff rfl rfl rfl (Ef.call rfl (read_sp s p wa wc w _ hok.w5 (h1.le hle) n1)) ?_
 rintro _ _ _ ⟨v0, rfl, rfl, rfl, hq⟩
 refine W.go 99 rfl ?_
 rcases hq with ⟨hr, rfl⟩ | ⟨hr, rfl⟩
 ·have hCE : CrushE s w = ([], 0, readW s w) := by unfold CrushE; rw [if_neg (by simp [he]), if_pos hr]
  rw [hCE] at r
  refine W.go 99 rfl ?_
  refine W.split rfl rfl rfl (fun e2 => W.go 99 rfl ?_) (fun e2 => W.go 99 rfl ?_)
  ·refine W.ret r rfl rfl ?_
   exact ⟨none, 0, rfl, SlAt.empty, hle⟩
  ·simp at e2; exact absurd e2 hr
 obtain ⟨hasc, hwn, _⟩ := read_asc hr
 have hbm := bits5_mask hasc fun x hx => Nat.lt_of_lt_of_le (hwn x hx) hok.w5
 have hm32 := maskW_lt fun x hx => Nat.lt_of_lt_of_le (hwn x hx) hok.w5
 have hCE : CrushE s w = crushE s (natsW w) := by unfold CrushE; rw [if_neg (by simp [he]), if_neg (by simp [hr])]
 rw [hCE] at r
 have hcr := crush_sp (X := C.X) s p (maskW (natsW w)) _ (h.le hle) hok hm32 (by rw [hbm]; exact hwn)
 rw [hbm] at hcr
 refine W.go 99 rfl ?_
 refine W.split rfl rfl rfl (fun e2 => W.go 99 rfl ?_) (fun e2 => W.go 99 rfl ?_)
 ·simp at e2
 cases ho : crushW s (natsW w) with
 | none =>
  rw [ho] at hcr
  have hc2 : crushE s (natsW w) = ([], 0, 11) := by unfold crushE; rw [ho]
  rw [hc2] at r
  refine W.eff rfl rfl rfl (Ef.call rfl (hcr)) ?_
  rintro _ _ _ ⟨_, rfl, rfl, rfl, hl⟩
  refine W.go 99 rfl ?_
  refine W.split rfl rfl rfl (fun _ => ?_) (fun z => absurd z (by simp [crV]))
  refine W.go 99 rfl ?_
  refine W.ret r rfl rfl ?_
  exact ⟨none, 0, rfl, SlAt.empty, hle.trans hl⟩
 | some c =>
  rw [ho] at hcr
  have hc2 : crushE s (natsW w) = (c.l, c.c, 0) := by unfold crushE; rw [ho]
  rw [hc2] at r
  obtain ⟨_, hcl⟩ := crushW_some ho
  have hlen : c.l.length = s.loaves.length := by rw [hcl, hok.st]
  have hl3 := hok.l3
  refine W.eff rfl rfl rfl (Ef.call rfl (hcr)) ?_
  rintro _ _ _ ⟨_, rfl, rfl, rfl, hl⟩
  refine W.go 99 rfl ?_
  rename_i L2
  refine W.split rfl rfl rfl (fun z => absurd z (by simp [crV, ofCr])) (fun _ => ?_)
  refine W.go 99 rfl ?_
  have hls := loaves_sp (X := C.X) s p (c.l.getD 0 0) (c.l.getD 1 0) (c.l.getD 2 0) L2 hl3
  rw [← hlen, l3_take (by omega)] at hls
  refine W.drawn (by kernel_rfl) _ (Le.refl _) ?_
  refine DD.run' [0, 1, 2, 4, 5] rfl ?_
  refine DD.act 3 rfl rfl rfl rfl rfl (Ef.call rfl (hls)) ((by rintro _ _ _ ⟨_, rfl, rfl, _, _, rfl, hl, _⟩; exact ⟨hl, rfl, .inl rfl⟩)) ?_
  rintro _ _ _ ⟨_, rfl, rfl, ad, cap, rfl, hl4, hsl, _⟩
  refine DD.run' [6, 7, 8] rfl ?_
  refine .fin rfl ?_
  refine W.go 99 rfl ?_
  refine W.ret r rfl rfl ?_
  exact ⟨ad, cap, rfl, hsl, (hle.trans hl).trans hl4⟩
theorem readGo_of : ∀ {w : List Nat} {n : Nat} {p : Option Int}, Asc w → (∀ i ∈ w, i < n) → (∀ q, p = some q → ∀ i ∈ w, q < (i : Int)) → readGo ((n : Int) - 1) p (natI w) = 0
 | [], n, p, _, _, _ => rfl
 | x :: w, n, p, ha, hn, hp => by
  have hx := hn x List.mem_cons_self
  have hc := List.pairwise_cons.1 ha
  show readGo ((n : Int) - 1) p ((x : Int) :: natI w) = 0
  rw [readGo, if_neg (by simp [inB]; omega), if_neg]
  ·exact readGo_of hc.2 (fun i hi => hn i (List.mem_cons_of_mem _ hi)) fun q hq i hi => by
    cases hq
    have := hc.1 i hi
    omega
  ·cases p with
   | none => simp [downB]
   | some q =>
    have := hp q rfl x List.mem_cons_self
    simp [downB]
    omega
theorem natsW_natI (w : List Nat) : natsW (natI w) = w := by
 unfold natsW natI
 rw [List.map_map]
 exact (List.map_congr_left (g := id) fun i _ => rfl).trans (List.map_id _)
theorem asc_range (n : Nat) : Asc (List.range n) := List.pairwise_lt_range
theorem CrushE_natI {s : Sw} (h : sawE s = 0) {w : List Nat} (ha : Asc w) (hw : WnOk s w) : CrushE s (natI w) = crushE s w := by
 have hr : readW s (natI w) = 0 := readGo_of ha hw fun q hq => by cases hq
 unfold CrushE
 rw [if_neg (by simp [h]), if_neg (by simp [hr]), natsW_natI]
theorem Fewest_sp (s : Sw) (p : Wp) (L : LH) (h : SwAt L s p) (hn : Sm s) : Sp X 36 [swA s p] L (ListQ (FewestE s) L) := by
 refine Sp.enter (n := 23) Tryz.func36 rfl rfl rfl rfl fun C hX _ hL0 r => ?_
 refine W.go 99 rfl ?_
 refine W.eff rfl rfl rfl (Ef.call rfl (open_sp s p none none 0 0 [] [] L h hn SlAt.empty SlAt.empty (by simp) (by simp))) ?_
 rintro _ _ _ ⟨v0, rfl, rfl, hle, hq⟩
 refine W.go 99 rfl ?_
 rename_i L1
 rw [openW_nil] at hq
 rcases hq with ⟨he, rfl⟩ | ⟨he, rfl⟩
 ·have hCE : FewestE s = ([], 0, sawE s) := by unfold FewestE; rw [if_pos he]
  rw [hCE] at r
  refine W.go 99 rfl ?_
  refine W.split rfl rfl rfl (fun e1 => W.go 99 rfl ?_) (fun e1 => W.go 99 rfl ?_)
  ·refine W.ret r rfl rfl ?_
   exact ⟨none, 0, rfl, SlAt.empty, hle⟩
  ·simp at e1; exact absurd e1 he
 have hok := sawE_0 he
 have hw5 := hok.w5
 have hm : 2 ^ s.wants.length - 1 < 32 := by
  have : 2 ^ s.wants.length ≤ 2 ^ 5 := Nat.pow_le_pow_right (by decide) hw5
  omega
 have hfb := full_bits hw5
 have hwn : WnOk s (fullW s) := fun i hi => List.mem_range.1 hi
 have hCE : FewestE s = CrushE s (natI (fullW s)) := by rw [CrushE_natI (w := fullW s) he (asc_range _) hwn]; unfold FewestE; rw [if_neg (by simp [he])]
 rw [hCE] at r
 refine W.go 99 rfl ?_
 refine W.split rfl rfl rfl (fun e1 => W.go 99 rfl ?_) (fun e1 => W.go 99 rfl ?_)
 ·simp at e1
 refine W.drawn (by kernel_rfl) _ (Le.refl _) ?_
 refine DD.run' [0, 1] rfl ?_
 refine DD.act 2 rfl rfl rfl rfl rfl (Ef.call rfl (full_sp s p L1 hw5)) (by rintro _ _ _ ⟨_, rfl, rfl, rfl, rfl⟩; exact ⟨Le.refl _, rfl, .inl rfl⟩) ?_
 rintro _ _ _ ⟨_, rfl, rfl, rfl, rfl⟩
 have hls := list_sp (X := C.X) (2 ^ s.wants.length - 1) hm L1
 rw [hfb] at hls
 refine DD.act 3 rfl rfl rfl rfl rfl (Ef.call rfl (hls)) ((by rintro _ _ _ ⟨_, rfl, rfl, _, _, rfl, hl, _⟩; exact ⟨hl, rfl, .inl rfl⟩)) ?_
 rintro _ _ _ ⟨v1, rfl, rfl, a1, c1, rfl, hl3, hsl, hcp3⟩
 rename_i L3
 refine DD.act 4 rfl rfl rfl rfl rfl (Ef.call rfl (Crush_sp s p a1 c1 (natI (fullW s)) L3 (h.le (hle.trans hl3)) hn hsl (by rw [natI_len]; simp [fullW]; omega))) ((by rintro _ _ _ ⟨_, rfl, rfl, _, _, rfl, _, hl⟩; exact ⟨hl3.trans hl, rfl, .inl rfl⟩)) ?_
 rintro _ _ _ ⟨_, rfl, rfl, ad, cap, rfl, hs5, hl5⟩
 refine DD.run' [5, 6, 7, 8, 9, 10] rfl ?_
 refine .fin rfl ?_
 refine W.go 99 rfl ?_
 refine W.ret r rfl rfl ?_
 exact ⟨ad, cap, rfl, hs5, (hle.trans hl3).trans hl5⟩
end Go.Mz


set_option maxRecDepth 100000
namespace Go.Mz
open Go.Conc Go.Proofs
variable {X : Logic Tryz.prog}
def ltBV (s : Sw) (x y : CrV) : Bool :=
 if payW s (bits5 x.w) ≠ payW s (bits5 y.w) ∨ x.n ≠ y.n then decide (payW s (bits5 y.w) < payW s (bits5 x.w)) || (decide (payW s (bits5 x.w) = payW s (bits5 y.w)) && decide (x.n < y.n)) else ltL (bits5 x.w) (bits5 y.w)
theorem best1_sp (s : Sw) (p : Wp) (bs : Nat) (x y : CrV) (L : LH) (hc : cellsAt L ⟨bs, 0, none⟩ 4 (encSw s p)) (hs : SwAt L s p) (hok : SOk s) (hx : x.w < 32) (hy : y.w < 32) (wx : WnOk s (bits5 x.w)) (wy : WnOk s (bits5 y.w)) :
  Sp X 127 [cC x, cC y, pt bs] L (fun v L' => v = .bool (ltBV s x y) ∧ Le L L') := by
 refine Sp.enter (n := 49) Tryz.func127 rfl rfl rfl rfl fun C hX _ hL0 r => ?_
 refine W.go 99 rfl ?_
 refine W.drawn (by kernel_rfl) L (Le.refl _) ?_
 refine DD.vf 0 rfl rfl rfl rfl rfl (Vf.loadN rfl rfl rfl ((by exact hc))) ?_
 refine DD.run' [1, 2] rfl ?_
 refine DD.vf 4 rfl rfl rfl rfl rfl (Vf.loadN rfl rfl rfl ((by exact hc))) ?_
 refine DD.run' [5, 6] rfl ?_
 refine DD.act 3 rfl rfl rfl rfl rfl (Ef.call rfl (pay_sp s p x.w _ hs hok hx wx)) ((by rintro _ _ _ ⟨_, rfl, rfl, rfl, hl⟩; exact ⟨hl, rfl, .inl rfl⟩)) ?_
 rintro _ _ _ ⟨_, rfl, rfl, rfl, hl1⟩
 refine DD.act 7 rfl rfl rfl rfl rfl (Ef.call rfl (pay_sp s p y.w _ (hs.le hl1) hok hy wy)) ((by rintro _ _ _ ⟨_, rfl, rfl, rfl, hl⟩; exact ⟨hl1.trans hl, rfl, .inl rfl⟩)) ?_
 rintro _ _ _ ⟨_, rfl, rfl, rfl, hl2⟩
 refine DD.run' [8, 9] rfl ?_
 refine .fin rfl ?_
 refine W.go 99 rfl ?_
 refine W.go 99 rfl ?_
 have h3 : (payW s (bits5 x.w) != payW s (bits5 y.w)) = true → payW s (bits5 x.w) ≠ payW s (bits5 y.w) := fun h => by simpa using h
 refine W.split rfl rfl rfl (fun e1 => ?_) (fun e1 => ?_)
 ·refine W.go 99 rfl ?_
  have e1 := h3 e1
  refine W.split rfl rfl rfl (fun e2 => ?_) (fun e2 => ?_)
  ·refine W.go 99 rfl ?_
   refine W.ret r rfl rfl ?_
   refine ⟨?_, hl1.trans hl2⟩
   simp at e2
   unfold ltBV
   rw [if_pos (.inl e1)]
   simp [e2, retV]
  ·refine W.go 99 rfl ?_
   refine W.split rfl rfl rfl (fun e3 => ?_) (fun e3 => ?_)
   ·simp at e3; exact absurd e3 e1
   ·refine W.go 99 rfl ?_
    refine W.ret r rfl rfl ?_
    refine ⟨?_, hl1.trans hl2⟩
    simp at e2
    unfold ltBV
    rw [if_pos (.inl e1)]
    have : ¬ payW s (bits5 y.w) < payW s (bits5 x.w) := by omega
    simp [this, e1, retV]
 refine W.go 99 rfl ?_
 simp at e1
 refine W.split rfl rfl rfl (fun e2 => ?_) (fun e2 => ?_)
 ·refine W.go 99 rfl ?_
  have e2 : x.n ≠ y.n := by simpa using e2
  refine W.split rfl rfl rfl (fun h => absurd h (by simp; omega)) (fun _ => ?_)
  refine W.go 99 rfl ?_
  refine W.split rfl rfl rfl (fun _ => ?_) (fun h => absurd h (by simp [e1]))
  refine W.go 99 rfl ?_
  refine W.ret r rfl rfl ?_
  refine ⟨?_, hl1.trans hl2⟩
  unfold ltBV
  rw [if_pos (.inr e2)]
  simp [e1, retV]
 refine W.go 99 rfl ?_
 simp at e2
 have r1 : ltBV s x y = ltL (bits5 x.w) (bits5 y.w) := by unfold ltBV; rw [if_neg (by simp [e1, e2])]
 have b1 := bits5_len x.w
 have b2 := bits5_len y.w
 have q1 := natI_len (bits5 x.w)
 have q2 := natI_len (bits5 y.w)
 refine W.drawn (by kernel_rfl) _ (Le.refl _) ?_
 refine DD.run' [0, 1, 3, 4] rfl ?_
 refine DD.act 2 rfl rfl rfl rfl rfl (Ef.call rfl (list_sp x.w hx _)) ((by rintro _ _ _ ⟨_, rfl, rfl, _, _, rfl, hl, _⟩; exact ⟨hl, rfl, .inl rfl⟩)) ?_
 rintro _ _ _ ⟨v1, rfl, rfl, a1, c1, rfl, hl3, hs1, _⟩
 refine DD.act 5 rfl rfl rfl rfl rfl (Ef.call rfl (list_sp y.w hy _)) ((by rintro _ _ _ ⟨_, rfl, rfl, _, _, rfl, hl, _⟩; exact ⟨hl3.trans hl, rfl, .inl rfl⟩)) ?_
 rintro _ _ _ ⟨v2, rfl, rfl, a2, c2, rfl, hl4, hs2, _⟩
 refine DD.act 6 rfl rfl rfl rfl rfl (Ef.call rfl (Compare_sp a1 a2 c1 c2 (natI (bits5 x.w)) (natI (bits5 y.w)) _ (hs1.le hl4) hs2 (by omega) (by omega))) ((by rintro _ _ _ ⟨_, rfl, rfl, rfl, rfl⟩; exact ⟨hl3.trans hl4, rfl, .inl rfl⟩)) ?_
 rintro _ _ _ ⟨_, rfl, rfl, rfl, rfl⟩
 refine DD.run' [7, 8] rfl ?_
 refine .fin rfl ?_
 refine W.go 99 rfl ?_
 refine W.ret r rfl rfl ?_
 refine ⟨?_, ((hl1.trans hl2).trans hl3).trans hl4⟩
 rw [r1, ← cmpL_natI]
 simp [retV]
def BstV (s : Sw) (o : Option Cr) (y : CrV) (sm : Bool) : Prop := match o with
 | none => sm = false ∧ y = zC
 | some c => sm = true ∧ ∃ m, m < 2 ^ s.wants.length ∧ crushW s (bits5 m) = some c ∧ y = ofCr m c
theorem found_some {s : Sw} {k : Nat} {c : Cr} (h : crushW s (bits5 k) = some c) : found s k = ofCr k c := by unfold found crV; rw [h]
theorem found_none {s : Sw} {k : Nat} (h : crushW s (bits5 k) = none) : (found s k).i = false := by unfold found crV; rw [h]
def firstsW (s : Sw) (k : Nat) : List (Option Cr) := (List.range k).map fun m => crushW s (bits5 m)
theorem firstsW_succ (s : Sw) (k : Nat) : firstsW s (k + 1) = firstsW s k ++ [crushW s (bits5 k)] := by unfold firstsW; rw [List.range_succ, List.map_append]; rfl
def bestU (s : Sw) (so : List Nat → Bool) (k : Nat) : Option Cr := firstBy (ltB s) (((firstsW s k).filterMap id).filter fun c => so c.w)
theorem bestU_none {s : Sw} {so : List Nat → Bool} {k : Nat} (h : crushW s (bits5 k) = none) : bestU s so (k + 1) = bestU s so k := by
 unfold bestU; rw [firstsW_succ, h, List.filterMap_append]; simp
theorem bestU_no {s : Sw} {so : List Nat → Bool} {k : Nat} {c : Cr} (h : crushW s (bits5 k) = some c) (hs : so c.w = false) : bestU s so (k + 1) = bestU s so k := by
 unfold bestU; rw [firstsW_succ, h, List.filterMap_append, List.filter_append]; simp [hs]
theorem bestU_yes {s : Sw} {so : List Nat → Bool} {k : Nat} {c : Cr} (h : crushW s (bits5 k) = some c) (hs : so c.w = true) : bestU s so (k + 1) = takeBy (ltB s) (bestU s so k) c := by
 unfold bestU; rw [firstsW_succ, h, List.filterMap_append, List.filter_append, show List.filter (fun c => so c.w) (List.filterMap id [some c]) = [c] by simp [hs], firstBy_snoc]
theorem ltBV_of {s : Sw} {a b : Cr} {m n : Nat} (ha : crushW s (bits5 m) = some a) (hb : crushW s (bits5 n) = some b) : ltBV s (ofCr m a) (ofCr n b) = ltB s a b := by
 have h1 := (crushW_some ha).1
 have h2 := (crushW_some hb).1
 unfold ltBV ltB
 rw [h1, h2]
 rfl
theorem BstV.take {s : Sw} {o : Option Cr} {y : CrV} {sm : Bool} (h : BstV s o y sm) {m : Nat} {c : Cr} (hm : m < 2 ^ s.wants.length) (hc : crushW s (bits5 m) = some c) : BstV s (takeBy (ltB s) o c) (if !sm || ltBV s (ofCr m c) y then ofCr m c else y) true := by
 cases o with
 | none =>
  obtain ⟨rfl, rfl⟩ := h
  exact ⟨rfl, m, hm, hc, rfl⟩
 | some z =>
  obtain ⟨rfl, n, hn, hz, rfl⟩ := h
  rw [ltBV_of hc hz]
  show BstV s (if ltB s c z then some c else some z) _ _
  cases ltB s c z
  ·exact ⟨rfl, n, hn, hz, rfl⟩
  ·exact ⟨rfl, m, hm, hc, rfl⟩
theorem BstV.wn {s : Sw} (hok : SOk s) {o : Option Cr} {y : CrV} {sm : Bool} (h : BstV s o y sm) : y.w < 32 ∧ WnOk s (bits5 y.w) := by
 cases o with
 | none =>
  obtain ⟨rfl, rfl⟩ := h
  exact ⟨by decide, fun i hi => by rw [show bits5 zC.w = [] from by decide] at hi; cases hi⟩
 | some z =>
  obtain ⟨rfl, n, hn, hz, rfl⟩ := h
  have := pow5 hok
  exact ⟨show n < 32 by omega, bits_wn hn⟩
end Go.Mz


set_option maxRecDepth 100000
namespace Go.Mz
open Go.Conc Go.Proofs
variable {Post : Value → World → Prop} {W0 : World}
abbrev fsF (b : Nat) : Value := .func (.func 127) #[] #[pt b]
abbrev fstV (b : Nat) (y : CrV) (sm : Bool) : Value := .agg (fsF b :: (encC y ++ [Value.bool sm])).toArray
theorem best_sp (s : Sw) (p : Wp) (so : List Nat → Bool) (fv : Value) (L : LH) (hs : SwAt L s p) (hok : SOk s) (hfn : ∃ a b c, fv = .func a b c)
  (hso : ∀ (L' : LH) (m : Nat), Dim L L' → m < 2 ^ s.wants.length → SpV (LFGo Tryz.prog Post W0) fv [.int .u8 m] L' (fun v L'' => v = .bool (so (bits5 m)) ∧ Le L' L'')) :
  Sp (LFGo Tryz.prog Post W0) 95 [swA s p, fv] L (fun v L' => ∃ gv y sm, v = fstV gv y sm ∧ BstV s (bestW s so) y sm ∧ Dim L L') := by
 obtain ⟨yf, yt, yc, rfl⟩ := hfn
 have h5 := pow5 hok
 refine Sp.enter (n := 29) Tryz.func95 rfl rfl rfl rfl fun C hX _ hL0 r => ?_
 refine W.goP [8] 99 rfl ?_
 refine W.pub 2 (.inl ⟨_, rfl⟩) rfl rfl ?_
 intro bs hbs _
 refine W.go 99 rfl ?_
 have hle0 := Le.put hbs (.cells (encSw s p).toArray 83)
 have k2 := put_same L bs (.cells (encSw s p).toArray 83)
 change W _ _ _ _ _ _ (L.put bs (.cells (encSw s p).toArray 83))
 generalize L.put bs (.cells (encSw s p).toArray 83) = L1 at k2 hle0 ⊢
 refine W.vf rfl rfl rfl rfl (Vf.loadN rfl rfl rfl ((by exact cellsAt_n (vs := encSw s p) k2 rfl))) ?_
 refine W.go 99 rfl ?_
 have hal := all_sp (Post := Post) (W0 := W0) s p L1 (hs.le hle0) hok
 rw [← hX] at hal
 refine W.eff rfl rfl rfl (Ef.call rfl (hal)) ?_
 rintro _ _ _ ⟨v0, rfl, rfl, bn, rfl, ho, hd1⟩
 rename_i L2
 have hd := (Dim.of_le hle0).trans hd1
 refine W.go 99 rfl ?_
 have c2 : cellsAt L2 ⟨bs, 0, none⟩ 4 (encSw s p) := hd1.cells (cellsAt_n (vs := encSw s p) k2 rfl)
 refine W.pub 5 (.inl ⟨_, rfl⟩) rfl rfl ?_
 intro b5 hb5 _
 have g5 := put_same L2 b5 (.cells (.func (.func 127) #[] #[pt bs] :: (encC zC ++ [.bool false])).toArray 112)
 have hl5 := Le.put hb5 (.cells (.func (.func 127) #[] #[pt bs] :: (encC zC ++ [.bool false])).toArray 112)
 have hso' : (outs s).length = 2 ^ s.wants.length := by unfold outs; simp
 refine W.loop (fun m E B L' => ∃ (k : Nat) (y : CrV) (sm : Bool), m = 2 ^ s.wants.length - k ∧ k ≤ 2 ^ s.wants.length ∧ BstV s (bestU s so k) y sm ∧ Le L2 L' ∧ L' b5 = some (.cells (.func (.func 127) #[] #[pt bs] :: (encC y ++ [Value.bool sm])).toArray 112 (0, 0), true) ∧
   E = [(1, .v (.func yf yt yc)), (4, .p 1 0), (5, .v (pt b5)), (11, .v (.slice (some ⟨bn, 0, none⟩) (2 ^ s.wants.length) (2 ^ s.wants.length))), (12, .v (.int .i64 ((2 ^ s.wants.length : Nat) : Int))), (13, .v (.int .i64 k))] ∧ B = [none, some ⟨List.map SV.v ti112.z.cells.toList, 112⟩])
  ⟨0, zC, false, rfl, by omega, ⟨rfl, rfl⟩, hl5, g5, rfl, rfl⟩ (by exact ⟨rfl, rfl, rfl, rfl, rfl, rfl, trivial⟩) (by exact ⟨rfl, rfl, trivial⟩) ?_
 rintro _ _ _ L4 ⟨k, y, sm, rfl, hk, hbe, hl4, hb, rfl, rfl⟩ again
 refine W.go 99 rfl ?_
 refine W.split rfl rfl rfl (fun e1 => W.go 99 rfl ?_) (fun e1 => W.go 99 rfl ?_)
 ·have hk2 : k < 2 ^ s.wants.length := Int.ofNat_lt.1 (of_decide_eq_true e1)
  have hgk : (outs s)[k]? = some (found s k) := by unfold outs; rw [List.getElem?_map, List.getElem?_range hk2]; rfl
  have hdL := hd.trans (Dim.of_le hl4)
  have hs4 := hdL.sw hs
  have c4 := hl4.cellsAt c2
  refine W.vf rfl rfl rfl rfl (Vf.idx rfl rfl rfl rfl rfl rfl (hk2)) ?_
  refine W.go 99 rfl ?_
  cases hc : crushW s (bits5 k) with
  | none =>
   have hfi := found_none hc
   generalize found s k = fc at *
   refine W.vf rfl rfl rfl rfl (Vf.loadN rfl rfl rfl ((ho.le hl4).whole hgk rfl)) ?_
   refine W.go 99 rfl ?_
   refine W.split rfl rfl rfl (fun h => absurd h (by rw [hfi]; simp)) (fun _ => ?_)
   refine W.go 99 rfl ?_
   exact W.again (again _ _ _ _ (by omega) ⟨k + 1, y, sm, rfl, by omega, by rw [bestU_none hc]; exact hbe, hl4, hb, rfl, rfl⟩) (by exact ⟨rfl, rfl, rfl, rfl, rfl, congrArg some (inc64 (by omega)), trivial⟩) (by exact ⟨rfl, rfl, trivial⟩)
  | some c =>
   have hcw := (crushW_some hc).1
   rw [found_some hc] at hgk
   refine W.vf rfl rfl rfl rfl (Vf.loadN rfl rfl rfl ((ho.le hl4).whole hgk rfl)) ?_
   refine W.go 99 rfl ?_
   refine W.split rfl rfl rfl (fun _ => ?_) (fun h => absurd h (by simp [ofCr]))
   refine W.go 99 rfl ?_
   have hv := hso L4 k hdL hk2
   rw [← hX] at hv
   refine W.eff rfl rfl rfl (Ef.callS rfl rfl rfl hv) ?_
   rintro _ _ _ ⟨_, rfl, rfl, rfl, hle5⟩
   rename_i L5
   have hb := hle5 _ _ hb
   refine W.go 99 rfl ?_
   refine W.split rfl rfl rfl (fun e2 => ?_) (fun e2 => ?_)
   ·refine W.go 99 rfl ?_
    have htk := take_sp (X := C.X) b5 (.func (.func 127) #[] #[pt bs]) ⟨_, _, _, rfl⟩ (ofCr k c) y sm (ltBV s (ofCr k c) y) L5 hb (fun hsm => by
     have hyw := hbe.wn hok
     refine Sp.toV (args := [cC (ofCr k c), cC y]) (f1 := []) (f2 := [pt bs]) (best1_sp s p bs (ofCr k c) y L5 (hle5.cellsAt c4) (hs4.le hle5) hok (show k < 32 by omega) hyw.1 (bits_wn hk2) hyw.2))
    refine W.eff rfl rfl rfl (Ef.call rfl (htk)) ?_
    rintro _ _ _ ⟨_, rfl, rfl, hQ⟩
    obtain ⟨rfl, hkp, hbb⟩ := hQ
    rename_i L6
    refine W.go 99 rfl ?_
    exact W.again (again _ _ _ _ (by omega) ⟨k + 1, _, true, rfl, by omega, by rw [bestU_yes hc (by rw [hcw]; exact e2)]; exact hbe.take hk2 hc, fun b z hz => hkp b z (fun e => by subst e; rw [hb5] at hz; cases hz) (hle5 _ _ (hl4 _ _ hz)), hbb, rfl, rfl⟩) (by exact ⟨rfl, rfl, rfl, rfl, rfl, congrArg some (inc64 (by omega)), trivial⟩) (by exact ⟨rfl, rfl, trivial⟩)
   ·refine W.go 99 rfl ?_
    exact W.again (again _ _ _ _ (by omega) ⟨k + 1, y, sm, rfl, by omega, by rw [bestU_no hc (by rw [hcw]; exact e2)]; exact hbe, hl4.trans hle5, hb, rfl, rfl⟩) (by exact ⟨rfl, rfl, rfl, rfl, rfl, congrArg some (inc64 (by omega)), trivial⟩) (by exact ⟨rfl, rfl, trivial⟩)
 ·have hke : k = 2 ^ s.wants.length := by
   have : ¬ (k : Int) < ((2 ^ s.wants.length : Nat) : Int) := of_decide_eq_false e1
   have := mt Int.ofNat_lt.2 this
   omega
  subst hke
  refine W.vf rfl rfl rfl rfl (Vf.loadN rfl rfl rfl ((by exact cellsAt_n (vs := .func (.func 127) #[] #[pt bs] :: (encC y ++ [Value.bool sm])) hb rfl))) ?_
  refine W.go 99 rfl ?_
  refine W.ret r rfl rfl ?_
  exact ⟨_, y, sm, rfl, hbe, hd.trans (Dim.of_le hl4)⟩
end Go.Mz


set_option maxRecDepth 100000
namespace Go.Mz
open Go.Conc Go.Proofs
section
variable {P : Program} {E : Look} {B : List (Option Bx)} {L : LH}
theorem Vf.fieldN {t : TypeId} {x : Operand} {fi n : Nat} {fs : Array Field} {fl : Field} {sx : SV} {cs ds : List Value} (hx : evS E x = some sx) (dx : den nm0 sx = some (.agg cs.toArray)) (hu : P.underlying t = some (.struct fs)) (hf : fs[fi]? = some fl) (ha : aggB P fl.type = some true) (hs : (P.info? fl.type).map (·.size) = some n) (hd : (cs.drop fl.offset).take n = ds) :
  Vf P (.field t x fi) E B L (.v (.agg ds.toArray)) := fun T R β hE _ _ => by
 have ex : ev T x = .agg cs.toArray := Option.some.inj ((hE.val hx).symm.trans (den_nil dx β))
 refine ⟨_, rfl, fun ty dst pos af gd Q H hq => ?_⟩
 simp only [execOp, ex]
 rw [wpS_bind]
 unfold Instr.field
 show wpS P _ H (underlying t >>= _) R
 rw [wpS_bind, wpS_underlying hu]
 simp only [hf]
 show wpS P _ H (Go.part fl.type cs.toArray fl.offset) R
 rw [wpS_partN ha hs]
 have e : cs.toArray.extract fl.offset (fl.offset + n) = ds.toArray := by
  rw [← hd]
  simp [List.extract_eq_take_drop]
 rw [e]
 exact hq
theorem Vf.field1 {t : TypeId} {x : Operand} {fi : Nat} {fs : Array Field} {fl : Field} {sx : SV} {cs : List Value} {v : Value} (hx : evS E x = some sx) (dx : den nm0 sx = some (.agg cs.toArray)) (hu : P.underlying t = some (.struct fs)) (hf : fs[fi]? = some fl) (ha : aggB P fl.type = some false) (hv : cs[fl.offset]? = some v) :
  Vf P (.field t x fi) E B L (.v v) := fun T R β hE _ _ => by
 have ex : ev T x = .agg cs.toArray := Option.some.inj ((hE.val hx).symm.trans (den_nil dx β))
 refine ⟨_, rfl, fun ty dst pos af gd Q H hq => ?_⟩
 simp only [execOp, ex]
 rw [wpS_bind]
 unfold Instr.field
 show wpS P _ H (underlying t >>= _) R
 rw [wpS_bind, wpS_underlying hu]
 simp only [hf]
 show wpS P _ H (Go.part fl.type cs.toArray fl.offset) R
 rw [wpS_part1 ha (v := v) (by rw [List.getElem?_toArray]; exact hv)]
 exact hq
end
variable {Post : Value → World → Prop} {W0 : World}
theorem BstV.wants {s : Sw} {o : Option Cr} {y : CrV} {sm : Bool} (h : BstV s o y sm) : bits5 y.w = crWants o := by
 cases o with
 | none => obtain ⟨rfl, rfl⟩ := h; decide
 | some z =>
  obtain ⟨rfl, n, hn, hz, rfl⟩ := h
  exact ((crushW_some hz).1).symm
theorem every_v (X : Logic Tryz.prog) (v : Value) (L : LH) : SpV X (.func (.func 96) #[] #[]) [v] L (fun v L' => v = .bool true ∧ Le L L') :=
 SpV.mono (Sp.toV (args := [v]) (f1 := []) (f2 := []) (every_sp v L)) fun v L' h => ⟨h.1, by rw [h.2]; exact Le.refl _⟩
theorem best0_sp (s : Sw) (p : Wp) (L : LH) (hs : SwAt L s p) (hok : SOk s) :
  Sp (LFGo Tryz.prog Post W0) 95 [swA s p, .func (.func 96) #[] #[]] L (fun v L' => ∃ gv y sm, v = fstV gv y sm ∧ BstV s (bestW s fun _ => true) y sm ∧ Dim L L') :=
 best_sp s p (fun _ => true) _ L hs hok ⟨_, _, _, rfl⟩ fun L' m _ _ => every_v _ _ _
def ListD (x : List Nat × Int × Int) (L : LH) (v : Value) (L' : LH) : Prop := ∃ ad cap, v = .tuple #[.slice ad x.1.length cap, .int .i64 x.2.1, .int .i64 x.2.2] ∧ IntsAt L' ad (natI x.1) ∧ Dim L L'
theorem Best_sp (s : Sw) (p : Wp) (L : LH) (h : SwAt L s p) (hn : Sm s) : Sp (LFGo Tryz.prog Post W0) 38 [swA s p] L (ListD (BestE s) L) := by
 refine Sp.enter (n := 26) Tryz.func38 rfl rfl rfl rfl fun C hX _ hL0 r => ?_
 refine W.go 99 rfl ?_
 refine W.eff rfl rfl rfl (Ef.call rfl (open_sp s p none none 0 0 [] [] L h hn SlAt.empty SlAt.empty (by simp) (by simp))) ?_
 rintro _ _ _ ⟨v0, rfl, rfl, hle, hq⟩
 refine W.go 99 rfl ?_
 rename_i L1
 rw [openW_nil] at hq
 rcases hq with ⟨he, rfl⟩ | ⟨he, rfl⟩
 ·have hCE : BestE s = ([], 0, sawE s) := by unfold BestE; rw [if_pos he]
  rw [hCE] at r
  refine W.go 99 rfl ?_
  refine W.split rfl rfl rfl (fun e1 => W.go 99 rfl ?_) (fun e1 => W.go 99 rfl ?_)
  ·refine W.ret r rfl rfl ?_
   exact ⟨none, 0, rfl, SlAt.empty, Dim.of_le hle⟩
  ·simp at e1; exact absurd e1 he
 have hok := sawE_0 he
 have hCE : BestE s = (crWants (bestW s fun _ => true), payW s (crWants (bestW s fun _ => true)), 0) := by unfold BestE; rw [if_neg (by simp [he])]
 rw [hCE] at r
 refine W.go 99 rfl ?_
 refine W.split rfl rfl rfl (fun e1 => ?_) (fun e1 => ?_)
 ·simp at e1
 refine W.weak (E' := [(5, .p 1 0), (14, .lit false)]) (B' := [some ⟨cellsS (.v (swA s p)), 26⟩, some ⟨cellsS (.v (swA s p)), 83⟩]) (by exact ⟨rfl, rfl, trivial⟩) (by exact ⟨rfl, rfl, trivial⟩) ?_
 refine W.go 99 rfl ?_
 have hb := best0_sp (Post := Post) (W0 := W0) s p L1 (h.le hle) hok
 rw [← hX] at hb
 refine W.eff rfl rfl rfl (Ef.call rfl (hb)) ?_
 rintro _ _ _ ⟨v1, rfl, rfl, gv, y, sm, rfl, hbe, hd⟩
 rename_i L2
 have hyw := hbe.wn hok
 rw [← hbe.wants] at r
 refine W.go 99 rfl ?_
 refine W.vf rfl rfl rfl rfl (Vf.fieldN (cs := fsF gv :: (encC y ++ [Value.bool sm])) (ds := encC y) rfl rfl Tryz.underlying112 rfl agg101 size101 rfl) ?_
 refine W.go 99 rfl ?_
 refine W.drawn (by kernel_rfl) _ (Le.refl _) ?_
 refine DD.run' [0, 1, 3, 4, 5] rfl ?_
 refine DD.act 2 rfl rfl rfl rfl rfl (Ef.call rfl (list_sp y.w hyw.1 _)) ((by rintro _ _ _ ⟨_, rfl, rfl, _, _, rfl, hl, _⟩; exact ⟨hl, rfl, .inl rfl⟩)) ?_
 rintro _ _ _ ⟨v2, rfl, rfl, ad, cap, rfl, hl3, hs3, _⟩
 refine DD.act 6 rfl rfl rfl rfl rfl (Ef.call rfl (pay_sp s p y.w _ ((hd.sw (h.le hle)).le hl3) hok hyw.1 hyw.2)) ((by rintro _ _ _ ⟨_, rfl, rfl, rfl, hl⟩; exact ⟨hl3.trans hl, rfl, .inl rfl⟩)) ?_
 rintro _ _ _ ⟨v3, rfl, rfl, rfl, hl4⟩
 refine DD.run' [7, 8, 9] rfl ?_
 refine .fin rfl ?_
 refine W.go 99 rfl ?_
 refine W.ret r rfl rfl ?_
 exact ⟨ad, cap, by rw [natI_len]; rfl, hs3.le hl4, ((Dim.of_le hle).trans hd).trans (Dim.of_le (hl3.trans hl4))⟩
theorem contains_bits (m i : Nat) (hi : i < 5) : (bits5 m).contains i = m.testBit i := by
 unfold bits5
 rw [Bool.eq_iff_iff, List.contains_iff_mem, List.mem_filter, List.mem_range]
 exact ⟨fun h => h.2, fun h => ⟨hi, h⟩⟩
theorem worth1_sp {X : Logic Tryz.prog} (m i b : Nat) (hm : m < 32) (hi : i < 5) (L : LH) (hb : L.cell? ⟨b, 0, none⟩ = some (.int .i64 i)) : Sp X 117 [.int .u8 m, pt b] L (fun v L' => v = .bool (!(bits5 m).contains i) ∧ Le L L') := by
 refine Sp.enter (n := 8) Tryz.func117 rfl rfl rfl rfl fun C hX _ hL0 r => ?_
 refine W.go 99 rfl ?_
 refine W.vf rfl rfl rfl rfl (Vf.load rfl rfl rfl (hb)) ?_
 refine W.go 99 rfl ?_
 refine W.eff rfl rfl rfl (Ef.call rfl (has_sp m i hm hi L)) ?_
 rintro _ _ _ ⟨_, rfl, rfl, rfl, rfl⟩
 refine W.go 99 rfl ?_
 refine W.ret r rfl rfl ?_
 rw [contains_bits _ _ hi]
 exact ⟨rfl, Le.refl _⟩
theorem Worth_sp (s : Sw) (p : Wp) (n : Int) (L : LH) (h : SwAt L s p) (hn : Sm s) : Sp (LFGo Tryz.prog Post W0) 61 [swA s p, .int .i64 n] L (fun v L' => v = .tuple #[.int .i64 (WorthE s n).1, .int .i64 (WorthE s n).2] ∧ Dim L L') := by
 refine Sp.enter (n := 34) Tryz.func61 rfl rfl rfl rfl fun C hX _ hL0 r => ?_
 refine W.go 99 rfl ?_
 refine W.goP [13] 99 rfl ?_
 refine W.pub 12 (.inr ⟨_, _, _, rfl⟩) rfl rfl ?_
 intro b12 hb12 _
 have f1 := Le.put hb12 (.cells #[.int .i64 n] 3)
 have g1 := put_same L b12 (.cells #[.int .i64 n] 3)
 change W _ _ _ _ _ _ (L.put b12 (.cells #[.int .i64 n] 3))
 generalize L.put b12 (.cells #[.int .i64 n] 3) = L1 at f1 g1 ⊢
 refine W.eff rfl rfl rfl (Ef.call rfl (open_sp s p none (some ⟨b12, 0, none⟩) 0 1 [] [n] L1 (h.le f1) hn SlAt.empty (ints1 g1) (by simp) (by simp))) ?_
 rintro _ _ _ ⟨v0, rfl, rfl, hle, hq⟩
 rename_i L2
 have hl2 := f1.trans hle
 rcases hq with ⟨he, rfl⟩ | ⟨he, rfl⟩
 ·refine W.go 99 rfl ?_
  refine W.split rfl rfl rfl (fun e1 => W.go 99 rfl ?_) (fun e1 => W.go 99 rfl ?_)
  ·refine W.ret r rfl rfl ?_
   have : WorthE s n = (0, openW s [] [n]) := by unfold WorthE; rw [if_pos he]
   rw [this]
   exact ⟨rfl, Dim.of_le hl2⟩
  ·simp at e1; exact absurd e1 he
 have hSE : WorthE s n = (worthW s n.toNat, 0) := by unfold WorthE; rw [if_neg (by simp [he])]
 rw [hSE] at r
 obtain ⟨h0, _, hk⟩ := openW_0 he
 have hok := sawE_0 h0
 have hk := hk n (by simp)
 have hw5 := hok.w5
 obtain ⟨i, rfl⟩ : ∃ i : Nat, n = (i : Int) := ⟨n.toNat, by omega⟩
 have hi : i < s.wants.length := by omega
 rw [Int.toNat_natCast] at r
 refine W.go 99 rfl ?_
 refine W.split rfl rfl rfl (fun e1 => ?_) (fun e1 => ?_)
 ·simp at e1
 refine W.weak (E' := [(3, .p 1 0), (6, .p 3 0), (17, .lit false)]) (B' := [some ⟨cellsS (.v (swA s p)), 26⟩, some ⟨cellsS (.v (.int .i64 i)), 3⟩, none, some ⟨cellsS (.v (swA s p)), 83⟩]) (by exact ⟨rfl, rfl, rfl, trivial⟩) (by exact ⟨rfl, rfl, rfl, rfl, trivial⟩) ?_
 refine W.goP [20] 99 rfl ?_
 refine W.pub 3 (.inl ⟨_, rfl⟩) rfl rfl ?_
 intro b3 hb3 _
 have f3 := Le.put hb3 (.cells #[.int .i64 (i : Int)] 3)
 have g3 := put_same L2 b3 (.cells #[.int .i64 (i : Int)] 3)
 change W _ _ _ _ _ _ (L2.put b3 (.cells #[.int .i64 (i : Int)] 3))
 generalize L2.put b3 (.cells #[.int .i64 (i : Int)] 3) = L3 at f3 g3 ⊢
 have hl3 := hl2.trans f3
 have hb := best_sp (Post := Post) (W0 := W0) s p (fun w => !w.contains i) (.func (.func 117) #[] #[pt b3]) L3 (h.le hl3) hok ⟨_, _, _, rfl⟩ (fun L' m hd hm => Sp.toV (args := [.int .u8 m]) (f1 := []) (f2 := [pt b3]) (worth1_sp m i b3 (by have := pow5 hok; omega) (by omega) L' (hd.cell (cell_of g3 rfl))))
 rw [← hX] at hb
 refine W.go 99 rfl ?_
 refine W.eff rfl rfl rfl (Ef.call rfl (hb)) ?_
 rintro _ _ _ ⟨v1, rfl, rfl, gv, y, sm, rfl, hbe, hd⟩
 rename_i L4
 have hyw := hbe.wn hok
 have hd4 := (Dim.of_le hl3).trans hd
 refine W.go 99 rfl ?_
 refine W.weak (E' := [(6, .p 3 0), (8, .p 4 0)]) (B' := [some ⟨cellsS (.v (swA s p)), 26⟩, none, none, some ⟨cellsS (.v (swA s p)), 83⟩, some ⟨cellsS (.v (fstV gv y sm)), 112⟩]) (by exact ⟨rfl, rfl, trivial⟩) (by exact ⟨rfl, rfl, rfl, rfl, rfl, trivial⟩) ?_
 refine W.drawn (by kernel_rfl) LH.nil (fun _ _ h => by cases h) ?_
 refine DD.run' [0, 1, 6, 7, 8, 9] rfl ?_
 have hb2 := best0_sp (Post := Post) (W0 := W0) s p L4 (hd4.sw h) hok
 rw [← hX] at hb2
 refine DD.act 2 rfl rfl rfl rfl rfl (Ef.call rfl (hb2)) ((by rintro _ _ _ ⟨_, rfl, rfl, _, _, _, rfl, _⟩; exact ⟨(fun _ _ h => by cases h), rfl, .inl rfl⟩)) ?_
 rintro _ _ _ ⟨v2, rfl, rfl, gv2, y2, sm2, rfl, hbe2, hd2⟩
 have hyw2 := hbe2.wn hok
 have hd5 := hd4.trans hd2
 refine DD.vf 3 rfl rfl rfl rfl rfl (Vf.fieldN (cs := fsF gv2 :: (encC y2 ++ [Value.bool sm2])) (ds := encC y2) rfl rfl Tryz.underlying112 rfl agg101 size101 rfl) ?_
 refine DD.vf 4 rfl rfl rfl rfl rfl (Vf.field1 (cs := encC y2) rfl rfl Tryz.underlying101 rfl agg95 rfl) ?_
 refine DD.act 5 rfl rfl rfl rfl rfl (Ef.call rfl (pay_sp s p y2.w _ (hd5.sw h) hok hyw2.1 hyw2.2)) ((by rintro _ _ _ ⟨_, rfl, rfl, rfl, hl⟩; exact ⟨(fun _ _ h => by cases h), rfl, .inl rfl⟩)) ?_
 rintro _ _ _ ⟨v3, rfl, rfl, rfl, hl6⟩
 refine DD.act 10 rfl rfl rfl rfl rfl (Ef.call rfl (pay_sp s p y.w _ ((hd5.sw h).le hl6) hok hyw.1 hyw.2)) ((by rintro _ _ _ ⟨_, rfl, rfl, rfl, hl⟩; exact ⟨(fun _ _ h => by cases h), rfl, .inl rfl⟩)) ?_
 rintro _ _ _ ⟨v4, rfl, rfl, rfl, hl7⟩
 refine DD.run' [11, 12, 13] rfl ?_
 refine .fin rfl ?_
 refine W.go 99 rfl ?_
 refine W.ret r rfl rfl ?_
 have p1 := pay_bd hok (bits5 y.w)
 have p2 := pay_bd hok (bits5 y2.w)
 have q1 := bits5_len y.w
 have q2 := bits5_len y2.w
 have hw : worthW s i = payW s (bits5 y2.w) - payW s (bits5 y.w) := by unfold worthW; rw [← hbe2.wants, ← hbe.wants]
 rw [hw]
 refine ⟨?_, hd5.trans (Dim.of_le (hl6.trans hl7))⟩
 show Value.tuple #[.int .i64 (IntKind.i64.wrap (payW s (bits5 y2.w) - payW s (bits5 y.w))), _] = _
 rw [wrap64_in _ (by omega) (by omega)]
end Go.Mz


set_option maxRecDepth 100000
namespace Go.Mz
open Go.Conc Go.Proofs
section
variable {P : Program} {E : Look} {B : List (Option Bx)} {L : LH} {t t2 : TypeId} {x y : Operand}
theorem Vf.andNot {kk : IntKind} {a b c : Int} (hx : evS E x = some (.v (.int kk a))) (hy : evS E y = some (.v (.int kk b))) (h : kk.wrap (BitVec.ofInt kk.bits a &&& ~~~ BitVec.ofInt kk.bits b).toNat = c) : Vf P (.binOp .andNot t x y t2) E B L (.v (.int kk c)) := fun T R β hE _ _ => by
 have ex := (Option.some.inj (hE.val hx)).symm
 have ey := (Option.some.inj (hE.val hy)).symm
 refine ⟨_, rfl, fun ty dst pos af gd Q H hq => ?_⟩
 simp only [execOp, ex, ey, wpS_bind, eqGuard, binOp, ne_eq, not_true_eq_false, if_false, Op.intBits]
 rw [h]
 exact hq
end
variable {Post : Value → World → Prop} {W0 : World}
theorem andNot_tab : ∀ n : Nat, n ≤ 5 → ∀ m : Nat, m < 2 ^ n → IntKind.u8.wrap (BitVec.ofInt IntKind.u8.bits ((2 ^ n - 1 : Nat) : Int) &&& ~~~ BitVec.ofInt IntKind.u8.bits (m : Int)).toNat = ((2 ^ n - 1 - m : Nat) : Int) ∧ bits5 (2 ^ n - 1 - m) = (List.range n).filter fun i => !(bits5 m).contains i := by decide +kernel
def RefV (o : Option (List Nat)) (y : Nat) (sm : Bool) : Prop := match o with
 | none => sm = false ∧ y = 0
 | some w => sm = true ∧ y < 32 ∧ bits5 y = w
def refU (s : Sw) (k : Nat) : Option (List Nat) := firstBy shortB (((firstsW s k).filterMap id).map fun c => othersW s c.w)
theorem refU_none {s : Sw} {k : Nat} (h : crushW s (bits5 k) = none) : refU s (k + 1) = refU s k := by
 unfold refU; rw [firstsW_succ, h, List.filterMap_append]; simp
theorem refU_some {s : Sw} {k : Nat} {c : Cr} (h : crushW s (bits5 k) = some c) : refU s (k + 1) = takeBy shortB (refU s k) (othersW s c.w) := by
 unfold refU; rw [firstsW_succ, h, List.filterMap_append, List.map_append, show List.map (fun c => othersW s c.w) (List.filterMap id [some c]) = [othersW s c.w] by simp, firstBy_snoc]
theorem RefV.lt {o : Option (List Nat)} {y : Nat} {sm : Bool} (h : RefV o y sm) : y < 32 := by
 cases o with
 | none => rw [h.2]; decide
 | some w => exact h.2.1
theorem RefV.take {o : Option (List Nat)} {y : Nat} {sm : Bool} (h : RefV o y sm) {x : Nat} (hx : x < 32) : RefV (takeBy shortB o (bits5 x)) (if !sm || shortB (bits5 x) (bits5 y) then x else y) true := by
 cases o with
 | none =>
  obtain ⟨rfl, rfl⟩ := h
  exact ⟨rfl, hx, rfl⟩
 | some w =>
  obtain ⟨rfl, h1, rfl⟩ := h
  show RefV (if shortB (bits5 x) (bits5 y) then some (bits5 x) else some (bits5 y)) _ _
  cases shortB (bits5 x) (bits5 y)
  ·exact ⟨rfl, h1, rfl⟩
  ·exact ⟨rfl, hx, rfl⟩
theorem RefV.bits {s : Sw} {y : Nat} {sm : Bool} (h : RefV (refU s (2 ^ s.wants.length)) y sm) : bits5 y = refusedW s := by
 have e : refusedW s = (refU s (2 ^ s.wants.length)).getD [] := rfl
 rw [e]
 generalize refU s (2 ^ s.wants.length) = o at h ⊢
 cases o with
 | none => obtain ⟨rfl, rfl⟩ := h; decide
 | some w => exact h.2.2
theorem Refused_sp (s : Sw) (p : Wp) (L : LH) (h : SwAt L s p) (hn : Sm s) : Sp (LFGo Tryz.prog Post W0) 40 [swA s p] L (fun v L' => ∃ ad cap, v = .tuple #[.slice ad (RefusedE s).1.length cap, .int .i64 (RefusedE s).2] ∧ IntsAt L' ad (natI (RefusedE s).1) ∧ Dim L L') := by
 refine Sp.enter (n := 37) Tryz.func40 rfl rfl rfl rfl fun C hX _ hL0 r => ?_
 refine W.go 99 rfl ?_
 refine W.eff rfl rfl rfl (Ef.call rfl (open_sp s p none none 0 0 [] [] L h hn SlAt.empty SlAt.empty (by simp) (by simp))) ?_
 rintro _ _ _ ⟨v0, rfl, rfl, hle, hq⟩
 refine W.go 99 rfl ?_
 rename_i L1
 rw [openW_nil] at hq
 rcases hq with ⟨he, rfl⟩ | ⟨he, rfl⟩
 ·have hCE : RefusedE s = ([], sawE s) := by unfold RefusedE; rw [if_pos he]
  rw [hCE] at r
  refine W.go 99 rfl ?_
  refine W.split rfl rfl rfl (fun e1 => W.go 99 rfl ?_) (fun e1 => W.go 99 rfl ?_)
  ·refine W.ret r rfl rfl ?_
   exact ⟨none, 0, rfl, SlAt.empty, Dim.of_le hle⟩
  ·simp at e1; exact absurd e1 he
 have hok := sawE_0 he
 have h5 := pow5 hok
 have hw5 := hok.w5
 have hCE : RefusedE s = (refusedW s, 0) := by unfold RefusedE; rw [if_neg (by simp [he])]
 rw [hCE] at r
 refine W.go 99 rfl ?_
 refine W.split rfl rfl rfl (fun e1 => ?_) (fun e1 => ?_)
 ·simp at e1
 refine W.weak (E' := [(4, .p 1 0), (15, .lit false)]) (B' := [some ⟨cellsS (.v (swA s p)), 26⟩, some ⟨cellsS (.v (swA s p)), 83⟩]) (by exact ⟨rfl, rfl, trivial⟩) (by exact ⟨rfl, rfl, trivial⟩) ?_
 refine W.go 99 rfl ?_
 have hal := all_sp (Post := Post) (W0 := W0) s p L1 (h.le hle) hok
 rw [← hX] at hal
 refine W.eff rfl rfl rfl (Ef.call rfl (hal)) ?_
 rintro _ _ _ ⟨v1, rfl, rfl, bn, rfl, ho, hd1⟩
 rename_i L2
 have hd := (Dim.of_le hle).trans hd1
 refine W.go 99 rfl ?_
 refine W.pub 6 (.inl ⟨_, rfl⟩) rfl rfl ?_
 intro b6 hb6 _
 have g6 := put_same L2 b6 (.cells #[.func (.func 101) #[] #[], .int .u8 0, .bool false] 119)
 have hl6 := Le.put hb6 (.cells #[.func (.func 101) #[] #[], .int .u8 0, .bool false] 119)
 refine W.loop (fun m E B L' => ∃ (k : Nat) (y : Nat) (sm : Bool), m = 2 ^ s.wants.length - k ∧ k ≤ 2 ^ s.wants.length ∧ RefV (refU s k) y sm ∧ Le L2 L' ∧ L' b6 = some (.cells #[.func (.func 101) #[] #[], .int .u8 y, Value.bool sm] 119 (0, 0), true) ∧
   E = [(4, .p 1 0), (6, .v (pt b6)), (19, .v (.slice (some ⟨bn, 0, none⟩) (2 ^ s.wants.length) (2 ^ s.wants.length))), (20, .v (.int .i64 ((2 ^ s.wants.length : Nat) : Int))), (21, .v (.int .i64 k))] ∧ B = [some ⟨cellsS (.v (swA s p)), 26⟩, some ⟨cellsS (.v (swA s p)), 83⟩])
  ⟨0, 0, false, rfl, Nat.zero_le _, ⟨rfl, rfl⟩, hl6, g6, rfl, rfl⟩ (by exact ⟨rfl, rfl, rfl, rfl, rfl, trivial⟩) (by exact ⟨rfl, rfl, trivial⟩) ?_
 rintro _ _ _ L4 ⟨k, y, sm, rfl, hk, hre, hl4, hb, rfl, rfl⟩ again
 refine W.go 99 rfl ?_
 refine W.split rfl rfl rfl (fun e1 => W.go 99 rfl ?_) (fun e1 => W.go 99 rfl ?_)
 ·have hk2 : k < 2 ^ s.wants.length := Int.ofNat_lt.1 (of_decide_eq_true e1)
  have hgk : (outs s)[k]? = some (found s k) := by unfold outs; rw [List.getElem?_map, List.getElem?_range hk2]; rfl
  refine W.vf rfl rfl rfl rfl (Vf.idx rfl rfl rfl rfl rfl rfl (hk2)) ?_
  refine W.go 99 rfl ?_
  cases hc : crushW s (bits5 k) with
  | none =>
   have hfi := found_none hc
   generalize found s k = fc at *
   refine W.vf rfl rfl rfl rfl (Vf.loadN rfl rfl rfl ((ho.le hl4).whole hgk rfl)) ?_
   refine W.go 99 rfl ?_
   refine W.split rfl rfl rfl (fun h => absurd h (by rw [hfi]; simp)) (fun _ => ?_)
   refine W.go 99 rfl ?_
   exact W.again (again _ _ _ _ (by omega) ⟨k + 1, y, sm, rfl, by omega, by rw [refU_none hc]; exact hre, hl4, hb, rfl, rfl⟩) (by exact ⟨rfl, rfl, rfl, rfl, congrArg some (inc64 (by omega)), trivial⟩) (by exact ⟨rfl, rfl, trivial⟩)
  | some c =>
   have hcw := (crushW_some hc).1
   obtain ⟨ha1, ha2⟩ := andNot_tab _ hw5 k hk2
   rw [found_some hc] at hgk
   refine W.vf rfl rfl rfl rfl (Vf.loadN rfl rfl rfl ((ho.le hl4).whole hgk rfl)) ?_
   refine W.go 99 rfl ?_
   refine W.split rfl rfl rfl (fun _ => ?_) (fun h => absurd h (by simp [ofCr]))
   refine W.go 99 rfl ?_
   have htk := takeW_sp (X := C.X) b6 (2 ^ s.wants.length - 1 - k) y sm L4 (by omega) hre.lt hb
   have hfoot : ∀ v L', FswQ b6 (if !sm || shortB (bits5 (2 ^ s.wants.length - 1 - k)) (bits5 y) then 2 ^ s.wants.length - 1 - k else y) L4 v L' → Le L2 L' := fun v L' h b z hz => h.2.1 b z (fun e => by subst e; rw [hb6] at hz; cases hz) (hl4 _ _ hz)
   refine W.drawn (by kernel_rfl) L2 hl4 ?_
   refine DD.run' [0, 2, 3] rfl ?_
   refine DD.act 1 rfl rfl rfl rfl rfl (Ef.call rfl (full_sp s p L4 hw5)) ((by rintro _ _ _ ⟨_, rfl, rfl, rfl, rfl⟩; exact ⟨hl4, rfl, .inl rfl⟩)) ?_
   rintro _ _ _ ⟨_, rfl, rfl, rfl, rfl⟩
   refine DD.vf 4 rfl rfl rfl rfl rfl (Vf.andNot rfl rfl ha1) ?_
   refine DD.act 5 rfl rfl rfl rfl rfl (Ef.call rfl (htk)) ((by rintro _ _ _ ⟨_, rfl, rfl, hQ⟩; exact ⟨hfoot _ _ hQ, rfl, .inl rfl⟩)) ?_
   rintro _ _ _ ⟨v3, rfl, rfl, hQ⟩
   obtain ⟨rfl, hkp, hbb⟩ := hQ
   refine .fin rfl ?_
   refine W.go 99 rfl ?_
   exact W.again (again _ _ _ _ (by omega) ⟨k + 1, _, true, rfl, by omega, by rw [refU_some hc, hcw, show othersW s (bits5 k) = bits5 (2 ^ s.wants.length - 1 - k) from ha2.symm]; exact hre.take (by omega), fun b z hz => hkp b z (fun e => by subst e; rw [hb6] at hz; cases hz) (hl4 _ _ hz), hbb, rfl, rfl⟩) (by exact ⟨rfl, rfl, rfl, rfl, congrArg some (inc64 (by omega)), trivial⟩) (by exact ⟨rfl, rfl, trivial⟩)
 ·have hke : k = 2 ^ s.wants.length := by
   have : ¬ (k : Int) < ((2 ^ s.wants.length : Nat) : Int) := of_decide_eq_false e1
   have := mt Int.ofNat_lt.2 this
   omega
  subst hke
  refine W.vf rfl rfl rfl rfl (Vf.load rfl rfl rfl (cell_of hb rfl)) ?_
  refine W.go 99 rfl ?_
  refine W.eff rfl rfl rfl (Ef.call rfl (list_sp y hre.lt L4)) ?_
  rintro _ _ _ ⟨v5, rfl, rfl, ad, cap, rfl, hl5, hs5, _⟩
  refine W.go 99 rfl ?_
  refine W.ret r rfl rfl ?_
  rw [← hre.bits]
  exact ⟨ad, cap, by rw [natI_len]; rfl, hs5, hd.trans (Dim.of_le (hl4.trans hl5))⟩
end Go.Mz


set_option maxRecDepth 100000
namespace Go.Mz
open Go.Conc Go.Proofs
variable {X : Logic Tryz.prog}
theorem SOk.kerf {s : Sw} (h : SOk s) {n : Nat} (hn : n ≤ 3) : SOk (kerfK s n) := ⟨h.l1, h.l3, h.lf, h.st, h.sr, by show (0 : Int) ≤ (n : Int); omega, by show (n : Int) ≤ 3; omega, h.w5, h.wt⟩
theorem SwAt.kerf {L : LH} {s : Sw} {p : Wp} (h : SwAt L s p) (n : Nat) : SwAt L (kerfK s n) p := ⟨h.lo, h.st, h.wt, h.cap⟩
theorem kerf_some {s : Sw} {n : Nat} (h3 : n ≤ 3) (hn : servedW (kerfK s n) = true) (hno : ∀ m, n < m → m ≤ 3 → servedW (kerfK s m) = false) : kerfW s = some n := by
 have e : kerfW s = [3, 2, 1, 0].find? fun n => servedW (kerfK s n) := rfl
 rw [e]
 have c : n = 0 ∨ n = 1 ∨ n = 2 ∨ n = 3 := by omega
 rcases c with rfl | rfl | rfl | rfl
 ·simp [List.find?_cons, hno 1, hno 2, hno 3, hn]
 ·simp [List.find?_cons, hno 2, hno 3, hn]
 ·simp [List.find?_cons, hno 3, hn]
 ·simp [List.find?_cons, hn]
theorem Kerf_sp (s : Sw) (p : Wp) (L : LH) (h : SwAt L s p) (hn : Sm s) : Sp X 55 [swA s p] L (fun v L' => v = .tuple #[.int .i64 (KerfE s).1, .int .i64 (KerfE s).2] ∧ Le L L') := by
 refine Sp.enter (n := 26) Tryz.func55 rfl rfl rfl rfl fun C hX _ hL0 r => ?_
 refine W.go 99 rfl ?_
 refine W.eff rfl rfl rfl (Ef.call rfl (open_sp s p none none 0 0 [] [] L h hn SlAt.empty SlAt.empty (by simp) (by simp))) ?_
 rintro _ _ _ ⟨v0, rfl, rfl, hle, hq⟩
 refine W.go 99 rfl ?_
 rename_i L1
 rw [openW_nil] at hq
 rcases hq with ⟨he, rfl⟩ | ⟨he, rfl⟩
 ·have hCE : KerfE s = (0, sawE s) := by unfold KerfE; rw [if_pos he]
  rw [hCE] at r
  refine W.go 99 rfl ?_
  refine W.split rfl rfl rfl (fun e1 => W.go 99 rfl ?_) (fun e1 => W.go 99 rfl ?_)
  ·refine W.ret r rfl rfl ?_
   exact ⟨rfl, hle⟩
  ·simp at e1; exact absurd e1 he
 have hok := sawE_0 he
 have hCE : KerfE s = match kerfW s with | some n => ((n : Int), 0) | none => (0, 11) := by unfold KerfE; rw [if_neg (by simp [he])]; rfl
 refine W.go 99 rfl ?_
 refine W.split rfl rfl rfl (fun e1 => W.go 99 rfl ?_) (fun e1 => W.go 99 rfl ?_)
 ·simp at e1
 refine W.eff rfl rfl rfl (Ef.call rfl (served_sp (kerfK s 3) p L1 ((h.kerf 3).le (hle)) (hok.kerf (by decide)))) ?_
 rintro _ _ _ ⟨v3, rfl, rfl, rfl, hl3⟩
 refine W.go 99 rfl ?_
 rename_i L2
 cases e3 : servedW (kerfK s 3) with
 | true =>
  refine W.split rfl rfl rfl (fun c => ?_) (fun c => absurd c (by decide))
  refine W.go 99 rfl ?_
  refine W.ret r rfl rfl ?_
  rw [hCE, kerf_some (n := 3) (by decide) e3 (fun m h1 h2 => by omega)]
  exact ⟨rfl, (hle).trans hl3⟩
 | false =>
 refine W.split rfl rfl rfl (fun c => absurd c (by decide)) (fun c => ?_)
 refine W.go 99 rfl ?_
 refine W.split rfl rfl rfl (fun c => ?_) (fun c => absurd c (by decide))
 refine W.go 99 rfl ?_
 refine W.goto rfl ?_
 refine W.weak (E' := [(1, .p 0 0)]) (B' := [some ⟨[.v (.slice p.la s.loaves.length p.lc), .v (.slice p.sa s.stock.length p.sc), .v (.int .i64 2), .v (.slice p.wa s.wants.length p.wc)], 26⟩]) (by exact ⟨rfl, trivial⟩) (by exact ⟨rfl, trivial⟩) ?_
 refine W.go 99 rfl ?_
 refine W.eff rfl rfl rfl (Ef.call rfl (served_sp (kerfK s 2) p L2 ((h.kerf 2).le ((hle).trans hl3)) (hok.kerf (by decide)))) ?_
 rintro _ _ _ ⟨v2, rfl, rfl, rfl, hl2⟩
 refine W.go 99 rfl ?_
 rename_i L3
 cases e2 : servedW (kerfK s 2) with
 | true =>
  refine W.split rfl rfl rfl (fun c => ?_) (fun c => absurd c (by decide))
  refine W.go 99 rfl ?_
  refine W.ret r rfl rfl ?_
  rw [hCE, kerf_some (n := 2) (by decide) e2 (fun m h1 h2 => by have c : m = 3 := (by omega); rcases c with rfl <;> assumption)]
  exact ⟨rfl, ((hle).trans hl3).trans hl2⟩
 | false =>
 refine W.split rfl rfl rfl (fun c => absurd c (by decide)) (fun c => ?_)
 refine W.go 99 rfl ?_
 refine W.split rfl rfl rfl (fun c => ?_) (fun c => absurd c (by decide))
 refine W.go 99 rfl ?_
 refine W.goto rfl ?_
 refine W.weak (E' := [(1, .p 0 0)]) (B' := [some ⟨[.v (.slice p.la s.loaves.length p.lc), .v (.slice p.sa s.stock.length p.sc), .v (.int .i64 1), .v (.slice p.wa s.wants.length p.wc)], 26⟩]) (by exact ⟨rfl, trivial⟩) (by exact ⟨rfl, trivial⟩) ?_
 refine W.go 99 rfl ?_
 refine W.eff rfl rfl rfl (Ef.call rfl (served_sp (kerfK s 1) p L3 ((h.kerf 1).le (((hle).trans hl3).trans hl2)) (hok.kerf (by decide)))) ?_
 rintro _ _ _ ⟨v1, rfl, rfl, rfl, hl1⟩
 refine W.go 99 rfl ?_
 rename_i L4
 cases e1' : servedW (kerfK s 1) with
 | true =>
  refine W.split rfl rfl rfl (fun c => ?_) (fun c => absurd c (by decide))
  refine W.go 99 rfl ?_
  refine W.ret r rfl rfl ?_
  rw [hCE, kerf_some (n := 1) (by decide) e1' (fun m h1 h2 => by have c : m = 2 ∨ m = 3 := (by omega); rcases c with rfl | rfl <;> assumption)]
  exact ⟨rfl, (((hle).trans hl3).trans hl2).trans hl1⟩
 | false =>
 refine W.split rfl rfl rfl (fun c => absurd c (by decide)) (fun c => ?_)
 refine W.go 99 rfl ?_
 refine W.split rfl rfl rfl (fun c => ?_) (fun c => absurd c (by decide))
 refine W.go 99 rfl ?_
 refine W.goto rfl ?_
 refine W.weak (E' := [(1, .p 0 0)]) (B' := [some ⟨[.v (.slice p.la s.loaves.length p.lc), .v (.slice p.sa s.stock.length p.sc), .v (.int .i64 0), .v (.slice p.wa s.wants.length p.wc)], 26⟩]) (by exact ⟨rfl, trivial⟩) (by exact ⟨rfl, trivial⟩) ?_
 refine W.go 99 rfl ?_
 refine W.eff rfl rfl rfl (Ef.call rfl (served_sp (kerfK s 0) p L4 ((h.kerf 0).le ((((hle).trans hl3).trans hl2).trans hl1)) (hok.kerf (by decide)))) ?_
 rintro _ _ _ ⟨v0, rfl, rfl, rfl, hl0⟩
 refine W.go 99 rfl ?_
 rename_i L5
 cases e0 : servedW (kerfK s 0) with
 | true =>
  refine W.split rfl rfl rfl (fun c => ?_) (fun c => absurd c (by decide))
  refine W.go 99 rfl ?_
  refine W.ret r rfl rfl ?_
  rw [hCE, kerf_some (n := 0) (by decide) e0 (fun m h1 h2 => by have c : m = 1 ∨ m = 2 ∨ m = 3 := (by omega); rcases c with rfl | rfl | rfl <;> assumption)]
  exact ⟨rfl, ((((hle).trans hl3).trans hl2).trans hl1).trans hl0⟩
 | false =>
 refine W.split rfl rfl rfl (fun c => absurd c (by decide)) (fun c => ?_)
 refine W.go 99 rfl ?_
 refine W.split rfl rfl rfl (fun c => absurd c (by decide)) (fun c => ?_)
 refine W.go 99 rfl ?_
 refine W.ret r rfl rfl ?_
 have hk : kerfW s = none := by
  have e : kerfW s = [3, 2, 1, 0].find? fun n => servedW (kerfK s n) := rfl
  rw [e]
  simp [List.find?_cons, e0, e1', e2, e3]
 rw [hCE, hk]
 exact ⟨rfl, ((((hle).trans hl3).trans hl2).trans hl1).trans hl0⟩
end Go.Mz


set_option maxRecDepth 100000
namespace Go.Mz
open Go.Conc Go.Proofs
theorem shop_sm (n : Int) : Sm (shopW n) := ⟨by show 2 ≤ 1000; decide, by show 2 ≤ 1000; decide, by show 4 ≤ 1000; decide, fun l hl => by
 simp [shopW] at hl
 rcases hl with rfl | rfl <;> decide⟩
section
variable {X : Logic Tryz.prog}
theorem shop_sp (n : Int) (L : LH) : Sp X 69 [.int .i64 n] L (fun v L' => ∃ p, v = swA (shopW n) p ∧ Le L L' ∧ SwAt L' (shopW n) p) := by
 refine Sp.enter (n := 16) Tryz.func69 rfl rfl rfl rfl fun C hX _ hL0 r => ?_
 refine W.goP [9] 99 rfl ?_
 refine W.pub 8 (.inr ⟨_, _, _, rfl⟩) rfl rfl ?_
 intro b8 hb8 _
 refine W.goP [10] 99 rfl ?_
 refine W.pub 9 (.inr ⟨_, _, _, rfl⟩) rfl rfl ?_
 intro b9 hb9 _
 refine W.goP [11] 99 rfl ?_
 refine W.pub 10 (.inr ⟨_, _, _, rfl⟩) rfl rfl ?_
 intro b10 hb10 _
 refine W.goP [12] 99 rfl ?_
 refine W.pub 11 (.inr ⟨_, _, _, rfl⟩) rfl rfl ?_
 intro b11 hb11 _
 refine W.goP [14] 99 rfl ?_
 refine W.pub 13 (.inr ⟨_, _, _, rfl⟩) rfl rfl ?_
 intro b13 hb13 _
 refine W.go 99 rfl ?_
 refine W.ret r rfl rfl ?_
 have f8 := Le.put hb8 (.cells ((shopW n).wants.flatMap encWt).toArray 28)
 have f9 := Le.put hb9 (.cells (([5, 3, 2] : List Int).flatMap encI).toArray 3)
 have f10 := Le.put hb10 (.cells (([4, 2] : List Int).flatMap encI).toArray 3)
 have f11 := Le.put hb11 (.cells (([((some ⟨b9, 0, none⟩, 3, 3), [5, 3, 2]), ((some ⟨b10, 0, none⟩, 2, 2), [4, 2])] : List (Rw Int)).flatMap encRw).toArray 23)
 have f13 := Le.put hb13 (.cells (([2, n] : List Int).flatMap encI).toArray 3)
 have k8 := put_same L b8 (.cells ((shopW n).wants.flatMap encWt).toArray 28)
 have k9 := put_same (L.put b8 (.cells ((shopW n).wants.flatMap encWt).toArray 28)) b9 (.cells (([5, 3, 2] : List Int).flatMap encI).toArray 3)
 have k10 := put_same ((L.put b8 (.cells ((shopW n).wants.flatMap encWt).toArray 28)).put b9 (.cells (([5, 3, 2] : List Int).flatMap encI).toArray 3)) b10 (.cells (([4, 2] : List Int).flatMap encI).toArray 3)
 have w1 := f11 _ _ (f10 _ _ k9)
 refine ⟨⟨some ⟨b11, 0, none⟩, some ⟨b13, 0, none⟩, some ⟨b8, 0, none⟩, 2, 2, 4⟩, rfl, f8.trans (f9.trans (f10.trans (f11.trans f13))), ⟨⟨[((some ⟨b9, 0, none⟩, 3, 3), [5, 3, 2]), ((some ⟨b10, 0, none⟩, 2, 2), [4, 2])], rfl, sl_block encRw_len (f13 _ _ (put_same _ _ _)), fun x hx => ?_⟩, sl_block encI_len (put_same _ _ _), sl_block encWt_len (f13 _ _ (f11 _ _ (f10 _ _ (f9 _ _ k8)))), Nat.le_refl 4⟩⟩
 simp only [List.mem_cons, List.not_mem_nil, or_false] at hx
 rcases hx with rfl | rfl
 ·exact ⟨sl_block encI_len (f13 _ _ (f11 _ _ (f10 _ _ k9))), rfl, Nat.le_refl 3⟩
 ·exact ⟨sl_block encI_len (f13 _ _ (f11 _ _ k10)), rfl, Nat.le_refl 2⟩
end
variable {Post : Value → World → Prop} {W0 : World}
theorem cut_sp (L : LH) (hgl : GlOk L) : Sp (LFGo Tryz.prog Post W0) 21 [] L (fun v L' => v = .bool true ∧ Dim L L') := by
 obtain ⟨c1, c2, c3, c4, c5, c6, c7⟩ := cutW
 have n1 := shop_sm 1
 have n2 := shop_sm 2
 refine Sp.enter (n := 128) Tryz.func21 rfl rfl rfl rfl fun C hX _ hL0 r => ?_
 refine W.go 99 rfl ?_
 refine W.eff rfl rfl rfl (Ef.call rfl (shop_sp 2 L)) ?_
 rintro _ _ _ ⟨_, rfl, rfl, p1, rfl, hl1, hs1⟩
 refine W.go 99 rfl ?_
 rename_i L1
 have hf := Slices_sp (X := C.X) (shopW 2) p1 0 4 L1 hs1 n2
 rw [c1] at hf
 refine W.eff rfl rfl rfl (Ef.call rfl (hf)) ?_
 rintro _ _ _ ⟨_, rfl, rfl, rfl, hl2⟩
 refine W.go 99 rfl ?_
 rename_i L2
 refine W.eff rfl rfl rfl (Ef.call rfl (shop_sp 2 L2)) ?_
 rintro _ _ _ ⟨_, rfl, rfl, p3, rfl, hl3, hs3⟩
 refine W.go 99 rfl ?_
 rename_i L3
 refine W.pub 25 (.inr ⟨_, _, _, rfl⟩) rfl rfl ?_
 intro b25 hb25 _
 refine W.pub 26 (.inr ⟨_, _, _, rfl⟩) rfl rfl ?_
 intro b26 hb26 _
 have g25 := Le.put hb26 (.cells (([0, 2] : List Int).flatMap encI).toArray 3) _ _ (put_same L3 b25 (.cells (([0, 1, 2, 3] : List Int).flatMap encI).toArray 3))
 have g26 := put_same (L3.put b25 (.cells (([0, 1, 2, 3] : List Int).flatMap encI).toArray 3)) b26 (.cells (([0, 2] : List Int).flatMap encI).toArray 3)
 have hl34 := (Le.put hb25 (.cells (([0, 1, 2, 3] : List Int).flatMap encI).toArray 3)).trans (Le.put hb26 (.cells (([0, 2] : List Int).flatMap encI).toArray 3))
 have hl04 := hl1.trans (hl2.trans (hl3.trans hl34))
 have hf := Left_sp (X := C.X) (shopW 2) p3 (some ⟨b25, 0, none⟩) (some ⟨b26, 0, none⟩) 4 2 [0, 1, 2, 3] [0, 2] _ (hs3.le hl34) n2 (hgl.le hl04) (sl_block encI_len g25) (sl_block encI_len g26) (by decide) (by decide)
 rw [c2] at hf
 refine W.eff rfl rfl rfl (Ef.call rfl (hf)) ?_
 rintro _ _ _ ⟨v5, rfl, rfl, ad3, cap3, rfl, hp3, hl5⟩
 refine W.go 99 rfl ?_
 rename_i L5
 have hl05 := hl04.trans hl5
 refine W.eff rfl rfl rfl (Ef.call rfl (shop_sp 2 L5)) ?_
 rintro _ _ _ ⟨_, rfl, rfl, p6, rfl, hl6, hs6⟩
 refine W.go 99 rfl ?_
 rename_i L6
 have hf := Fewest_sp (X := C.X) (shopW 2) p6 L6 hs6 n2
 rw [c3] at hf
 refine W.eff rfl rfl rfl (Ef.call rfl (hf)) ?_
 rintro _ _ _ ⟨v7, rfl, rfl, ad6, cap6, rfl, hp6, hl7⟩
 refine W.go 99 rfl ?_
 rename_i L7
 have hl57 := hl6.trans hl7
 refine W.eff rfl rfl rfl (Ef.call rfl (shop_sp 1 L7)) ?_
 rintro _ _ _ ⟨_, rfl, rfl, p8, rfl, hl8, hs8⟩
 refine W.go 99 rfl ?_
 rename_i L8
 have hf := Best_sp (Post := Post) (W0 := W0) (shopW 1) p8 L8 hs8 n1
 rw [c4, ← hX] at hf
 refine W.eff rfl rfl rfl (Ef.call rfl (hf)) ?_
 rintro _ _ _ ⟨v9, rfl, rfl, ad9, cap9, rfl, hp9, hd9⟩
 refine W.go 99 rfl ?_
 rename_i L9
 have hd79 := (Dim.of_le hl8).trans hd9
 refine W.eff rfl rfl rfl (Ef.call rfl (shop_sp 1 L9)) ?_
 rintro _ _ _ ⟨_, rfl, rfl, p10, rfl, hl10, hs10⟩
 refine W.go 99 rfl ?_
 rename_i L10
 have hf := Refused_sp (Post := Post) (W0 := W0) (shopW 1) p10 L10 hs10 n1
 rw [c5, ← hX] at hf
 refine W.eff rfl rfl rfl (Ef.call rfl (hf)) ?_
 rintro _ _ _ ⟨v11, rfl, rfl, ad12, cap12, rfl, hp12, hd11⟩
 refine W.go 99 rfl ?_
 rename_i L11
 have hd9b := (Dim.of_le hl10).trans hd11
 refine W.eff rfl rfl rfl (Ef.call rfl (shop_sp 1 L11)) ?_
 rintro _ _ _ ⟨_, rfl, rfl, p12, rfl, hl12, hs12⟩
 refine W.go 99 rfl ?_
 rename_i L12
 have hf := Worth_sp (Post := Post) (W0 := W0) (shopW 1) p12 0 L12 hs12 n1
 rw [c6, ← hX] at hf
 refine W.eff rfl rfl rfl (Ef.call rfl (hf)) ?_
 rintro _ _ _ ⟨v13, rfl, rfl, rfl, hd13⟩
 refine W.go 99 rfl ?_
 rename_i L13
 have hd11b := (Dim.of_le hl12).trans hd13
 refine W.eff rfl rfl rfl (Ef.call rfl (shop_sp 2 L13)) ?_
 rintro _ _ _ ⟨_, rfl, rfl, p14, rfl, hl14, hs14⟩
 refine W.go 99 rfl ?_
 rename_i L14
 have hf := Kerf_sp (X := C.X) (shopW 2) p14 L14 hs14 n2
 rw [c7] at hf
 refine W.eff rfl rfl rfl (Ef.call rfl (hf)) ?_
 rintro _ _ _ ⟨v15, rfl, rfl, rfl, hl15⟩
 rename_i L15
 have hd13b := Dim.of_le (hl14.trans hl15)
 have e9 := (hd9b.trans hd11b).trans hd13b
 have hp3 : IntsAt L15 ad3 [0, 0] := (((Dim.of_le hl57).trans hd79).trans e9).sl hp3
 have hp6 : IntsAt L15 ad6 [0, 2] := (hd79.trans e9).sl hp6
 have hp9 : IntsAt L15 ad9 [0, 1, 2] := e9.sl hp9
 have hp12 : IntsAt L15 ad12 [0] := (hd11b.trans hd13b).sl hp12
 have hd : Dim L L15 := (Dim.of_le (hl05.trans hl57)).trans (hd79.trans e9)
 refine W.go 5 rfl ?_
 refine W.weak (E' := [(1, .v (.int .i64 2)), (2, .v (.int .i64 0)), (3, .v (.slice ad3 2 cap3)), (4, .v (.int .i64 5)), (5, .v (.int .i64 0)), (6, .v (.slice ad6 2 cap6)), (7, .v (.int .i64 4)), (8, .v (.int .i64 0)), (9, .v (.slice ad9 3 cap9)), (10, .v (.int .i64 27)), (11, .v (.int .i64 0)), (12, .v (.slice ad12 1 cap12)), (13, .v (.int .i64 0)), (14, .v (.int .i64 7)), (15, .v (.int .i64 0)), (16, .v (.int .i64 3)), (17, .v (.int .i64 0))]) (B' := []) (by exact ⟨rfl, rfl, rfl, rfl, rfl, rfl, rfl, rfl, rfl, rfl, rfl, rfl, rfl, rfl, rfl, rfl, rfl, trivial⟩) (by exact trivial) ?_
 clear c1 c2 c3 c4 c5 c6 c7 hf
 refine W.go 99 rfl ?_
 refine W.split rfl rfl rfl (fun c => ?_) (fun c => absurd c (by decide))
 refine W.go 99 rfl ?_
 refine W.split rfl rfl rfl (fun c => ?_) (fun c => absurd c (by decide))
 refine W.go 99 rfl ?_
 refine W.split rfl rfl rfl (fun c => ?_) (fun c => absurd c (by decide))
 refine W.go 99 rfl ?_
 refine W.split rfl rfl rfl (fun c => ?_) (fun c => absurd c (by decide))
 refine W.go 99 rfl ?_
 refine W.split rfl rfl rfl (fun c => ?_) (fun c => absurd c (by decide))
 refine W.go 99 rfl ?_
 refine W.split rfl rfl rfl (fun c => ?_) (fun c => absurd c (by decide))
 refine W.go 99 rfl ?_
 refine W.split rfl rfl rfl (fun c => ?_) (fun c => absurd c (by decide))
 refine W.go 99 rfl ?_
 refine W.split rfl rfl rfl (fun c => ?_) (fun c => absurd c (by decide))
 refine W.go 99 rfl ?_
 refine W.split rfl rfl rfl (fun c => ?_) (fun c => absurd c (by decide))
 refine W.go 99 rfl ?_
 refine W.split rfl rfl rfl (fun c => ?_) (fun c => absurd c (by decide))
 refine W.go 99 rfl ?_
 refine W.split rfl rfl rfl (fun c => ?_) (fun c => absurd c (by decide))
 refine W.go 99 rfl ?_
 refine W.split rfl rfl rfl (fun c => ?_) (fun c => absurd c (by decide))
 refine W.go 99 rfl ?_
 refine W.split rfl rfl rfl (fun c => ?_) (fun c => absurd c (by decide))
 refine W.go 99 rfl ?_
 refine W.pub 110 (.inr ⟨_, _, _, rfl⟩) rfl rfl ?_
 intro b1 hb1 _
 have hqb1 := Le.put hb1 (.cells (([0, 0] : List Int).flatMap encI).toArray 3)
 have he := EqInts_sp (X := C.X) ad3 (some ⟨b1, 0, none⟩) cap3 2 [0, 0] [0, 0] _ (hp3.le hqb1) (sl_block encI_len (put_same _ _ (.cells (([0, 0] : List Int).flatMap encI).toArray 3))) (by decide) (by decide)
 refine W.eff rfl rfl rfl (Ef.call rfl (he)) ?_
 rintro _ _ _ ⟨_, rfl, rfl, rfl, rfl⟩
 refine W.go 99 rfl ?_
 refine W.split rfl rfl rfl (fun c => ?_) (fun c => absurd c (by decide))
 refine W.go 99 rfl ?_
 refine W.pub 115 (.inr ⟨_, _, _, rfl⟩) rfl rfl ?_
 intro b2 hb2 _
 have hqb2 := hqb1.trans (Le.put hb2 (.cells (([0, 2] : List Int).flatMap encI).toArray 3))
 have he := EqInts_sp (X := C.X) ad6 (some ⟨b2, 0, none⟩) cap6 2 [0, 2] [0, 2] _ (hp6.le hqb2) (sl_block encI_len (put_same _ _ (.cells (([0, 2] : List Int).flatMap encI).toArray 3))) (by decide) (by decide)
 refine W.eff rfl rfl rfl (Ef.call rfl (he)) ?_
 rintro _ _ _ ⟨_, rfl, rfl, rfl, rfl⟩
 refine W.go 99 rfl ?_
 refine W.split rfl rfl rfl (fun c => ?_) (fun c => absurd c (by decide))
 refine W.go 99 rfl ?_
 refine W.pub 120 (.inr ⟨_, _, _, rfl⟩) rfl rfl ?_
 intro b3 hb3 _
 have hqb3 := hqb2.trans (Le.put hb3 (.cells (([0, 1, 2] : List Int).flatMap encI).toArray 3))
 have he := EqInts_sp (X := C.X) ad9 (some ⟨b3, 0, none⟩) cap9 3 [0, 1, 2] [0, 1, 2] _ (hp9.le hqb3) (sl_block encI_len (put_same _ _ (.cells (([0, 1, 2] : List Int).flatMap encI).toArray 3))) (by decide) (by decide)
 refine W.eff rfl rfl rfl (Ef.call rfl (he)) ?_
 rintro _ _ _ ⟨_, rfl, rfl, rfl, rfl⟩
 refine W.go 99 rfl ?_
 refine W.split rfl rfl rfl (fun c => ?_) (fun c => absurd c (by decide))
 refine W.go 99 rfl ?_
 refine W.pub 125 (.inr ⟨_, _, _, rfl⟩) rfl rfl ?_
 intro b4 hb4 _
 have hqb4 := hqb3.trans (Le.put hb4 (.cells (([0] : List Int).flatMap encI).toArray 3))
 have he := EqInts_sp (X := C.X) ad12 (some ⟨b4, 0, none⟩) cap12 1 [0] [0] _ (hp12.le hqb4) (sl_block encI_len (put_same _ _ (.cells (([0] : List Int).flatMap encI).toArray 3))) (by decide) (by decide)
 refine W.eff rfl rfl rfl (Ef.call rfl (he)) ?_
 rintro _ _ _ ⟨_, rfl, rfl, rfl, rfl⟩
 refine W.go 99 rfl ?_
 refine W.ret r rfl rfl ?_
 refine ⟨?_, hd.trans (Dim.of_le hqb4)⟩
 rw [decide_eq_true rfl]
 rfl
end Go.Mz


set_option maxRecDepth 100000
namespace Go.Mz
open Go.Conc Go.Proofs
variable {X : Logic Tryz.prog}
end Go.Mz


set_option maxRecDepth 100000
namespace Go.Mz
open Go.Conc Go.Proofs
variable {X : Logic Tryz.prog}
end Go.Mz


set_option maxRecDepth 100000
namespace Go.Mz
open Go.Conc Go.Proofs
variable {X : Logic Tryz.prog}
def isTks (k : Int) (x : Want) : Bool := x.sort == 1 && (decide (k < 0) || x.kind == k)
def tksN (k : Int) (xs : List Want) : Int := sumL ((xs.filter (isTks k)).map (·.amount))
theorem sumL_append (a b : List Int) : sumL (a ++ b) = sumL a + sumL b := by
 induction a with
 | nil => rw [List.nil_append, sumL_nil]; omega
 | cons x a ih => rw [List.cons_append, sumL_cons, sumL_cons, ih]; omega
end Go.Mz


set_option maxRecDepth 100000
namespace Go.Mz
open Go.Conc Go.Proofs
variable {X : Logic Tryz.prog}
theorem tkN_bd (xs : List Want) (k : Nat) : 0 ≤ tkN xs k ∧ tkN xs k ≤ xs.length := by
 unfold tkN
 have := List.countP_le_length (p := isTk k) (l := xs)
 omega
theorem restW_bd {s : Sw} (hok : SOk s) (x : Want) : 0 ≤ restW s x ∧ restW s x ≤ 36 := by
 unfold restW
 have k0 := hok.k0
 have h : 0 ≤ sumL ((loafAt s x.kind).take ((loafAt s x.kind).length - x.amount.toNat)) ∧ sumL ((loafAt s x.kind).take ((loafAt s x.kind).length - x.amount.toNat)) ≤ 36 := by
  by_cases hk : x.kind.toNat < s.loaves.length
  ·have hgd : loafAt s x.kind = s.loaves[x.kind.toNat] := loafAt0 (List.getElem?_eq_getElem hk)
   rw [hgd]
   have hlf := hok.lf _ (List.getElem_mem hk)
   have hl4 := hlf.l4
   have := sumL_bk 9 (s.loaves[x.kind.toNat].take (s.loaves[x.kind.toNat].length - x.amount.toNat)) fun y hy => by have := hlf.r y (List.mem_of_mem_take hy); omega
   rw [List.length_take] at this
   omega
  ·have : loafAt s x.kind = [] := by unfold loafAt; rw [List.getD_eq_getElem?_getD, List.getElem?_eq_none (by omega)]; rfl
   rw [this]; simp [sumL]
 generalize sumL ((loafAt s x.kind).take ((loafAt s x.kind).length - x.amount.toNat)) = S at h ⊢
 omega
theorem suN_bd {s : Sw} (hok : SOk s) (xs : List Want) (k : Nat) : 0 ≤ suN s xs k ∧ suN s xs k ≤ 36 * xs.length := by
 unfold suN
 have h := sumL_bk 36 ((xs.filter (isTp k)).map (restW s)) fun y hy => by
  obtain ⟨x, _, rfl⟩ := List.mem_map.1 hy
  exact restW_bd hok x
 rw [List.length_map] at h
 have h1 := List.length_filter_le (isTp k) xs
 omega
theorem loaf_sum {s : Sw} (hok : SOk s) (k : Nat) : 0 ≤ sumL (s.loaves.getD k []) ∧ sumL (s.loaves.getD k []) ≤ 36 := by
 by_cases hk : k < s.loaves.length
 ·have hgd : s.loaves.getD k [] = s.loaves[k] := loafAt0 (List.getElem?_eq_getElem hk)
  rw [hgd]
  have hlf := hok.lf _ (List.getElem_mem hk)
  have hl4 := hlf.l4
  have := sumL_bk 9 s.loaves[k] fun y hy => by have := hlf.r y hy; omega
  omega
 ·rw [List.getD_eq_getElem?_getD, List.getElem?_eq_none (by omega)]; simp [sumL]
def sugarD (s : Sw) (xs : List Want) (l : List Int) : List Int := (List.range s.loaves.length).map fun k => l.getD k 0 * sumL (s.loaves.getD k []) + suN s xs k
theorem mul_bd {a b : Int} (h1 : 0 ≤ a ∧ a ≤ 8) (h2 : 0 ≤ b ∧ b ≤ 36) : 0 ≤ a * b ∧ a * b ≤ 288 := by
 refine ⟨Int.mul_nonneg h1.1 h2.1, ?_⟩
 have := Int.mul_le_mul h1.2 h2.2 h2.1 (by decide)
 omega
end Go.Mz


set_option maxRecDepth 100000
namespace Go.Mz
open Go.Conc Go.Proofs
variable {X : Logic Tryz.prog}
theorem wants_mem {s : Sw} (hok : SOk s) {w : List Nat} {x : Want} (hx : x ∈ wantsOf s w) : WtOk s.loaves x := by
 unfold wantsOf at hx
 obtain ⟨i, _, hi⟩ := List.mem_filterMap.1 hx
 exact hok.wt x (List.mem_of_getElem? hi)
theorem suN_far {s : Sw} (hok : SOk s) (w : List Nat) {k : Nat} (hk : s.loaves.length ≤ k) : suN s (wantsOf s w) k = 0 := by
 unfold suN
 rw [List.filter_eq_nil_iff.2]
 ·rfl
 ·intro x hx h
  have hw := wants_mem hok hx
  simp [isTp] at h
  have := hw.k1
  omega
theorem any_on {α : Type} {f g : α → Bool} : ∀ {l : List α}, (∀ k ∈ l, f k = g k) → l.any f = l.any g
 | [], _ => rfl
 | x :: l, h => by rw [List.any_cons, List.any_cons, h x List.mem_cons_self, any_on fun k hk => h k (List.mem_cons_of_mem _ hk)]
theorem tksN_du (k : Nat) (xs : List Want) : tksN (k : Int) xs = duN xs k := by
 unfold tksN duN
 congr 2
theorem tksN_all : ∀ {xs : List Want}, (∀ x ∈ xs, InP x) → tksN (-1) xs = duN xs 0 + duN xs 1 + duN xs 2 + anN xs
 | [], _ => rfl
 | x :: xs, h => by
  have ih := tksN_all fun y hy => h y (List.mem_cons_of_mem _ hy)
  have hx := (h x List.mem_cons_self).k
  rw [duN_cons, duN_cons, duN_cons, anN_cons]
  have ht : tksN (-1) (x :: xs) = tksN (-1) xs + if isTks (-1) x then x.amount else 0 := by
   unfold tksN
   rw [List.filter_cons]
   split
   ·rw [List.map_cons, sumL_cons]; omega
   ·omega
  rw [ht, ih]
  by_cases hs : x.sort = 1
  ·rcases hx with e | e | e | ⟨e, _⟩ <;> simp [isTks, isDu, isAny, hs, e] <;> omega
  ·simp [isTks, isDu, isAny, hs]
theorem sugarD_sum {s : Sw} (hok : SOk s) (w : List Nat) (l : List Int) : sumL (sugarD s (wantsOf s w) l) = sumL (planW s w l).s := by
 rw [planW_eq hok, sum3]
 have h1 := hok.l1
 have h3 := hok.l3
 have h0 := suN_far hok w (k := 0)
 have h4 := suN_far hok w (k := 1)
 have h5 := suN_far hok w (k := 2)
 have : s.loaves.length = 1 ∨ s.loaves.length = 2 ∨ s.loaves.length = 3 := by omega
 rcases this with e | e | e
 all_goals
  rw [e] at h0 h4 h5
  simp [sugarD, e, lfN, List.range_succ, sumL] at h4 h5 ⊢
  omega
theorem over_eq {s : Sw} (hok : SOk s) (w : List Nat) (l : List Int) : sumL (sugarD s (wantsOf s w) l) - tksN (-1) (wantsOf s w) = leftW (planW s w l) := by
 unfold leftW
 rw [sugarD_sum hok, tksN_all hok.inp, planW_eq hok]
 simp only [sum3]
 omega
theorem right_eq {s : Sw} (hok : SOk s) (w : List Nat) (l : List Int) : rightW s (planW s w l) =
  if (List.range s.loaves.length).any (fun k => decide (s.stock.getD k 0 < tkN (wantsOf s w) k + l.getD k 0)) then 12 else
  if (List.range s.loaves.length).any (fun k => decide (l.getD k 0 * sumL (s.loaves.getD k []) + suN s (wantsOf s w) k < tksN k (wantsOf s w))) then 9 else
  if sumL (sugarD s (wantsOf s w) l) < tksN (-1) (wantsOf s w) then 9 else 0 := by
 have hst := hok.st
 have h3 := hok.l3
 have ho := over_eq hok w l
 unfold rightW
 rw [hst]
 have e1 : (List.range s.loaves.length).any (fun k => decide (s.stock.getD k 0 < (planW s w l).t.getD k 0)) = (List.range s.loaves.length).any (fun k => decide (s.stock.getD k 0 < tkN (wantsOf s w) k + l.getD k 0)) := by
  refine any_on fun k hk => ?_
  have hk := List.mem_range.1 hk
  rw [planW_eq hok, rng3_get (by omega)]
  unfold lfN
  rw [if_pos hk]
 have e2 : (List.range s.loaves.length).any (fun k => decide ((planW s w l).s.getD k 0 < (planW s w l).d.getD k 0)) = (List.range s.loaves.length).any (fun k => decide (l.getD k 0 * sumL (s.loaves.getD k []) + suN s (wantsOf s w) k < tksN k (wantsOf s w))) := by
  refine any_on fun k hk => ?_
  have hk := List.mem_range.1 hk
  rw [planW_eq hok, rng3_get (by omega), rng3_get (by omega), tksN_du]
  unfold lfN
  rw [if_pos hk, Int.add_comm]
 rw [e1, e2, ← ho]
 congr 2
 by_cases h : sumL (sugarD s (wantsOf s w) l) < tksN (-1) (wantsOf s w)
 ·rw [if_pos h, if_pos (by omega)]
 ·rw [if_neg h, if_neg (by omega)]
theorem getD_some {l : List Int} {k : Nat} (h : k < l.length) : l[k]? = some (l.getD k 0) := by rw [List.getD_eq_getElem?_getD, List.getElem?_eq_getElem h]; rfl
theorem sugarD_bd {s : Sw} (hok : SOk s) (xs : List Want) {l : List Int} (hg8 : ∀ k, 0 ≤ l.getD k 0 ∧ l.getD k 0 ≤ 8) (hx : xs.length ≤ 100) : ∀ y ∈ sugarD s xs l, 0 ≤ y ∧ y ≤ (4000 : Nat) := by
 intro y hy
 obtain ⟨k, _, rfl⟩ := List.mem_map.1 hy
 have h1 := suN_bd hok xs k
 have h2 := mul_bd (hg8 k) (loaf_sum hok k)
 omega
end Go.Mz


set_option maxRecDepth 100000
namespace Go.Mz
open Go.Conc Go.Proofs
variable {X : Logic Tryz.prog}
end Go.Mz


set_option maxRecDepth 100000
namespace Go.Mz
open Go.Conc Go.Proofs
variable {X : Logic Tryz.prog}
theorem tk_all : ∀ {xs : List Want}, (∀ x ∈ xs, InP x) → (xs.countP (fun x => x.sort == 2) : Int) ≤ tkN xs 0 + tkN xs 1 + tkN xs 2
 | [], _ => by simp [tkN]
 | x :: xs, h => by
  have ih := tk_all fun y hy => h y (List.mem_cons_of_mem _ hy)
  have hx := (h x List.mem_cons_self).k
  rw [tkN_cons, tkN_cons, tkN_cons, List.countP_cons]
  by_cases hs : x.sort = 2
  ·rcases hx with e | e | e | ⟨e, e'⟩ <;> simp [isTk, hs, e] <;> omega
  ·simp [hs]
   split <;> split <;> split <;> omega
theorem plansW_doc {s : Sw} (hok : SOk s) (w : List Nat) : plansW s w = (listsW s.stock).filter (okW s w) := by
 unfold plansW
 split
 ·rfl
 ·rename_i hc
  symm
  rw [List.filter_eq_nil_iff]
  intro l hl hokl
  apply hc
  have hlm := listsW_mem hl
  have hr : rightW s (planW s w l) = 0 := by unfold okW at hokl; simpa using hokl
  rw [right_eq hok] at hr
  have hst := hok.st
  have h1 := hok.l1
  have h3 := hok.l3
  have hany : (List.range s.loaves.length).any (fun k => decide (s.stock.getD k 0 < tkN (wantsOf s w) k + l.getD k 0)) = false := by
   cases h : (List.range s.loaves.length).any (fun k => decide (s.stock.getD k 0 < tkN (wantsOf s w) k + l.getD k 0)) with
   | false => rfl
   | true => rw [h, if_pos rfl] at hr; cases hr
  rw [List.any_eq_false] at hany
  have hk : ∀ k, k < s.loaves.length → tkN (wantsOf s w) k ≤ s.stock.getD k 0 := fun k hk => by
   have := hany k (List.mem_range.2 hk)
   have h2 := (hlm.2 k).1
   simp only [decide_eq_true_eq] at this
   omega
  have far : ∀ k, s.loaves.length ≤ k → tkN (wantsOf s w) k = 0 := fun k hk => by
   unfold tkN
   rw [List.countP_eq_zero.2]
   ·rfl
   ·intro x hx h
    have hw := wants_mem hok hx
    simp [isTk] at h
    have := hw.k1
    omega
  have ht := tk_all (xs := wantsOf s w) hok.inp
  have e0 := hk 0
  have e1 := hk 1
  have e2 := hk 2
  have f1 := far 1
  have f2 := far 2
  unfold cutsW
  have hs : ∀ st : List Int, st.length = s.loaves.length → sumL st = st.getD 0 0 + (if 1 < s.loaves.length then st.getD 1 0 else 0) + (if 2 < s.loaves.length then st.getD 2 0 else 0) := fun st hl => by
   have : s.loaves.length = 1 ∨ s.loaves.length = 2 ∨ s.loaves.length = 3 := by omega
   rcases this with e | e | e
   all_goals rw [e] at hl ⊢
   ·match st, hl with
    | [a], _ => simp [sumL]
   ·match st, hl with
    | [a, b], _ => simp [sumL]
   ·match st, hl with
    | [a, b, c], _ => simp [sumL]
  rw [hs _ hst]
  split <;> split <;> omega
end Go.Mz


set_option maxRecDepth 100000
namespace Go.Mz
open Go.Conc Go.Proofs
variable {X : Logic Tryz.prog}
end Go.Mz


set_option maxRecDepth 100000
namespace Go.Mz
open Go.Conc Go.Proofs
variable {X : Logic Tryz.prog}
def picksW (n : Nat) : Nat → List (List Nat)
 | 0 => [[]]
 | d + 1 => [] :: (List.range (d + 1)).attach.flatMap fun k => (picksW n (d - k.1)).map fun w => (n - (d + 1) + k.1) :: w
termination_by d => d
theorem picksW_eq (n d : Nat) : picksW n d = [] :: (List.range d).flatMap fun k => (picksW n (d - 1 - k)).map fun w => (n - d + k) :: w := by
 cases d with
 | zero => rw [picksW]; rfl
 | succ d =>
  rw [picksW]
  congr 1
  have : ∀ (l : List Nat) (g : Nat → List (List Nat)), l.attach.flatMap (fun k => g k.1) = l.flatMap g := fun l g => by
   rw [← List.flatMap_map (f := Subtype.val), List.attach_map_subtype_val]
  exact this (List.range (d + 1)) fun k => (picksW n (d - k)).map fun w => (n - (d + 1) + k) :: w
theorem picksW_mem {n : Nat} : ∀ {d : Nat}, d ≤ n → ∀ {w : List Nat}, w ∈ picksW n d ↔ Asc w ∧ ∀ i ∈ w, n - d ≤ i ∧ i < n := by
 intro d
 induction d using Nat.strongRecOn with
 | ind d ih =>
  intro hd w
  rw [picksW_eq]
  cases w with
  | nil => simp [Asc]
  | cons x w =>
   rw [List.mem_cons]
   simp only [List.mem_flatMap, List.mem_range, List.mem_map, reduceCtorEq, false_or]
   constructor
   ·rintro ⟨k, hk, w', hw', he⟩
    cases he
    obtain ⟨h1, h2⟩ := (ih (d - 1 - k) (by omega) (by omega)).1 hw'
    refine ⟨List.pairwise_cons.2 ⟨fun y hy => by have := h2 y hy; omega, h1⟩, fun i hi => ?_⟩
    rcases List.mem_cons.1 hi with rfl | hi
    ·omega
    ·have := h2 i hi; omega
   ·rintro ⟨h1, h2⟩
    obtain ⟨h3, h4⟩ := List.pairwise_cons.1 h1
    have hx := h2 x List.mem_cons_self
    refine ⟨x - (n - d), by omega, w, (ih _ (by omega) (by omega)).2 ⟨h4, fun i hi => ?_⟩, by congr 1; omega⟩
    have := h3 i hi
    have := h2 i (List.mem_cons_of_mem _ hi)
    omega
theorem ltL_irr : ∀ a : List Nat, ltL a a = false
 | [] => rfl
 | a :: l => by rw [ltL, ltL_irr l]; simp
theorem picksW_sorted (n : Nat) : ∀ d : Nat, (picksW n d).Pairwise fun a b => ltL a b = true := by
 intro d
 induction d using Nat.strongRecOn with
 | ind d ih =>
  rw [picksW_eq]
  refine List.pairwise_cons.2 ⟨fun w hw => ?_, ?_⟩
  ·obtain ⟨k, _, hw⟩ := List.mem_flatMap.1 hw
   obtain ⟨w', _, rfl⟩ := List.mem_map.1 hw
   rfl
  ·rw [List.pairwise_flatMap]
   refine ⟨fun k hk => ?_, ?_⟩
   ·have hk := List.mem_range.1 hk
    rw [List.pairwise_map]
    refine (ih (d - 1 - k) (by omega)).imp fun {a b} h => ?_
    rw [ltL, h]; simp
   ·refine List.pairwise_lt_range.imp fun {i j} hij x hx y hy => ?_
    obtain ⟨a, _, rfl⟩ := List.mem_map.1 hx
    obtain ⟨b, _, rfl⟩ := List.mem_map.1 hy
    rw [ltL]
    simp; omega
end Go.Mz


set_option maxRecDepth 100000
namespace Go.Mz
open Go.Conc Go.Proofs
variable {X : Logic Tryz.prog}
def srvB (s : Sw) (w : List Nat) : Bool := (crushW s w).isSome
def servedL (s : Sw) : List (List Nat) := (picksW s.wants.length s.wants.length).filter (srvB s)
theorem picks_wn {s : Sw} {w : List Nat} (h : w ∈ picksW s.wants.length s.wants.length) : Asc w ∧ WnOk s w := by
 obtain ⟨h1, h2⟩ := (picksW_mem (Nat.le_refl _)).1 h
 exact ⟨h1, fun i hi => (h2 i hi).2⟩
end Go.Mz


set_option maxRecDepth 100000
namespace Go.Mz
open Go.Conc Go.Proofs
variable {X : Logic Tryz.prog}
def mostW (s : Sw) (l : List (List Nat)) : Int := l.foldl (fun n w => max n (payW s w)) 0
theorem mostW_snoc (s : Sw) (l : List (List Nat)) (w : List Nat) : mostW s (l ++ [w]) = max (mostW s l) (payW s w) := by unfold mostW; rw [List.foldl_append]; rfl
def coW (s : Sw) (w : List Nat) : Int := ((crushW s w).map (·.c)).getD (-1)
def ltIx (s : Sw) (l : List (List Nat)) (a b : Nat) : Bool := decide (coW s (l.getD a []) < coW s (l.getD b []))
def bestIx (s : Sw) (l : List (List Nat)) (j : Nat) : Option Nat := firstBy (ltIx s l) ((List.range j).filter fun i => decide (mostW s l ≤ payW s (l.getD i [])))
theorem snoc_ind {α : Type} {P : List α → Prop} (h0 : P []) (h1 : ∀ l x, P l → P (l ++ [x])) (l : List α) : P l := by
 generalize hn : l.length = n
 induction n generalizing l with
 | zero => rw [List.length_eq_zero_iff] at hn; subst hn; exact h0
 | succ n ih =>
  have hne : l ≠ [] := fun e => by subst e; simp at hn
  rw [← List.dropLast_concat_getLast hne]
  exact h1 _ _ (ih _ (by simp; omega))
theorem firstBy_key {α : Type} {f : α → Int} : ∀ (l : List α) (x : α), firstBy (fun a b => decide (f a < f b)) l = some x → ∃ pre post, l = pre ++ x :: post ∧ (∀ y ∈ pre, f x < f y) ∧ ∀ y ∈ post, f x ≤ f y := by
 intro l
 induction l using snoc_ind with
 | h0 => intro x h; cases h
 | h1 l z ih =>
  intro x h
  rw [firstBy_snoc] at h
  cases ho : firstBy (fun a b => decide (f a < f b)) l with
  | none =>
   rw [ho] at h
   cases h
   have hl : l = [] := by
    cases l with
    | nil => rfl
    | cons y l =>
     exfalso
     have : ∀ (l : List α) (y : α), ∃ w, l.foldl (takeBy (fun a b => decide (f a < f b))) (some y) = some w := fun l => by
      induction l with
      | nil => intro y; exact ⟨y, rfl⟩
      | cons u l ih =>
       intro y
       rw [List.foldl_cons]
       show ∃ w, l.foldl _ (if decide (f u < f y) then some u else some y) = some w
       split
       ·exact ih u
       ·exact ih y
     obtain ⟨w, hw⟩ := this l y
     unfold firstBy at ho
     rw [List.foldl_cons] at ho
     exact absurd (hw.symm.trans ho) (by simp)
   subst hl
   exact ⟨[], [], rfl, fun y hy => (by cases hy), fun y hy => (by cases hy)⟩
  | some b =>
   rw [ho] at h
   obtain ⟨pre, post, hl, h1, h2⟩ := ih b ho
   change (if decide (f z < f b) then some z else some b) = some x at h
   by_cases e : f z < f b
   ·rw [if_pos (by simpa using e)] at h
    cases h
    refine ⟨l, [], rfl, fun y hy => ?_, fun y hy => (by cases hy)⟩
    rw [hl] at hy
    rcases List.mem_append.1 hy with hy | hy
    ·have := h1 y hy; omega
    ·rcases List.mem_cons.1 hy with rfl | hy
     ·exact e
     ·have := h2 y hy; omega
   ·rw [if_neg (by simpa using e)] at h
    cases h
    refine ⟨pre, post ++ [z], by rw [hl]; simp, h1, fun y hy => ?_⟩
    rcases List.mem_append.1 hy with hy | hy
    ·exact h2 y hy
    ·rw [List.mem_singleton.1 hy]; omega
theorem firstBy_min {α : Type} {lt : α → α → Bool} (ht : ∀ a b c, lt a b = true → lt b c = true → lt a c = true) (hi : ∀ a, lt a a = false) : ∀ (l : List α) (x : α), firstBy lt l = some x → x ∈ l ∧ ∀ y ∈ l, lt y x = false := by
 intro l
 induction l using snoc_ind with
 | h0 => intro x h; cases h
 | h1 l z ih =>
  intro x h
  rw [firstBy_snoc] at h
  cases ho : firstBy lt l with
  | none =>
   rw [ho] at h
   cases h
   have hl : l = [] := by
    cases l with
    | nil => rfl
    | cons y l =>
     exfalso
     have : ∀ (l : List α) (y : α), ∃ w, l.foldl (takeBy lt) (some y) = some w := fun l => by
      induction l with
      | nil => intro y; exact ⟨y, rfl⟩
      | cons u l ih =>
       intro y
       rw [List.foldl_cons]
       show ∃ w, l.foldl _ (if lt u y then some u else some y) = some w
       split
       ·exact ih u
       ·exact ih y
     obtain ⟨w, hw⟩ := this l y
     unfold firstBy at ho
     rw [List.foldl_cons] at ho
     exact absurd (hw.symm.trans ho) (by simp)
   subst hl
   exact ⟨by simp, fun y hy => by simp at hy; rw [hy]; exact hi _⟩
  | some b =>
   rw [ho] at h
   obtain ⟨h1, h2⟩ := ih b ho
   change (if lt z b then some z else some b) = some x at h
   by_cases e : lt z b = true
   ·rw [if_pos e] at h
    cases h
    refine ⟨by simp, fun y hy => ?_⟩
    rcases List.mem_append.1 hy with hy | hy
    ·have h3 := h2 y hy
     cases h4 : lt y z with
     | false => rfl
     | true => rw [ht _ _ _ h4 e] at h3; cases h3
    ·rw [List.mem_singleton.1 hy]; exact hi _
   ·rw [if_neg e] at h
    cases h
    refine ⟨by simp [h1], fun y hy => ?_⟩
    rcases List.mem_append.1 hy with hy | hy
    ·exact h2 y hy
    ·rw [List.mem_singleton.1 hy]; simpa using e
theorem ltL_trans : ∀ {a b c : List Nat}, ltL a b = true → ltL b c = true → ltL a c = true
 | a, [], _, h, _ => by rw [show ltL a [] = false by cases a <;> rfl] at h; cases h
 | _, _ :: _, [], _, h => by cases h
 | [], _ :: _, _ :: _, _, _ => rfl
 | a :: l, b :: k, c :: m, h1, h2 => by
  rw [ltL] at h1 h2 ⊢
  simp only [Bool.or_eq_true, decide_eq_true_eq, Bool.and_eq_true] at h1 h2 ⊢
  rcases h1 with h1 | ⟨rfl, h1⟩
  ·rcases h2 with h2 | ⟨rfl, h2⟩
   ·exact .inl (by omega)
   ·exact .inl h1
  ·rcases h2 with h2 | ⟨rfl, h2⟩
   ·exact .inl h2
   ·exact .inr ⟨rfl, ltL_trans h1 h2⟩
theorem ltB_trans (s : Sw) (a b c : Cr) (h1 : ltB s a b = true) (h2 : ltB s b c = true) : ltB s a c = true := by
 unfold ltB at h1 h2 ⊢
 split at h1
 ·rename_i e1
  simp only [Bool.or_eq_true, decide_eq_true_eq, Bool.and_eq_true] at h1
  split at h2
  ·simp only [Bool.or_eq_true, decide_eq_true_eq, Bool.and_eq_true] at h2
   rw [if_pos (by omega)]
   simp only [Bool.or_eq_true, decide_eq_true_eq, Bool.and_eq_true]
   omega
  ·rename_i e2
   rw [if_pos (by omega)]
   simp only [Bool.or_eq_true, decide_eq_true_eq, Bool.and_eq_true]
   omega
 ·rename_i e1
  split at h2
  ·simp only [Bool.or_eq_true, decide_eq_true_eq, Bool.and_eq_true] at h2
   rw [if_pos (by omega)]
   simp only [Bool.or_eq_true, decide_eq_true_eq, Bool.and_eq_true]
   omega
  ·rename_i e2
   rw [if_neg (by omega)]
   exact ltL_trans h1 h2
theorem ltB_irr (s : Sw) (a : Cr) : ltB s a a = false := by
 unfold ltB
 rw [if_neg (by simp)]
 exact ltL_irr _
theorem mask_lt {n : Nat} {w : List Nat} (hw : ∀ i ∈ w, i < n) : maskW w < 2 ^ n := by
 refine Nat.lt_pow_two_of_testBit _ fun i hi => ?_
 rw [maskW_bit]
 cases h : w.contains i with
 | false => rfl
 | true => have := hw i (List.contains_iff_mem.1 h); omega
theorem bits_asc (m : Nat) : Asc (bits5 m) := List.Pairwise.filter _ List.pairwise_lt_range
theorem cand_iff {s : Sw} (hok : SOk s) (c : Cr) : c ∈ (allW s).filterMap id ↔ c.w ∈ picksW s.wants.length s.wants.length ∧ crushW s c.w = some c := by
 unfold allW
 rw [List.mem_filterMap]
 simp only [List.mem_map, List.mem_range, id, exists_eq_right]
 constructor
 ·rintro ⟨m, hm, hc⟩
  have hw := (crushW_some hc).1
  refine ⟨?_, by rw [hw]; exact hc⟩
  rw [hw, picksW_mem (Nat.le_refl _)]
  exact ⟨bits_asc m, fun i hi => ⟨by omega, bits_wn hm i hi⟩⟩
 ·rintro ⟨h1, h2⟩
  obtain ⟨ha, hw⟩ := picks_wn h1
  refine ⟨maskW c.w, mask_lt hw, ?_⟩
  rw [bits5_mask ha fun x hx => Nat.lt_of_lt_of_le (hw x hx) hok.w5]
  exact h2
theorem served_iff {s : Sw} {w : List Nat} : w ∈ servedL s ↔ w ∈ picksW s.wants.length s.wants.length ∧ ∃ c, crushW s w = some c := by
 unfold servedL
 rw [List.mem_filter]
 unfold srvB
 rw [Option.isSome_iff_exists]
theorem bestW_of {s : Sw} (hok : SOk s) (so : List Nat → Bool) {w : List Nat} {c : Cr} (hw : w ∈ picksW s.wants.length s.wants.length) (hs : so w = true) (hc : crushW s w = some c)
  (hall : ∀ v d, v ∈ picksW s.wants.length s.wants.length → so v = true → crushW s v = some d → v ≠ w → ltB s c d = true) : crWants (bestW s so) = w := by
 have hcw := (crushW_some hc).1
 have hmem : c ∈ ((allW s).filterMap id).filter fun c => so c.w := List.mem_filter.2 ⟨(cand_iff hok c).2 ⟨by rw [hcw]; exact hw, by rw [hcw]; exact hc⟩, by rw [hcw]; exact hs⟩
 cases hb : bestW s so with
 | none =>
  exfalso
  unfold bestW at hb
  generalize ((allW s).filterMap id).filter (fun c => so c.w) = l at hmem hb
  obtain ⟨pre, post, rfl⟩ := List.append_of_mem hmem
  have : ∀ (l : List Cr) (o : Option Cr), l.foldl (takeBy (ltB s)) o = none → l = [] ∧ o = none := fun l => by
   induction l with
   | nil => intro o h; exact ⟨rfl, h⟩
   | cons x l ih =>
    intro o h
    rw [List.foldl_cons] at h
    have := (ih _ h).2
    cases o with
    | none => cases this
    | some y =>
     change (if ltB s x y then some x else some y) = none at this
     split at this <;> cases this
  have := (this _ _ hb).1
  simp at this
 | some d =>
  obtain ⟨h1, h2⟩ := firstBy_min (ltB_trans s) (ltB_irr s) _ _ hb
  have h3 := h2 c hmem
  obtain ⟨h4, h5⟩ := List.mem_filter.1 h1
  obtain ⟨h6, h7⟩ := (cand_iff hok d).1 h4
  show d.w = w
  refine Classical.byContradiction fun hne => ?_
  rw [hall d.w d h6 h5 h7 hne] at h3
  cases h3
theorem mostW_le (s : Sw) (l : List (List Nat)) : ∀ w ∈ l, payW s w ≤ mostW s l := by
 induction l using snoc_ind with
 | h0 => intro w h; cases h
 | h1 l z ih =>
  intro w hw
  rw [mostW_snoc]
  rcases List.mem_append.1 hw with hw | hw
  ·have := ih w hw; omega
  ·rw [List.mem_singleton.1 hw]; omega
theorem mostW_mem {s : Sw} (hok : SOk s) (l : List (List Nat)) (hne : l ≠ []) : ∃ w ∈ l, payW s w = mostW s l := by
 induction l using snoc_ind with
 | h0 => exact absurd rfl hne
 | h1 l z ih =>
  rw [mostW_snoc]
  by_cases h : mostW s l ≤ payW s z
  ·exact ⟨z, by simp, by omega⟩
  ·by_cases hl : l = []
   ·subst hl
    have := (pay_bd hok z).1
    have h0 : mostW s [] = 0 := rfl
    omega
   ·obtain ⟨w, h1, h2⟩ := ih hl
    exact ⟨w, by simp [h1], by omega⟩
theorem firstBy_some {α : Type} {lt : α → α → Bool} {l : List α} (h : l ≠ []) : ∃ x, firstBy lt l = some x := by
 cases hb : firstBy lt l with
 | some x => exact ⟨x, rfl⟩
 | none =>
  exfalso
  have : ∀ (l : List α) (o : Option α), l.foldl (takeBy lt) o = none → l = [] ∧ o = none := fun l => by
   induction l with
   | nil => intro o h; exact ⟨rfl, h⟩
   | cons x l ih =>
    intro o h
    rw [List.foldl_cons] at h
    have := (ih _ h).2
    cases o with
    | none => cases this
    | some y =>
     change (if lt x y then some x else some y) = none at this
     split at this <;> cases this
  exact h (this _ _ hb).1
theorem zeros_mem : ∀ {st : List Int}, (∀ x ∈ st, 0 ≤ x ∧ x ≤ 8) → List.replicate st.length 0 ∈ listsW st
 | [], _ => by simp [listsW]
 | m :: t, h => by
  have hm := h m List.mem_cons_self
  rw [listsW, List.mem_flatMap]
  exact ⟨0, List.mem_range.2 (by omega), List.mem_map.2 ⟨_, zeros_mem fun x hx => h x (List.mem_cons_of_mem _ hx), rfl⟩⟩
theorem crush_nil {s : Sw} (hok : SOk s) : ∃ c, crushW s [] = some c := by
 refine firstBy_some ?_
 rw [plansW_doc hok]
 intro h
 rw [List.map_eq_nil_iff, List.filter_eq_nil_iff] at h
 refine h _ (zeros_mem hok.sr) ?_
 unfold okW
 rw [beq_iff_eq, right_eq hok]
 have hw : wantsOf s [] = [] := rfl
 have hg : ∀ k, (List.replicate s.stock.length (0 : Int)).getD k 0 = 0 := fun k => by
  rw [List.getD_eq_getElem?_getD, List.getElem?_replicate]
  split <;> rfl
 have h1 : (List.range s.loaves.length).any (fun k => decide (s.stock.getD k 0 < tkN (wantsOf s []) k + (List.replicate s.stock.length (0 : Int)).getD k 0)) = false := by
  rw [List.any_eq_false]
  intro k hk
  have hk := List.mem_range.1 hk
  have hst := hok.st
  have := hok.sr (s.stock.getD k 0) (by rw [List.getD_eq_getElem?_getD, List.getElem?_eq_getElem (by omega)]; exact List.getElem_mem _)
  rw [hg, hw]
  simp only [decide_eq_true_eq]
  have : tkN [] k = 0 := rfl
  omega
 have h2 : (List.range s.loaves.length).any (fun k => decide ((List.replicate s.stock.length (0 : Int)).getD k 0 * sumL (s.loaves.getD k []) + suN s (wantsOf s []) k < tksN k (wantsOf s []))) = false := by
  rw [List.any_eq_false]
  intro k _
  rw [hg, hw, Int.zero_mul]
  simp [suN, tksN, sumL]
 have h3 : ¬ sumL (sugarD s (wantsOf s []) (List.replicate s.stock.length 0)) < tksN (-1) (wantsOf s []) := by
  have := (sumL_bk 4000 _ (sugarD_bd hok (wantsOf s []) (l := List.replicate s.stock.length 0) (fun k => by rw [hg]; decide) (by simp [hw]))).1
  have h0 : tksN (-1) (wantsOf s []) = 0 := rfl
  omega
 rw [h1, h2, if_neg (by decide), if_neg (by decide), if_neg h3]
theorem nil_picks (n d : Nat) : [] ∈ picksW n d := by rw [picksW_eq]; exact List.mem_cons_self
theorem served_ne {s : Sw} (hok : SOk s) : servedL s ≠ [] := fun h => by
 have : [] ∈ servedL s := served_iff.2 ⟨nil_picks _ _, crush_nil hok⟩
 rw [h] at this; cases this
theorem served_sorted (s : Sw) : (servedL s).Pairwise fun a b => ltL a b = true := (picksW_sorted _ _).filter _
theorem getD_mem {l : List (List Nat)} {i : Nat} (h : i < l.length) : l.getD i [] ∈ l := by rw [List.getD_eq_getElem?_getD, List.getElem?_eq_getElem h]; exact List.getElem_mem h
theorem bestIx_some {s : Sw} (hok : SOk s) : ∃ i, bestIx s (servedL s) (servedL s).length = some i := by
 refine firstBy_some fun h => ?_
 obtain ⟨w, h1, h2⟩ := mostW_mem hok _ (served_ne hok)
 obtain ⟨i, hi, rfl⟩ := List.getElem_of_mem h1
 rw [List.filter_eq_nil_iff] at h
 refine h i (List.mem_range.2 hi) ?_
 rw [List.getD_eq_getElem?_getD, List.getElem?_eq_getElem hi, decide_eq_true_eq]
 exact Int.le_of_eq h2.symm
theorem bestIx_eq {s : Sw} (hok : SOk s) {i : Nat} (h : bestIx s (servedL s) (servedL s).length = some i) :
  i < (servedL s).length ∧ crWants (bestW s fun _ => true) = (servedL s).getD i [] ∧ payW s ((servedL s).getD i []) = mostW s (servedL s) := by
 obtain ⟨pre, post, hl, h1, h2⟩ := firstBy_key (f := fun i => coW s ((servedL s).getD i [])) _ _ h
 have hsort : (pre ++ i :: post).Pairwise (· < ·) := by rw [← hl]; exact List.Pairwise.filter _ List.pairwise_lt_range
 have hmem : i ∈ (List.range (servedL s).length).filter fun i => decide (mostW s (servedL s) ≤ payW s ((servedL s).getD i [])) := by rw [hl]; simp
 obtain ⟨hi, hp⟩ := List.mem_filter.1 hmem
 have hi := List.mem_range.1 hi
 rw [decide_eq_true_eq] at hp
 have hle := mostW_le s _ _ (getD_mem hi)
 have hpe : payW s ((servedL s).getD i []) = mostW s (servedL s) := by omega
 obtain ⟨hw, c, hc⟩ := served_iff.1 (getD_mem hi)
 refine ⟨hi, bestW_of hok (fun _ => true) hw rfl hc fun v d hv _ hd hne => ?_, hpe⟩
 have hcw := (crushW_some hc).1
 have hdw := (crushW_some hd).1
 have hvs : v ∈ servedL s := served_iff.2 ⟨hv, d, hd⟩
 have hvp := mostW_le s _ _ hvs
 unfold ltB
 rw [hcw, hdw]
 by_cases e : payW s v = mostW s (servedL s)
 ·obtain ⟨j, hj, hje⟩ := List.getElem_of_mem hvs
  have hgj : (servedL s).getD j [] = v := by rw [List.getD_eq_getElem?_getD, List.getElem?_eq_getElem hj, ← hje]; rfl
  have hjm : j ∈ pre ++ i :: post := by
   rw [← hl]
   exact List.mem_filter.2 ⟨List.mem_range.2 hj, by rw [hgj, decide_eq_true_eq]; omega⟩
  have cc : coW s ((servedL s).getD i []) = c.c := by unfold coW; rw [hc]; rfl
  have cd : coW s v = d.c := by unfold coW; rw [hd]; rfl
  rcases List.mem_append.1 hjm with hjm | hjm
  ·have := h1 j hjm
   simp only [hgj] at this
   rw [if_pos (by omega)]
   simp only [Bool.or_eq_true, decide_eq_true_eq, Bool.and_eq_true]
   omega
  ·rcases List.mem_cons.1 hjm with rfl | hjm
   ·exact absurd hgj.symm hne
   ·have h3 := h2 j hjm
    simp only [hgj] at h3
    by_cases e2 : c.c = d.c
    ·rw [if_neg (by omega)]
     have hij : i < j := (List.pairwise_cons.1 (List.pairwise_append.1 hsort).2.1).1 j hjm
     have := List.pairwise_iff_getElem.1 (served_sorted s) i j hi hj hij
     rw [hje] at this
     rw [List.getD_eq_getElem?_getD, List.getElem?_eq_getElem hi]
     exact this
    ·rw [if_pos (by omega)]
     simp only [Bool.or_eq_true, decide_eq_true_eq, Bool.and_eq_true]
     omega
 ·rw [if_pos (by omega)]
  simp only [Bool.or_eq_true, decide_eq_true_eq, Bool.and_eq_true]
  omega
end Go.Mz

