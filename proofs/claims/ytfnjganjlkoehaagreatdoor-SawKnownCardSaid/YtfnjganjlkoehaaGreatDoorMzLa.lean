/- Lemmas on which the claim leans. -/
import Derived.Test.YtfnjganjlkoehaaGreatDoorMzAs
set_option maxRecDepth 100000
namespace Go.Mz
open Go.Conc Go.Proofs
variable {X : Logic Tryz.prog}
abbrev plZ : Value := plV (0, 0, 0) (0, 0, 0) (0, 0, 0) 0
def AskQ (s : Sw) (p : Wp) (w l : List Int) (L : LH) (v : Value) (L' : LH) : Prop :=
 Le L L' ∧ ∃ (t u d : Int × Int × Int) (a : Int), (askW s w l ≠ 0 ∧ (v = .tuple #[swZ, plV t u d a, .int .i64 (askW s w l)] ∨ v = .tuple #[swA s p, plV t u d a, .int .i64 (askW s w l)])) ∨
  (askW s w l = 0 ∧ v = .tuple #[swA s p, plV t u d a, .int .i64 0] ∧ planW s (natsW w) l = ⟨l3 t, l3 u, l3 d, a⟩ ∧ PB 4000 ⟨l3 t, l3 u, l3 d, a⟩ ∧ SOk s ∧ Asc (natsW w) ∧ WnOk s (natsW w) ∧ l.length = s.loaves.length)
theorem openW_nil (s : Sw) : openW s [] [] = sawE s := by
 unfold openW
 by_cases h : sawE s = 0
 ·rw [if_neg (by simp [h])]; simp [h]
 ·rw [if_pos h]
theorem heapE_0 {l : List Int} (h : heapE l = 0) : ∀ x ∈ l, 0 ≤ x ∧ x ≤ 4 := by
 induction l with
 | nil => intro x hx; cases hx
 | cons y l ih =>
  rw [heapE] at h
  split at h
  ·cases h
  ·rename_i h1
   simp only [Bool.not_eq_true', Bool.not_eq_false, inB_iff] at h1
   intro x hx
   rcases List.mem_cons.1 hx with rfl | hx
   ·exact h1
   ·exact ih h x hx
theorem put_pad {l : List Int} {i : Nat} (hi : i < l.length) (h3 : l.length ≤ 3) {a b c : Int} (h : pad3 (l.take i) = [a, b, c]) : ∃ a' b' c', pad3 (l.take (i + 1)) = [a', b', c'] ∧
  putL [SV.v (.int .i64 a), SV.v (.int .i64 b), SV.v (.int .i64 c)] (0 + i * 1) [.v (.int .i64 l[i])] = [SV.v (.int .i64 a'), SV.v (.int .i64 b'), SV.v (.int .i64 c')] := by
 match l, i, hi, h3 with
 | [x], 0, _, _ => cases h; exact ⟨_, _, _, rfl, rfl⟩
 | [x, y], 0, _, _ => cases h; exact ⟨_, _, _, rfl, rfl⟩
 | [x, y], 1, _, _ => cases h; exact ⟨_, _, _, rfl, rfl⟩
 | [x, y, z], 0, _, _ => cases h; exact ⟨_, _, _, rfl, rfl⟩
 | [x, y, z], 1, _, _ => cases h; exact ⟨_, _, _, rfl, rfl⟩
 | [x, y, z], 2, _, _ => cases h; exact ⟨_, _, _, rfl, rfl⟩
theorem asked_sp (s : Sw) (p : Wp) (wa la : Option Addr) (wc lc : Nat) (w l : List Int) (L : LH) (h : SwAt L s p) (hn : Sm s) (hg : GlOk L) (h1 : IntsAt L wa w) (h2 : IntsAt L la l) (n1 : w.length ≤ 1000000) (n2 : l.length ≤ 1000000) :
  Sp X 106 [swA s p, .slice wa w.length wc, .slice la l.length lc] L (AskQ s p w l L) := by
 refine Sp.enter (n := 78) Tryz.func106 rfl rfl rfl rfl fun C hX _ hL0 r => ?_
 refine W.go 99 rfl ?_
 refine W.eff rfl rfl rfl (Ef.call rfl (open_sp s p none none 0 0 [] [] L h hn SlAt.empty SlAt.empty (by simp) (by simp))) ?_
 rintro _ _ _ ⟨v0, rfl, rfl, hle, hq⟩
 refine W.go 99 rfl ?_
 rename_i L1
 rw [openW_nil] at hq
 rcases hq with ⟨he, rfl⟩ | ⟨he, rfl⟩
 ·refine W.go 99 rfl ?_
  have ha : askW s w l = sawE s := by unfold askW; rw [if_pos he]
  refine W.split rfl rfl rfl (fun e1 => W.go 99 rfl ?_) (fun e1 => W.go 99 rfl ?_)
  ·refine W.ret r rfl rfl ?_
   exact ⟨hle, (0, 0, 0), (0, 0, 0), (0, 0, 0), 0, .inl ⟨by rw [ha]; exact he, .inl (by rw [ha]; rfl)⟩⟩
  ·simp at e1; exact absurd e1 he
 have hok := sawE_0 he
 refine W.go 99 rfl ?_
 refine W.split rfl rfl rfl (fun e1 => W.go 99 rfl ?_) (fun e1 => W.go 99 rfl ?_)
 ·simp at e1
 refine W.eff rfl rfl rfl (Ef.call rfl (read_sp s p wa wc w _ hok.w5 (h1.le hle) n1)) ?_
 rintro _ _ _ ⟨v0, rfl, rfl, rfl, hq⟩
 refine W.go 99 rfl ?_
 rcases hq with ⟨hr, rfl⟩ | ⟨hr, rfl⟩
 ·refine W.go 99 rfl ?_
  have ha : askW s w l = readW s w := by unfold askW; rw [if_neg (by simp [he]), if_pos hr]
  refine W.split rfl rfl rfl (fun e2 => W.go 99 rfl ?_) (fun e2 => W.go 99 rfl ?_)
  ·refine W.ret r rfl rfl ?_
   exact ⟨hle, (0, 0, 0), (0, 0, 0), (0, 0, 0), 0, .inl ⟨by rw [ha]; exact hr, .inr (by rw [ha]; rfl)⟩⟩
  ·simp at e2; exact absurd e2 hr
 obtain ⟨hasc, hwn, _⟩ := read_asc hr
 have hbm := bits5_mask hasc fun x hx => Nat.lt_of_lt_of_le (hwn x hx) hok.w5
 have hm32 := maskW_lt fun x hx => Nat.lt_of_lt_of_le (hwn x hx) hok.w5
 refine W.go 99 rfl ?_
 refine W.split rfl rfl rfl (fun e2 => W.go 99 rfl ?_) (fun e2 => W.go 99 rfl ?_)
 ·simp at e2
 refine W.eff rfl rfl rfl (Ef.call rfl (sized_sp _ _ _ _)) ?_
 rintro _ _ _ ⟨_, rfl, rfl, rfl, rfl⟩
 refine W.go 99 rfl ?_
 refine W.split rfl rfl rfl (fun e3 => W.go 99 rfl ?_) (fun e3 => W.go 99 rfl ?_)
 ·have e3' : sizedE l.length s.loaves.length s.loaves.length ≠ 0 := by simpa using e3
  have ha : askW s w l = sizedE l.length s.loaves.length s.loaves.length := by unfold askW; rw [if_neg (by simp [he]), if_neg (by simp [hr]), if_pos e3']
  refine W.ret r rfl rfl ?_
  exact ⟨hle, (0, 0, 0), (0, 0, 0), (0, 0, 0), 0, .inl ⟨by rw [ha]; exact e3', .inr (by rw [ha]; rfl)⟩⟩
 have e3' : sizedE l.length s.loaves.length s.loaves.length = 0 := by simpa using e3
 have hll : l.length = s.loaves.length := by have := sizedE_0.1 e3'; omega
 have hl3 := hok.l3
 have hbase : askW s w l = if heapE l ≠ 0 then heapE l else rightW s (planW s (natsW w) l) := by
  unfold askW; rw [if_neg (by simp [he]), if_neg (by simp [hr]), if_neg (by simp [e3'])]
 rename_i L2
 have h2' := h2.le hle
 refine W.loop (fun m E B L' => ∃ (i : Nat) (a b c : Int), m = l.length - i ∧ i ≤ l.length ∧ heapE (l.drop i) = heapE l ∧ pad3 (l.take i) = [a, b, c] ∧ L1 = L' ∧
   E = [(9, .p 3 0), (6, .p 1 0), (7, .p 2 0), (11, .v (.int .u8 (maskW (natsW w)))), (13, .p 4 0), (52, .v (.slice la l.length lc)), (53, .v (.int .i64 l.length)), (54, .v (.int .i64 i))] ∧
   B = [some ⟨cellsS (.v (swA s p)), 26⟩, some ⟨cellsS (.v swZ), 83⟩, some ⟨cellsS (.v plZ), 126⟩, some ⟨cellsS (.v (swA s p)), 83⟩, some ⟨cellsS (.v (v3 a b c)), 99⟩])
  ⟨0, 0, 0, 0, rfl, by omega, rfl, rfl, rfl, rfl, rfl⟩ (by exact ⟨rfl, rfl, rfl, rfl, rfl, rfl, rfl, rfl, trivial⟩) (by exact ⟨rfl, rfl, rfl, rfl, rfl, trivial⟩) ?_
 rintro _ _ _ _ ⟨i, a, b, c, rfl, hi, hg2, hpad, rfl, rfl, rfl⟩ again
 refine W.go 99 rfl ?_
 refine W.split rfl rfl rfl (fun d1 => W.go 99 rfl ?_) (fun d1 => W.go 99 rfl ?_)
 ·have hil : i < l.length := by simpa using d1
  obtain ⟨lad, rfl⟩ := h2'.addr hil
  rw [List.drop_eq_getElem_cons hil, heapE] at hg2
  obtain ⟨a', b', c', hp', hput⟩ := put_pad hil (by omega) hpad
  refine W.vf rfl rfl rfl rfl (Vf.idx1 rfl rfl rfl rfl rfl rfl rfl (hil)) ?_
  refine W.go 99 rfl ?_
  refine W.vf rfl rfl rfl rfl (Vf.load rfl rfl rfl (h2'.int (List.getElem?_eq_getElem hil))) ?_
  refine W.go 99 rfl ?_
  refine W.eff rfl rfl rfl (Ef.call rfl (within_sp _ _ _ _)) ?_
  rintro _ _ _ ⟨_, rfl, rfl, rfl, rfl⟩
  refine W.go 99 rfl ?_
  refine W.split rfl rfl rfl (fun d2 => W.go 99 rfl ?_) (fun d2 => W.go 99 rfl ?_)
  ·rw [if_pos (by simpa using d2)] at hg2
   have ha : askW s w l = 1 := by rw [hbase, ← hg2]; rfl
   refine W.ret r rfl rfl ?_
   exact ⟨hle, (0, 0, 0), (0, 0, 0), (0, 0, 0), 0, .inl ⟨by rw [ha]; decide, .inr (by rw [ha]; rfl)⟩⟩
  ·rw [if_neg (by simpa using d2)] at hg2
   refine W.vf rfl rfl rfl rfl (Vf.idxA rfl rfl rfl rfl rfl rfl (show i < 3 by omega)) ?_
   refine W.eff0 rfl rfl (Ef.stoA rfl rfl rfl rfl rfl (by exact rfl) (by exact (show 0 + i * 1 + 1 ≤ 3 by omega)) (by exact rfl) (by exact hput)) ?_
   rintro _ _ _ ⟨rfl, rfl, rfl⟩
   refine W.go 99 rfl ?_
   exact W.again (again _ _ _ _ (by omega) ⟨i + 1, a', b', c', rfl, by omega, hg2, hp', rfl, rfl, rfl⟩) ⟨rfl, rfl, rfl, rfl, rfl, rfl, rfl, congrArg some (inc64 (by omega)), trivial⟩ ⟨rfl, rfl, rfl, rfl, rfl, trivial⟩
 have hie : i = l.length := by simp at d1; omega
 subst hie
 rw [List.drop_length] at hg2
 rw [List.take_length] at hpad
 have hl4 := heapE_0 hg2.symm
 have hask : askW s w l = rightW s (planW s (natsW w) l) := by rw [hbase, if_neg (by rw [← hg2]; simp [heapE])]
 have hge : ∀ k, 0 ≤ l.getD k 0 ∧ l.getD k 0 ≤ 8 := fun k => by
  rw [List.getD_eq_getElem?_getD]
  cases e : l[k]? with
  | none => exact ⟨by decide, by decide⟩
  | some y => have := hl4 y (List.mem_of_getElem? e); exact ⟨this.1, by show y ≤ 8; omega⟩
 have ha := hge 0
 have hb := hge 1
 have hc := hge 2
 rw [← pad3_get, hpad] at ha hb hc
 have hpl := plan_sp (X := C.X) s p (maskW (natsW w)) a b c _ (h.le hle) hok hm32 (by rw [hbm]; exact hwn) ha hb hc
 have hwn' : WnOk s (bits5 (maskW (natsW w))) := by rw [hbm]; exact hwn
 have hPB : PB 4000 (planW s (natsW w) l) := by
  have := (planTo_PB hok hwn' (bits5_len _) hge s.loaves.length).mono (show (300 + 288 * (s.loaves.length : Int)) ≤ 4000 by omega)
  rw [hbm] at this
  exact this
 rw [hbm, ← hpad, planW_pad] at hpl
 obtain ⟨⟨t0, t1, t2, et, ht0, ht1, ht2⟩, ⟨s0, s1, s2, es, hs0, hs1, hs2⟩, ⟨d0, d1', d2, ed, hd0, hd1, hd2⟩, hqa⟩ := id hPB
 clear hbase
 generalize hPe : planW s (natsW w) l = P at *
 obtain ⟨q1, q2, q3, q4⟩ := P
 simp only at et es ed hqa
 subst et es ed
 refine W.eff rfl rfl rfl (Ef.call rfl (hpl)) ?_
 rintro _ _ _ ⟨_, rfl, rfl, rfl, hlp⟩
 change W _ _ _ _ ((71, SV.v (plV (t0, t1, t2) (s0, s1, s2) (d0, d1', d2) q4)) :: _) _ _
 refine W.go 99 rfl ?_
 rename_i L3
 refine W.weak (E' := [(6, .p 1 0), (7, .p 2 0), (9, .p 3 0), (16, .p 5 0)]) (B' := [some ⟨cellsS (.v (swA s p)), 26⟩, some ⟨cellsS (.v swZ), 83⟩, some ⟨cellsS (.v plZ), 126⟩, some ⟨cellsS (.v (swA s p)), 83⟩, some ⟨cellsS (.v (v3 a b c)), 99⟩, some ⟨cellsS (.v (plV (t0, t1, t2) (s0, s1, s2) (d0, d1', d2) q4)), 126⟩]) (by exact ⟨rfl, rfl, rfl, rfl, trivial⟩) (by exact ⟨rfl, rfl, rfl, rfl, rfl, rfl, trivial⟩) ?_
 refine W.pub 9 (.inl ⟨_, rfl⟩) rfl rfl ?_
 intro b9 hb9 _
 refine W.pub 16 (.inl ⟨_, rfl⟩) rfl rfl ?_
 intro b16 hb16 _
 have f9 := Le.put hb9 (.cells (encSw s p).toArray 83)
 have f16 := Le.put hb16 (.cells (encPl ⟨[t0, t1, t2], [s0, s1, s2], [d0, d1', d2], q4⟩).toArray 126)
 have k9 := f16 _ _ (put_same L3 b9 (.cells (encSw s p).toArray 83))
 have k16 := put_same (L3.put b9 (.cells (encSw s p).toArray 83)) b16 (.cells (encPl ⟨[t0, t1, t2], [s0, s1, s2], [d0, d1', d2], q4⟩).toArray 126)
 have hle6 := (hle.trans hlp).trans (f9.trans f16)
 clear f9 f16
 change W _ _ _ _ _ _ ((L3.put b9 (.cells (encSw s p).toArray 83)).put b16 (.cells (encPl ⟨[t0, t1, t2], [s0, s1, s2], [d0, d1', d2], q4⟩).toArray 126))
 generalize (L3.put b9 (.cells (encSw s p).toArray 83)).put b16 (.cells (encPl ⟨[t0, t1, t2], [s0, s1, s2], [d0, d1', d2], q4⟩).toArray 126) = L6 at k9 k16 hle6 ⊢
 refine W.drawn0 (by kernel_rfl) _ (Le.refl _) ?_
 refine DD.vf 0 rfl rfl rfl rfl rfl (Vf.loadN rfl rfl rfl (cellsAt_n (vs := encSw s p) k9 rfl)) ?_
 refine DD.vf 1 rfl rfl rfl rfl rfl (Vf.loadN rfl rfl rfl (cellsAt_n (vs := encPl ⟨[t0, t1, t2], [s0, s1, s2], [d0, d1', d2], q4⟩) k16 rfl)) ?_
 refine DD.vf 2 rfl rfl rfl rfl rfl (Vf.loadN rfl rfl rfl (cellsAt_n (vs := encSw s p) k9 rfl)) ?_
 refine DD.vf 3 rfl rfl rfl rfl rfl (Vf.loadN rfl rfl rfl (cellsAt_n (vs := encPl ⟨[t0, t1, t2], [s0, s1, s2], [d0, d1', d2], q4⟩) k16 rfl)) ?_
 refine DD.act 4 rfl rfl rfl rfl rfl (Ef.call rfl (right_sp s p _ L6 (h.le hle6) hok hPB)) ((by rintro _ _ _ ⟨_, rfl, rfl, rfl, hl⟩; exact ⟨hl, rfl, .inl rfl⟩)) ?_
 rintro _ _ _ ⟨_, rfl, rfl, rfl, hl7⟩
 refine DD.act 5 rfl rfl rfl rfl rfl (Ef.call rfl (errno_sp _ _ (hg.le (hle6.trans hl7)))) ((by rintro _ _ _ ⟨_, rfl, rfl, rfl, hl⟩; exact ⟨hl7.trans hl, rfl, .inl rfl⟩)) ?_
 rintro _ _ _ ⟨_, rfl, rfl, rfl, hl8⟩
 have hl68 := hl7.trans hl8
 refine DD.act 6 rfl rfl rfl rfl rfl (Ef.sto rfl) ((by rintro _ _ _ ⟨rfl, rfl, rfl⟩; exact ⟨hl68, rfl, .inl rfl⟩)) ?_
 rintro _ _ _ ⟨rfl, rfl, rfl⟩
 refine DD.act 7 rfl rfl rfl rfl rfl (Ef.sto rfl) ((by rintro _ _ _ ⟨rfl, rfl, rfl⟩; exact ⟨hl68, rfl, .inl rfl⟩)) ?_
 rintro _ _ _ ⟨rfl, rfl, rfl⟩
 refine DD.run' [8] rfl ?_
 refine .fin rfl ?_
 refine W.go 99 rfl ?_
 refine W.ret r rfl rfl ?_
 refine ⟨hle6.trans hl68, (t0, t1, t2), (s0, s1, s2), (d0, d1', d2), q4, ?_⟩
 by_cases hz : rightW s ⟨[t0, t1, t2], [s0, s1, s2], [d0, d1', d2], q4⟩ = 0
 ·exact .inr ⟨by rw [hask, hz], by rw [hz]; rfl, hPe, hPB, hok, hasc, hwn, hll⟩
 ·exact .inl ⟨by rw [hask]; exact hz, .inr (by rw [hask]; rfl)⟩
theorem Right_sp (s : Sw) (p : Wp) (wa la : Option Addr) (wc lc : Nat) (w l : List Int) (L : LH) (h : SwAt L s p) (hn : Sm s) (hg : GlOk L) (h1 : IntsAt L wa w) (h2 : IntsAt L la l) (n1 : w.length ≤ 1000000) (n2 : l.length ≤ 1000000) :
  Sp X 50 [swA s p, .slice wa w.length wc, .slice la l.length lc] L (fun v L' => v = .int .i64 (askW s w l) ∧ Le L L') := by
 refine Sp.enter (n := 19) Tryz.func50 rfl rfl rfl rfl fun C hX _ hL0 r => ?_
 refine W.go 99 rfl ?_
 refine W.eff rfl rfl rfl (Ef.call rfl (asked_sp s p wa la wc lc w l L h hn hg h1 h2 n1 n2)) ?_
 rintro _ _ _ ⟨v0, rfl, rfl, hle, t, u, d, a, hq⟩
 rcases hq with ⟨he, rfl | rfl⟩ | ⟨he, rfl, _⟩
 ·refine W.go 99 rfl ?_
  refine W.ret r rfl rfl ?_
  exact ⟨rfl, hle⟩
 ·refine W.go 99 rfl ?_
  refine W.ret r rfl rfl ?_
  exact ⟨rfl, hle⟩
 ·refine W.go 99 rfl ?_
  refine W.ret r rfl rfl ?_
  exact ⟨by rw [he]; rfl, hle⟩
end Go.Mz


set_option maxRecDepth 100000
namespace Go.Mz
open Go.Conc Go.Proofs
variable {X : Logic Tryz.prog}
theorem nth_t {t u d : Int × Int × Int} {a : Int} {k : Nat} (hk : k < 3) : nth (cellsS (.v (plV t u d a))) (0 + 0 + k * 1) = some (.v (.int .i64 ((l3 t).getD k 0))) := by
 match k, hk with
 | 0, _ => rfl
 | 1, _ => rfl
 | 2, _ => rfl
def ListQ (x : List Int × Int × Int) (L : LH) (v : Value) (L' : LH) : Prop := ∃ ad cap, v = .tuple #[.slice ad x.1.length cap, .int .i64 x.2.1, .int .i64 x.2.2] ∧ IntsAt L' ad x.1 ∧ Le L L'
theorem Left_sp (s : Sw) (p : Wp) (wa la : Option Addr) (wc lc : Nat) (w l : List Int) (L : LH) (h : SwAt L s p) (hn : Sm s) (hg : GlOk L) (h1 : IntsAt L wa w) (h2 : IntsAt L la l) (n1 : w.length ≤ 1000000) (n2 : l.length ≤ 1000000) :
  Sp X 43 [swA s p, .slice wa w.length wc, .slice la l.length lc] L (ListQ (LeftE s w l) L) := by
 refine Sp.enter (n := 48) Tryz.func43 rfl rfl rfl rfl fun C hX _ hL0 r => ?_
 refine W.go 99 rfl ?_
 refine W.eff rfl rfl rfl (Ef.call rfl (asked_sp s p wa la wc lc w l L h hn hg h1 h2 n1 n2)) ?_
 rintro _ _ _ ⟨v0, rfl, rfl, hle, t, u, d, a, hq⟩
 rename_i L1
 rcases hq with ⟨he, hv⟩ | ⟨he, rfl, hpl, hPB, hok, _⟩
 ·have hLE : LeftE s w l = ([], 0, askW s w l) := by unfold LeftE; rw [if_pos he]
  rw [hLE] at r
  rcases hv with rfl | rfl
  ·refine W.go 99 rfl ?_
   refine W.split rfl rfl rfl (fun e1 => W.go 99 rfl ?_) (fun e1 => W.go 99 rfl ?_)
   ·refine W.ret r rfl rfl ?_
    exact ⟨none, 0, rfl, SlAt.empty, hle⟩
   ·simp at e1; exact absurd e1 he
  ·refine W.go 99 rfl ?_
   refine W.split rfl rfl rfl (fun e1 => W.go 99 rfl ?_) (fun e1 => W.go 99 rfl ?_)
   ·refine W.ret r rfl rfl ?_
    exact ⟨none, 0, rfl, SlAt.empty, hle⟩
   ·simp at e1; exact absurd e1 he
 have hLE : LeftE s w l = (stayW s ⟨l3 t, l3 u, l3 d, a⟩, leftW ⟨l3 t, l3 u, l3 d, a⟩, 0) := by unfold LeftE; rw [if_neg (by simp [he]), hpl]
 rw [hLE] at r
 have hl3 := hok.l3
 have hst := hok.st
 have hs1 := (h.le hle).st
 refine W.go 99 rfl ?_
 refine W.split rfl rfl rfl (fun e1 => W.go 99 rfl ?_) (fun e1 => W.go 99 rfl ?_)
 ·simp at e1
 refine W.loop (fun m E B L' => ∃ (i : Nat) (v : Value), m = s.stock.length - i ∧ i ≤ s.stock.length ∧ Grow L1 1 3 encI L' v ((List.range i).map fun k => s.stock.getD k 0 - (l3 t).getD k 0) ∧
   E = [(10, .p 2 0), (12, .v v), (28, .v (.slice p.sa s.stock.length p.sc)), (29, .v (.int .i64 s.stock.length)), (30, .v (.int .i64 i))] ∧ B = [some ⟨cellsS (.v (swA s p)), 26⟩, some ⟨cellsS (.v (swA s p)), 83⟩, some ⟨cellsS (.v (plV t u d a)), 126⟩])
  ⟨0, _, rfl, by omega, Grow.nil (Le.refl _), rfl, rfl⟩ (by exact ⟨rfl, rfl, rfl, rfl, rfl, trivial⟩) (by exact ⟨rfl, rfl, rfl, trivial⟩) ?_
 rintro _ _ _ L2 ⟨i, v, rfl, hi, hgr, rfl, rfl⟩ again
 refine W.go 99 rfl ?_
 refine W.split rfl rfl rfl (fun d1 => W.go 99 rfl ?_) (fun d1 => W.go 99 rfl ?_)
 ·have hil : i < s.stock.length := by simpa using d1
  have hx : s.stock[i]? = some s.stock[i] := List.getElem?_eq_getElem hil
  have hgx : s.stock.getD i 0 = s.stock[i] := by rw [List.getD_eq_getElem?_getD, hx]; rfl
  have hsr := hok.sr s.stock[i] (List.getElem_mem hil)
  have htr := hPB.t.get i
  obtain ⟨sa, hsa⟩ := hs1.addr hil
  have hs2 := hs1.le hgr.1
  obtain ⟨qa, qb, qc, qd, qe, qf⟩ := p
  obtain rfl : qb = some sa := hsa
  refine W.vf rfl rfl rfl rfl (Vf.idx1 rfl rfl rfl rfl rfl rfl rfl (hil)) ?_
  refine W.go 99 rfl ?_
  refine W.vf rfl rfl rfl rfl (Vf.load rfl rfl rfl (hs2.int hx)) ?_
  refine W.go 99 rfl ?_
  refine W.vf rfl rfl rfl rfl (Vf.idxA rfl rfl rfl rfl rfl rfl (show i < 3 by omega)) ?_
  refine W.vf rfl rfl rfl rfl (Vf.loadA rfl rfl rfl rfl (by exact nth_t (by omega))) ?_
  refine W.go 99 rfl ?_
  rw [wrap64_in (s.stock[i] - (l3 t).getD i 0) (by simp only at htr; omega) (by simp only at htr; omega)]
  refine W.eff rfl rfl rfl (Ef.grow rfl rfl rfl rfl rfl rfl rfl rfl rfl encI_len encI_sg hgr (ls := [s.stock[i] - (l3 t).getD i 0]) (.own rfl rfl rfl rfl) (by simp; omega)) ?_
  rintro _ _ _ ⟨v', rfl, rfl, hg', _⟩
  refine W.go 99 rfl ?_
  exact W.again (again _ _ _ _ (by omega) ⟨i + 1, v', rfl, by omega, by rw [List.range_succ, List.map_append, List.map_cons, List.map_nil, hgx]; exact hg', rfl, rfl⟩) ⟨rfl, rfl, rfl, rfl, congrArg some (inc64 (by omega)), trivial⟩ ⟨rfl, rfl, rfl, trivial⟩
 have hie : i = s.stock.length := by simp at d1; omega
 subst hie
 obtain ⟨⟨_, _, _, et, _⟩, ⟨_, _, _, es, hu0, hu1, hu2⟩, ⟨_, _, _, ed, hd0, hd1, hd2⟩, hqa⟩ := hPB
 cases es; cases ed
 refine W.go 99 rfl ?_
 refine W.eff rfl rfl rfl (Ef.call rfl (left_sp t u d a _ ⟨hu0, hu1, hu2⟩ ⟨hd0, hd1, hd2⟩ hqa)) ?_
 rintro _ _ _ ⟨_, rfl, rfl, rfl, hl⟩
 refine W.go 99 rfl ?_
 obtain ⟨ad, cap, rfl, hcp⟩ := hgr.slice
 have hgs := (hgr.at encI_len).2
 refine W.ret r rfl rfl ?_
 exact ⟨ad, cap, by unfold stayW; rfl, by unfold stayW; exact hgs.le hl, (hle.trans hgr.1).trans hl⟩
end Go.Mz


set_option maxRecDepth 100000
namespace Go.Mz
open Go.Conc Go.Proofs
variable {X : Logic Tryz.prog}
theorem foldBy_mem {α : Type} {lt : α → α → Bool} : ∀ (l : List α) (o : Option α) (x : α), l.foldl (takeBy lt) o = some x → x ∈ l ∨ o = some x
 | [], o, x, h => .inr h
 | y :: l, o, x, h => by
  rw [List.foldl_cons] at h
  rcases foldBy_mem l _ x h with h | h
  ·exact .inl (List.mem_cons_of_mem _ h)
  ·cases o with
   | none => cases h; exact .inl List.mem_cons_self
   | some z =>
    unfold takeBy at h
    dsimp only at h
    split at h
    ·cases h; exact .inl List.mem_cons_self
    ·exact .inr h
theorem firstBy_mem {α : Type} {lt : α → α → Bool} {l : List α} {x : α} (h : firstBy lt l = some x) : x ∈ l := by
 rcases foldBy_mem l none x h with h | h
 ·exact h
 ·cases h
theorem crushW_some {s : Sw} {w : List Nat} {c : Cr} (h : crushW s w = some c) : c.w = w ∧ c.l.length = s.stock.length := by
 have := firstBy_mem h
 obtain ⟨l, hl, rfl⟩ := List.mem_map.1 this
 exact ⟨rfl, (listsW_mem (plansW_mem hl)).1⟩
theorem l3_take {l : List Int} (h : l.length ≤ 3) : [l.getD 0 0, l.getD 1 0, l.getD 2 0].take l.length = l := by
 match l, h with
 | [], _ => rfl
 | [a], _ => rfl
 | [a, b], _ => rfl
 | [a, b, c], _ => rfl
theorem Crush_sp (s : Sw) (p : Wp) (wa : Option Addr) (wc : Nat) (w : List Int) (L : LH) (h : SwAt L s p) (hn : Sm s) (h1 : IntsAt L wa w) (n1 : w.length ≤ 1000000) :
  Sp X 33 [swA s p, .slice wa w.length wc] L (ListQ (CrushE s w) L) := by
 refine Sp.enter (n := 40) Tryz.func33 rfl rfl rfl rfl fun C hX _ hL0 r => ?_
 refine W.go 99 rfl ?_
 refine W.eff rfl rfl rfl (Ef.call rfl (open_sp s p none none 0 0 [] [] L h hn SlAt.empty SlAt.empty (by simp) (by simp))) ?_
 rintro _ _ _ ⟨v0, rfl, rfl, hle, hq⟩
 refine W.go 99 rfl ?_
 rename_i L1
 rw [openW_nil] at hq
 rcases hq with ⟨he, rfl⟩ | ⟨he, rfl⟩
 ·have hCE : CrushE s w = ([], 0, sawE s) := by unfold CrushE; rw [if_pos he]
  rw [hCE] at r
  refine W.go 99 rfl ?_
  refine W.split rfl rfl rfl (fun e1 => W.go 99 rfl ?_) (fun e1 => W.go 99 rfl ?_)
  ·refine W.ret r rfl rfl ?_
   exact ⟨none, 0, rfl, SlAt.empty, hle⟩
  ·simp at e1; exact absurd e1 he
 have hok := sawE_0 he
 refine W.go 99 rfl ?_
 refine W.split rfl rfl rfl (fun e1 => W.go 99 rfl ?_) (fun e1 => W.go 99 rfl ?_)
 ·simp at e1
 refine W.eff rfl rfl rfl (Ef.call rfl (read_sp s p wa wc w _ hok.w5 (h1.le hle) n1)) ?_
 rintro _ _ _ ⟨v0, rfl, rfl, rfl, hq⟩
 refine W.go 99 rfl ?_
 rcases hq with ⟨hr, rfl⟩ | ⟨hr, rfl⟩
 ·have hCE : CrushE s w = ([], 0, readW s w) := by unfold CrushE; rw [if_neg (by simp [he]), if_pos hr]
  rw [hCE] at r
  refine W.go 99 rfl ?_
  refine W.split rfl rfl rfl (fun e2 => W.go 99 rfl ?_) (fun e2 => W.go 99 rfl ?_)
  ·refine W.ret r rfl rfl ?_
   exact ⟨none, 0, rfl, SlAt.empty, hle⟩
  ·simp at e2; exact absurd e2 hr
 obtain ⟨hasc, hwn, _⟩ := read_asc hr
 have hbm := bits5_mask hasc fun x hx => Nat.lt_of_lt_of_le (hwn x hx) hok.w5
 have hm32 := maskW_lt fun x hx => Nat.lt_of_lt_of_le (hwn x hx) hok.w5
 have hCE : CrushE s w = crushE s (natsW w) := by unfold CrushE; rw [if_neg (by simp [he]), if_neg (by simp [hr])]
 rw [hCE] at r
 have hcr := crush_sp (X := C.X) s p (maskW (natsW w)) _ (h.le hle) hok hm32 (by rw [hbm]; exact hwn)
 rw [hbm] at hcr
 refine W.go 99 rfl ?_
 refine W.split rfl rfl rfl (fun e2 => W.go 99 rfl ?_) (fun e2 => W.go 99 rfl ?_)
 ·simp at e2
 cases ho : crushW s (natsW w) with
 | none =>
  rw [ho] at hcr
  have hc2 : crushE s (natsW w) = ([], 0, 11) := by unfold crushE; rw [ho]
  rw [hc2] at r
  refine W.eff rfl rfl rfl (Ef.call rfl (hcr)) ?_
  rintro _ _ _ ⟨_, rfl, rfl, rfl, hl⟩
  refine W.go 99 rfl ?_
  refine W.split rfl rfl rfl (fun _ => ?_) (fun z => absurd z (by simp [crV]))
  refine W.go 99 rfl ?_
  refine W.ret r rfl rfl ?_
  exact ⟨none, 0, rfl, SlAt.empty, hle.trans hl⟩
 | some c =>
  rw [ho] at hcr
  have hc2 : crushE s (natsW w) = (c.l, c.c, 0) := by unfold crushE; rw [ho]
  rw [hc2] at r
  obtain ⟨_, hcl⟩ := crushW_some ho
  have hlen : c.l.length = s.loaves.length := by rw [hcl, hok.st]
  have hl3 := hok.l3
  refine W.eff rfl rfl rfl (Ef.call rfl (hcr)) ?_
  rintro _ _ _ ⟨_, rfl, rfl, rfl, hl⟩
  refine W.go 99 rfl ?_
  rename_i L2
  refine W.split rfl rfl rfl (fun z => absurd z (by simp [crV, ofCr])) (fun _ => ?_)
  refine W.go 99 rfl ?_
  have hls := loaves_sp (X := C.X) s p (c.l.getD 0 0) (c.l.getD 1 0) (c.l.getD 2 0) L2 hl3
  rw [← hlen, l3_take (by omega)] at hls
  refine W.drawn (by kernel_rfl) _ (Le.refl _) ?_
  refine DD.run' [0, 1, 2, 4, 5] rfl ?_
  refine DD.act 3 rfl rfl rfl rfl rfl (Ef.call rfl (hls)) ((by rintro _ _ _ ⟨_, rfl, rfl, _, _, rfl, hl, _⟩; exact ⟨hl, rfl, .inl rfl⟩)) ?_
  rintro _ _ _ ⟨_, rfl, rfl, ad, cap, rfl, hl4, hsl, _⟩
  refine DD.run' [6, 7, 8] rfl ?_
  refine .fin rfl ?_
  refine W.go 99 rfl ?_
  refine W.ret r rfl rfl ?_
  exact ⟨ad, cap, rfl, hsl, (hle.trans hl).trans hl4⟩
theorem readGo_of : ∀ {w : List Nat} {n : Nat} {p : Option Int}, Asc w → (∀ i ∈ w, i < n) → (∀ q, p = some q → ∀ i ∈ w, q < (i : Int)) → readGo ((n : Int) - 1) p (natI w) = 0
 | [], n, p, _, _, _ => rfl
 | x :: w, n, p, ha, hn, hp => by
  have hx := hn x List.mem_cons_self
  have hc := List.pairwise_cons.1 ha
  show readGo ((n : Int) - 1) p ((x : Int) :: natI w) = 0
  rw [readGo, if_neg (by simp [inB]; omega), if_neg]
  ·exact readGo_of hc.2 (fun i hi => hn i (List.mem_cons_of_mem _ hi)) fun q hq i hi => by
    cases hq
    have := hc.1 i hi
    omega
  ·cases p with
   | none => simp [downB]
   | some q =>
    have := hp q rfl x List.mem_cons_self
    simp [downB]
    omega
theorem natsW_natI (w : List Nat) : natsW (natI w) = w := by
 unfold natsW natI
 rw [List.map_map]
 exact (List.map_congr_left (g := id) fun i _ => rfl).trans (List.map_id _)
theorem asc_range (n : Nat) : Asc (List.range n) := List.pairwise_lt_range
theorem CrushE_natI {s : Sw} (h : sawE s = 0) {w : List Nat} (ha : Asc w) (hw : WnOk s w) : CrushE s (natI w) = crushE s w := by
 have hr : readW s (natI w) = 0 := readGo_of ha hw fun q hq => by cases hq
 unfold CrushE
 rw [if_neg (by simp [h]), if_neg (by simp [hr]), natsW_natI]
theorem Fewest_sp (s : Sw) (p : Wp) (L : LH) (h : SwAt L s p) (hn : Sm s) : Sp X 36 [swA s p] L (ListQ (FewestE s) L) := by
 refine Sp.enter (n := 23) Tryz.func36 rfl rfl rfl rfl fun C hX _ hL0 r => ?_
 refine W.go 99 rfl ?_
 refine W.eff rfl rfl rfl (Ef.call rfl (open_sp s p none none 0 0 [] [] L h hn SlAt.empty SlAt.empty (by simp) (by simp))) ?_
 rintro _ _ _ ⟨v0, rfl, rfl, hle, hq⟩
 refine W.go 99 rfl ?_
 rename_i L1
 rw [openW_nil] at hq
 rcases hq with ⟨he, rfl⟩ | ⟨he, rfl⟩
 ·have hCE : FewestE s = ([], 0, sawE s) := by unfold FewestE; rw [if_pos he]
  rw [hCE] at r
  refine W.go 99 rfl ?_
  refine W.split rfl rfl rfl (fun e1 => W.go 99 rfl ?_) (fun e1 => W.go 99 rfl ?_)
  ·refine W.ret r rfl rfl ?_
   exact ⟨none, 0, rfl, SlAt.empty, hle⟩
  ·simp at e1; exact absurd e1 he
 have hok := sawE_0 he
 have hw5 := hok.w5
 have hm : 2 ^ s.wants.length - 1 < 32 := by
  have : 2 ^ s.wants.length ≤ 2 ^ 5 := Nat.pow_le_pow_right (by decide) hw5
  omega
 have hfb := full_bits hw5
 have hwn : WnOk s (fullW s) := fun i hi => List.mem_range.1 hi
 have hCE : FewestE s = CrushE s (natI (fullW s)) := by rw [CrushE_natI (w := fullW s) he (asc_range _) hwn]; unfold FewestE; rw [if_neg (by simp [he])]
 rw [hCE] at r
 refine W.go 99 rfl ?_
 refine W.split rfl rfl rfl (fun e1 => W.go 99 rfl ?_) (fun e1 => W.go 99 rfl ?_)
 ·simp at e1
 refine W.drawn (by kernel_rfl) _ (Le.refl _) ?_
 refine DD.run' [0, 1] rfl ?_
 refine DD.act 2 rfl rfl rfl rfl rfl (Ef.call rfl (full_sp s p L1 hw5)) (by rintro _ _ _ ⟨_, rfl, rfl, rfl, rfl⟩; exact ⟨Le.refl _, rfl, .inl rfl⟩) ?_
 rintro _ _ _ ⟨_, rfl, rfl, rfl, rfl⟩
 have hls := list_sp (X := C.X) (2 ^ s.wants.length - 1) hm L1
 rw [hfb] at hls
 refine DD.act 3 rfl rfl rfl rfl rfl (Ef.call rfl (hls)) ((by rintro _ _ _ ⟨_, rfl, rfl, _, _, rfl, hl, _⟩; exact ⟨hl, rfl, .inl rfl⟩)) ?_
 rintro _ _ _ ⟨v1, rfl, rfl, a1, c1, rfl, hl3, hsl, hcp3⟩
 rename_i L3
 refine DD.act 4 rfl rfl rfl rfl rfl (Ef.call rfl (Crush_sp s p a1 c1 (natI (fullW s)) L3 (h.le (hle.trans hl3)) hn hsl (by rw [natI_len]; simp [fullW]; omega))) ((by rintro _ _ _ ⟨_, rfl, rfl, _, _, rfl, _, hl⟩; exact ⟨hl3.trans hl, rfl, .inl rfl⟩)) ?_
 rintro _ _ _ ⟨_, rfl, rfl, ad, cap, rfl, hs5, hl5⟩
 refine DD.run' [5, 6, 7, 8, 9, 10] rfl ?_
 refine .fin rfl ?_
 refine W.go 99 rfl ?_
 refine W.ret r rfl rfl ?_
 exact ⟨ad, cap, rfl, hs5, (hle.trans hl3).trans hl5⟩
end Go.Mz


set_option maxRecDepth 100000
namespace Go.Mz
open Go.Conc Go.Proofs
variable {X : Logic Tryz.prog}
def ltBV (s : Sw) (x y : CrV) : Bool :=
 if payW s (bits5 x.w) ≠ payW s (bits5 y.w) ∨ x.n ≠ y.n then decide (payW s (bits5 y.w) < payW s (bits5 x.w)) || (decide (payW s (bits5 x.w) = payW s (bits5 y.w)) && decide (x.n < y.n)) else ltL (bits5 x.w) (bits5 y.w)
theorem best1_sp (s : Sw) (p : Wp) (bs : Nat) (x y : CrV) (L : LH) (hc : cellsAt L ⟨bs, 0, none⟩ 4 (encSw s p)) (hs : SwAt L s p) (hok : SOk s) (hx : x.w < 32) (hy : y.w < 32) (wx : WnOk s (bits5 x.w)) (wy : WnOk s (bits5 y.w)) :
  Sp X 127 [cC x, cC y, pt bs] L (fun v L' => v = .bool (ltBV s x y) ∧ Le L L') := by
 refine Sp.enter (n := 49) Tryz.func127 rfl rfl rfl rfl fun C hX _ hL0 r => ?_
 refine W.go 99 rfl ?_
 refine W.drawn (by kernel_rfl) L (Le.refl _) ?_
 refine DD.vf 0 rfl rfl rfl rfl rfl (Vf.loadN rfl rfl rfl ((by exact hc))) ?_
 refine DD.run' [1, 2] rfl ?_
 refine DD.vf 4 rfl rfl rfl rfl rfl (Vf.loadN rfl rfl rfl ((by exact hc))) ?_
 refine DD.run' [5, 6] rfl ?_
 refine DD.act 3 rfl rfl rfl rfl rfl (Ef.call rfl (pay_sp s p x.w _ hs hok hx wx)) ((by rintro _ _ _ ⟨_, rfl, rfl, rfl, hl⟩; exact ⟨hl, rfl, .inl rfl⟩)) ?_
 rintro _ _ _ ⟨_, rfl, rfl, rfl, hl1⟩
 refine DD.act 7 rfl rfl rfl rfl rfl (Ef.call rfl (pay_sp s p y.w _ (hs.le hl1) hok hy wy)) ((by rintro _ _ _ ⟨_, rfl, rfl, rfl, hl⟩; exact ⟨hl1.trans hl, rfl, .inl rfl⟩)) ?_
 rintro _ _ _ ⟨_, rfl, rfl, rfl, hl2⟩
 refine DD.run' [8, 9] rfl ?_
 refine .fin rfl ?_
 refine W.go 99 rfl ?_
 refine W.go 99 rfl ?_
 have h3 : (payW s (bits5 x.w) != payW s (bits5 y.w)) = true → payW s (bits5 x.w) ≠ payW s (bits5 y.w) := fun h => by simpa using h
 refine W.split rfl rfl rfl (fun e1 => ?_) (fun e1 => ?_)
 ·refine W.go 99 rfl ?_
  have e1 := h3 e1
  refine W.split rfl rfl rfl (fun e2 => ?_) (fun e2 => ?_)
  ·refine W.go 99 rfl ?_
   refine W.ret r rfl rfl ?_
   refine ⟨?_, hl1.trans hl2⟩
   simp at e2
   unfold ltBV
   rw [if_pos (.inl e1)]
   simp [e2, retV]
  ·refine W.go 99 rfl ?_
   refine W.split rfl rfl rfl (fun e3 => ?_) (fun e3 => ?_)
   ·simp at e3; exact absurd e3 e1
   ·refine W.go 99 rfl ?_
    refine W.ret r rfl rfl ?_
    refine ⟨?_, hl1.trans hl2⟩
    simp at e2
    unfold ltBV
    rw [if_pos (.inl e1)]
    have : ¬ payW s (bits5 y.w) < payW s (bits5 x.w) := by omega
    simp [this, e1, retV]
 refine W.go 99 rfl ?_
 simp at e1
 refine W.split rfl rfl rfl (fun e2 => ?_) (fun e2 => ?_)
 ·refine W.go 99 rfl ?_
  have e2 : x.n ≠ y.n := by simpa using e2
  refine W.split rfl rfl rfl (fun h => absurd h (by simp; omega)) (fun _ => ?_)
  refine W.go 99 rfl ?_
  refine W.split rfl rfl rfl (fun _ => ?_) (fun h => absurd h (by simp [e1]))
  refine W.go 99 rfl ?_
  refine W.ret r rfl rfl ?_
  refine ⟨?_, hl1.trans hl2⟩
  unfold ltBV
  rw [if_pos (.inr e2)]
  simp [e1, retV]
 refine W.go 99 rfl ?_
 simp at e2
 have r1 : ltBV s x y = ltL (bits5 x.w) (bits5 y.w) := by unfold ltBV; rw [if_neg (by simp [e1, e2])]
 have b1 := bits5_len x.w
 have b2 := bits5_len y.w
 have q1 := natI_len (bits5 x.w)
 have q2 := natI_len (bits5 y.w)
 refine W.drawn (by kernel_rfl) _ (Le.refl _) ?_
 refine DD.run' [0, 1, 3, 4] rfl ?_
 refine DD.act 2 rfl rfl rfl rfl rfl (Ef.call rfl (list_sp x.w hx _)) ((by rintro _ _ _ ⟨_, rfl, rfl, _, _, rfl, hl, _⟩; exact ⟨hl, rfl, .inl rfl⟩)) ?_
 rintro _ _ _ ⟨v1, rfl, rfl, a1, c1, rfl, hl3, hs1, _⟩
 refine DD.act 5 rfl rfl rfl rfl rfl (Ef.call rfl (list_sp y.w hy _)) ((by rintro _ _ _ ⟨_, rfl, rfl, _, _, rfl, hl, _⟩; exact ⟨hl3.trans hl, rfl, .inl rfl⟩)) ?_
 rintro _ _ _ ⟨v2, rfl, rfl, a2, c2, rfl, hl4, hs2, _⟩
 refine DD.act 6 rfl rfl rfl rfl rfl (Ef.call rfl (Compare_sp a1 a2 c1 c2 (natI (bits5 x.w)) (natI (bits5 y.w)) _ (hs1.le hl4) hs2 (by omega) (by omega))) ((by rintro _ _ _ ⟨_, rfl, rfl, rfl, rfl⟩; exact ⟨hl3.trans hl4, rfl, .inl rfl⟩)) ?_
 rintro _ _ _ ⟨_, rfl, rfl, rfl, rfl⟩
 refine DD.run' [7, 8] rfl ?_
 refine .fin rfl ?_
 refine W.go 99 rfl ?_
 refine W.ret r rfl rfl ?_
 refine ⟨?_, ((hl1.trans hl2).trans hl3).trans hl4⟩
 rw [r1, ← cmpL_natI]
 simp [retV]
def BstV (s : Sw) (o : Option Cr) (y : CrV) (sm : Bool) : Prop := match o with
 | none => sm = false ∧ y = zC
 | some c => sm = true ∧ ∃ m, m < 2 ^ s.wants.length ∧ crushW s (bits5 m) = some c ∧ y = ofCr m c
theorem found_some {s : Sw} {k : Nat} {c : Cr} (h : crushW s (bits5 k) = some c) : found s k = ofCr k c := by unfold found crV; rw [h]
theorem found_none {s : Sw} {k : Nat} (h : crushW s (bits5 k) = none) : (found s k).i = false := by unfold found crV; rw [h]
def firstsW (s : Sw) (k : Nat) : List (Option Cr) := (List.range k).map fun m => crushW s (bits5 m)
theorem firstsW_succ (s : Sw) (k : Nat) : firstsW s (k + 1) = firstsW s k ++ [crushW s (bits5 k)] := by unfold firstsW; rw [List.range_succ, List.map_append]; rfl
def bestU (s : Sw) (so : List Nat → Bool) (k : Nat) : Option Cr := firstBy (ltB s) (((firstsW s k).filterMap id).filter fun c => so c.w)
theorem bestU_none {s : Sw} {so : List Nat → Bool} {k : Nat} (h : crushW s (bits5 k) = none) : bestU s so (k + 1) = bestU s so k := by
 unfold bestU; rw [firstsW_succ, h, List.filterMap_append]; simp
theorem bestU_no {s : Sw} {so : List Nat → Bool} {k : Nat} {c : Cr} (h : crushW s (bits5 k) = some c) (hs : so c.w = false) : bestU s so (k + 1) = bestU s so k := by
 unfold bestU; rw [firstsW_succ, h, List.filterMap_append, List.filter_append]; simp [hs]
theorem bestU_yes {s : Sw} {so : List Nat → Bool} {k : Nat} {c : Cr} (h : crushW s (bits5 k) = some c) (hs : so c.w = true) : bestU s so (k + 1) = takeBy (ltB s) (bestU s so k) c := by
 unfold bestU; rw [firstsW_succ, h, List.filterMap_append, List.filter_append, show List.filter (fun c => so c.w) (List.filterMap id [some c]) = [c] by simp [hs], firstBy_snoc]
theorem ltBV_of {s : Sw} {a b : Cr} {m n : Nat} (ha : crushW s (bits5 m) = some a) (hb : crushW s (bits5 n) = some b) : ltBV s (ofCr m a) (ofCr n b) = ltB s a b := by
 have h1 := (crushW_some ha).1
 have h2 := (crushW_some hb).1
 unfold ltBV ltB
 rw [h1, h2]
 rfl
theorem BstV.take {s : Sw} {o : Option Cr} {y : CrV} {sm : Bool} (h : BstV s o y sm) {m : Nat} {c : Cr} (hm : m < 2 ^ s.wants.length) (hc : crushW s (bits5 m) = some c) : BstV s (takeBy (ltB s) o c) (if !sm || ltBV s (ofCr m c) y then ofCr m c else y) true := by
 cases o with
 | none =>
  obtain ⟨rfl, rfl⟩ := h
  exact ⟨rfl, m, hm, hc, rfl⟩
 | some z =>
  obtain ⟨rfl, n, hn, hz, rfl⟩ := h
  rw [ltBV_of hc hz]
  show BstV s (if ltB s c z then some c else some z) _ _
  cases ltB s c z
  ·exact ⟨rfl, n, hn, hz, rfl⟩
  ·exact ⟨rfl, m, hm, hc, rfl⟩
theorem BstV.wn {s : Sw} (hok : SOk s) {o : Option Cr} {y : CrV} {sm : Bool} (h : BstV s o y sm) : y.w < 32 ∧ WnOk s (bits5 y.w) := by
 cases o with
 | none =>
  obtain ⟨rfl, rfl⟩ := h
  exact ⟨by decide, fun i hi => by rw [show bits5 zC.w = [] from by decide] at hi; cases hi⟩
 | some z =>
  obtain ⟨rfl, n, hn, hz, rfl⟩ := h
  have := pow5 hok
  exact ⟨show n < 32 by omega, bits_wn hn⟩
end Go.Mz


set_option maxRecDepth 100000
namespace Go.Mz
open Go.Conc Go.Proofs
variable {Post : Value → World → Prop} {W0 : World}
abbrev fsF (b : Nat) : Value := .func (.func 127) #[] #[pt b]
abbrev fstV (b : Nat) (y : CrV) (sm : Bool) : Value := .agg (fsF b :: (encC y ++ [Value.bool sm])).toArray
theorem best_sp (s : Sw) (p : Wp) (so : List Nat → Bool) (fv : Value) (L : LH) (hs : SwAt L s p) (hok : SOk s) (hfn : ∃ a b c, fv = .func a b c)
  (hso : ∀ (L' : LH) (m : Nat), Dim L L' → m < 2 ^ s.wants.length → SpV (LFGo Tryz.prog Post W0) fv [.int .u8 m] L' (fun v L'' => v = .bool (so (bits5 m)) ∧ Le L' L'')) :
  Sp (LFGo Tryz.prog Post W0) 95 [swA s p, fv] L (fun v L' => ∃ gv y sm, v = fstV gv y sm ∧ BstV s (bestW s so) y sm ∧ Dim L L') := by
 obtain ⟨yf, yt, yc, rfl⟩ := hfn
 have h5 := pow5 hok
 refine Sp.enter (n := 29) Tryz.func95 rfl rfl rfl rfl fun C hX _ hL0 r => ?_
 refine W.goP [8] 99 rfl ?_
 refine W.pub 2 (.inl ⟨_, rfl⟩) rfl rfl ?_
 intro bs hbs _
 refine W.go 99 rfl ?_
 have hle0 := Le.put hbs (.cells (encSw s p).toArray 83)
 have k2 := put_same L bs (.cells (encSw s p).toArray 83)
 change W _ _ _ _ _ _ (L.put bs (.cells (encSw s p).toArray 83))
 generalize L.put bs (.cells (encSw s p).toArray 83) = L1 at k2 hle0 ⊢
 refine W.vf rfl rfl rfl rfl (Vf.loadN rfl rfl rfl ((by exact cellsAt_n (vs := encSw s p) k2 rfl))) ?_
 refine W.go 99 rfl ?_
 have hal := all_sp (Post := Post) (W0 := W0) s p L1 (hs.le hle0) hok
 rw [← hX] at hal
 refine W.eff rfl rfl rfl (Ef.call rfl (hal)) ?_
 rintro _ _ _ ⟨v0, rfl, rfl, bn, rfl, ho, hd1⟩
 rename_i L2
 have hd := (Dim.of_le hle0).trans hd1
 refine W.go 99 rfl ?_
 have c2 : cellsAt L2 ⟨bs, 0, none⟩ 4 (encSw s p) := hd1.cells (cellsAt_n (vs := encSw s p) k2 rfl)
 refine W.pub 5 (.inl ⟨_, rfl⟩) rfl rfl ?_
 intro b5 hb5 _
 have g5 := put_same L2 b5 (.cells (.func (.func 127) #[] #[pt bs] :: (encC zC ++ [.bool false])).toArray 112)
 have hl5 := Le.put hb5 (.cells (.func (.func 127) #[] #[pt bs] :: (encC zC ++ [.bool false])).toArray 112)
 have hso' : (outs s).length = 2 ^ s.wants.length := by unfold outs; simp
 refine W.loop (fun m E B L' => ∃ (k : Nat) (y : CrV) (sm : Bool), m = 2 ^ s.wants.length - k ∧ k ≤ 2 ^ s.wants.length ∧ BstV s (bestU s so k) y sm ∧ Le L2 L' ∧ L' b5 = some (.cells (.func (.func 127) #[] #[pt bs] :: (encC y ++ [Value.bool sm])).toArray 112 (0, 0), true) ∧
   E = [(1, .v (.func yf yt yc)), (4, .p 1 0), (5, .v (pt b5)), (11, .v (.slice (some ⟨bn, 0, none⟩) (2 ^ s.wants.length) (2 ^ s.wants.length))), (12, .v (.int .i64 ((2 ^ s.wants.length : Nat) : Int))), (13, .v (.int .i64 k))] ∧ B = [none, some ⟨List.map SV.v ti112.z.cells.toList, 112⟩])
  ⟨0, zC, false, rfl, by omega, ⟨rfl, rfl⟩, hl5, g5, rfl, rfl⟩ (by exact ⟨rfl, rfl, rfl, rfl, rfl, rfl, trivial⟩) (by exact ⟨rfl, rfl, trivial⟩) ?_
 rintro _ _ _ L4 ⟨k, y, sm, rfl, hk, hbe, hl4, hb, rfl, rfl⟩ again
 refine W.go 99 rfl ?_
 refine W.split rfl rfl rfl (fun e1 => W.go 99 rfl ?_) (fun e1 => W.go 99 rfl ?_)
 ·have hk2 : k < 2 ^ s.wants.length := Int.ofNat_lt.1 (of_decide_eq_true e1)
  have hgk : (outs s)[k]? = some (found s k) := by unfold outs; rw [List.getElem?_map, List.getElem?_range hk2]; rfl
  have hdL := hd.trans (Dim.of_le hl4)
  have hs4 := hdL.sw hs
  have c4 := hl4.cellsAt c2
  refine W.vf rfl rfl rfl rfl (Vf.idx rfl rfl rfl rfl rfl rfl (hk2)) ?_
  refine W.go 99 rfl ?_
  cases hc : crushW s (bits5 k) with
  | none =>
   have hfi := found_none hc
   generalize found s k = fc at *
   refine W.vf rfl rfl rfl rfl (Vf.loadN rfl rfl rfl ((ho.le hl4).whole hgk rfl)) ?_
   refine W.go 99 rfl ?_
   refine W.split rfl rfl rfl (fun h => absurd h (by rw [hfi]; simp)) (fun _ => ?_)
   refine W.go 99 rfl ?_
   exact W.again (again _ _ _ _ (by omega) ⟨k + 1, y, sm, rfl, by omega, by rw [bestU_none hc]; exact hbe, hl4, hb, rfl, rfl⟩) (by exact ⟨rfl, rfl, rfl, rfl, rfl, congrArg some (inc64 (by omega)), trivial⟩) (by exact ⟨rfl, rfl, trivial⟩)
  | some c =>
   have hcw := (crushW_some hc).1
   rw [found_some hc] at hgk
   refine W.vf rfl rfl rfl rfl (Vf.loadN rfl rfl rfl ((ho.le hl4).whole hgk rfl)) ?_
   refine W.go 99 rfl ?_
   refine W.split rfl rfl rfl (fun _ => ?_) (fun h => absurd h (by simp [ofCr]))
   refine W.go 99 rfl ?_
   have hv := hso L4 k hdL hk2
   rw [← hX] at hv
   refine W.eff rfl rfl rfl (Ef.callS rfl rfl rfl hv) ?_
   rintro _ _ _ ⟨_, rfl, rfl, rfl, hle5⟩
   rename_i L5
   have hb := hle5 _ _ hb
   refine W.go 99 rfl ?_
   refine W.split rfl rfl rfl (fun e2 => ?_) (fun e2 => ?_)
   ·refine W.go 99 rfl ?_
    have htk := take_sp (X := C.X) b5 (.func (.func 127) #[] #[pt bs]) ⟨_, _, _, rfl⟩ (ofCr k c) y sm (ltBV s (ofCr k c) y) L5 hb (fun hsm => by
     have hyw := hbe.wn hok
     refine Sp.toV (args := [cC (ofCr k c), cC y]) (f1 := []) (f2 := [pt bs]) (best1_sp s p bs (ofCr k c) y L5 (hle5.cellsAt c4) (hs4.le hle5) hok (show k < 32 by omega) hyw.1 (bits_wn hk2) hyw.2))
    refine W.eff rfl rfl rfl (Ef.call rfl (htk)) ?_
    rintro _ _ _ ⟨_, rfl, rfl, hQ⟩
    obtain ⟨rfl, hkp, hbb⟩ := hQ
    rename_i L6
    refine W.go 99 rfl ?_
    exact W.again (again _ _ _ _ (by omega) ⟨k + 1, _, true, rfl, by omega, by rw [bestU_yes hc (by rw [hcw]; exact e2)]; exact hbe.take hk2 hc, fun b z hz => hkp b z (fun e => by subst e; rw [hb5] at hz; cases hz) (hle5 _ _ (hl4 _ _ hz)), hbb, rfl, rfl⟩) (by exact ⟨rfl, rfl, rfl, rfl, rfl, congrArg some (inc64 (by omega)), trivial⟩) (by exact ⟨rfl, rfl, trivial⟩)
   ·refine W.go 99 rfl ?_
    exact W.again (again _ _ _ _ (by omega) ⟨k + 1, y, sm, rfl, by omega, by rw [bestU_no hc (by rw [hcw]; exact e2)]; exact hbe, hl4.trans hle5, hb, rfl, rfl⟩) (by exact ⟨rfl, rfl, rfl, rfl, rfl, congrArg some (inc64 (by omega)), trivial⟩) (by exact ⟨rfl, rfl, trivial⟩)
 ·have hke : k = 2 ^ s.wants.length := by
   have : ¬ (k : Int) < ((2 ^ s.wants.length : Nat) : Int) := of_decide_eq_false e1
   have := mt Int.ofNat_lt.2 this
   omega
  subst hke
  refine W.vf rfl rfl rfl rfl (Vf.loadN rfl rfl rfl ((by exact cellsAt_n (vs := .func (.func 127) #[] #[pt bs] :: (encC y ++ [Value.bool sm])) hb rfl))) ?_
  refine W.go 99 rfl ?_
  refine W.ret r rfl rfl ?_
  exact ⟨_, y, sm, rfl, hbe, hd.trans (Dim.of_le hl4)⟩
end Go.Mz


set_option maxRecDepth 100000
namespace Go.Mz
open Go.Conc Go.Proofs
section
variable {P : Program} {E : Look} {B : List (Option Bx)} {L : LH}
theorem Vf.fieldN {t : TypeId} {x : Operand} {fi n : Nat} {fs : Array Field} {fl : Field} {sx : SV} {cs ds : List Value} (hx : evS E x = some sx) (dx : den nm0 sx = some (.agg cs.toArray)) (hu : P.underlying t = some (.struct fs)) (hf : fs[fi]? = some fl) (ha : aggB P fl.type = some true) (hs : (P.info? fl.type).map (·.size) = some n) (hd : (cs.drop fl.offset).take n = ds) :
  Vf P (.field t x fi) E B L (.v (.agg ds.toArray)) := fun T R β hE _ _ => by
 have ex : ev T x = .agg cs.toArray := Option.some.inj ((hE.val hx).symm.trans (den_nil dx β))
 refine ⟨_, rfl, fun ty dst pos af gd Q H hq => ?_⟩
 simp only [execOp, ex]
 rw [wpS_bind]
 unfold Instr.field
 show wpS P _ H (underlying t >>= _) R
 rw [wpS_bind, wpS_underlying hu]
 simp only [hf]
 show wpS P _ H (Go.part fl.type cs.toArray fl.offset) R
 rw [wpS_partN ha hs]
 have e : cs.toArray.extract fl.offset (fl.offset + n) = ds.toArray := by
  rw [← hd]
  simp [List.extract_eq_take_drop]
 rw [e]
 exact hq
theorem Vf.field1 {t : TypeId} {x : Operand} {fi : Nat} {fs : Array Field} {fl : Field} {sx : SV} {cs : List Value} {v : Value} (hx : evS E x = some sx) (dx : den nm0 sx = some (.agg cs.toArray)) (hu : P.underlying t = some (.struct fs)) (hf : fs[fi]? = some fl) (ha : aggB P fl.type = some false) (hv : cs[fl.offset]? = some v) :
  Vf P (.field t x fi) E B L (.v v) := fun T R β hE _ _ => by
 have ex : ev T x = .agg cs.toArray := Option.some.inj ((hE.val hx).symm.trans (den_nil dx β))
 refine ⟨_, rfl, fun ty dst pos af gd Q H hq => ?_⟩
 simp only [execOp, ex]
 rw [wpS_bind]
 unfold Instr.field
 show wpS P _ H (underlying t >>= _) R
 rw [wpS_bind, wpS_underlying hu]
 simp only [hf]
 show wpS P _ H (Go.part fl.type cs.toArray fl.offset) R
 rw [wpS_part1 ha (v := v) (by rw [List.getElem?_toArray]; exact hv)]
 exact hq
end
variable {Post : Value → World → Prop} {W0 : World}
theorem BstV.wants {s : Sw} {o : Option Cr} {y : CrV} {sm : Bool} (h : BstV s o y sm) : bits5 y.w = crWants o := by
 cases o with
 | none => obtain ⟨rfl, rfl⟩ := h; decide
 | some z =>
  obtain ⟨rfl, n, hn, hz, rfl⟩ := h
  exact ((crushW_some hz).1).symm
theorem every_v (X : Logic Tryz.prog) (v : Value) (L : LH) : SpV X (.func (.func 96) #[] #[]) [v] L (fun v L' => v = .bool true ∧ Le L L') :=
 SpV.mono (Sp.toV (args := [v]) (f1 := []) (f2 := []) (every_sp v L)) fun v L' h => ⟨h.1, by rw [h.2]; exact Le.refl _⟩
theorem best0_sp (s : Sw) (p : Wp) (L : LH) (hs : SwAt L s p) (hok : SOk s) :
  Sp (LFGo Tryz.prog Post W0) 95 [swA s p, .func (.func 96) #[] #[]] L (fun v L' => ∃ gv y sm, v = fstV gv y sm ∧ BstV s (bestW s fun _ => true) y sm ∧ Dim L L') :=
 best_sp s p (fun _ => true) _ L hs hok ⟨_, _, _, rfl⟩ fun L' m _ _ => every_v _ _ _
def ListD (x : List Nat × Int × Int) (L : LH) (v : Value) (L' : LH) : Prop := ∃ ad cap, v = .tuple #[.slice ad x.1.length cap, .int .i64 x.2.1, .int .i64 x.2.2] ∧ IntsAt L' ad (natI x.1) ∧ Dim L L'
theorem Best_sp (s : Sw) (p : Wp) (L : LH) (h : SwAt L s p) (hn : Sm s) : Sp (LFGo Tryz.prog Post W0) 38 [swA s p] L (ListD (BestE s) L) := by
 refine Sp.enter (n := 26) Tryz.func38 rfl rfl rfl rfl fun C hX _ hL0 r => ?_
 refine W.go 99 rfl ?_
 refine W.eff rfl rfl rfl (Ef.call rfl (open_sp s p none none 0 0 [] [] L h hn SlAt.empty SlAt.empty (by simp) (by simp))) ?_
 rintro _ _ _ ⟨v0, rfl, rfl, hle, hq⟩
 refine W.go 99 rfl ?_
 rename_i L1
 rw [openW_nil] at hq
 rcases hq with ⟨he, rfl⟩ | ⟨he, rfl⟩
 ·have hCE : BestE s = ([], 0, sawE s) := by unfold BestE; rw [if_pos he]
  rw [hCE] at r
  refine W.go 99 rfl ?_
  refine W.split rfl rfl rfl (fun e1 => W.go 99 rfl ?_) (fun e1 => W.go 99 rfl ?_)
  ·refine W.ret r rfl rfl ?_
   exact ⟨none, 0, rfl, SlAt.empty, Dim.of_le hle⟩
  ·simp at e1; exact absurd e1 he
 have hok := sawE_0 he
 have hCE : BestE s = (crWants (bestW s fun _ => true), payW s (crWants (bestW s fun _ => true)), 0) := by unfold BestE; rw [if_neg (by simp [he])]
 rw [hCE] at r
 refine W.go 99 rfl ?_
 refine W.split rfl rfl rfl (fun e1 => ?_) (fun e1 => ?_)
 ·simp at e1
 refine W.weak (E' := [(5, .p 1 0), (14, .lit false)]) (B' := [some ⟨cellsS (.v (swA s p)), 26⟩, some ⟨cellsS (.v (swA s p)), 83⟩]) (by exact ⟨rfl, rfl, trivial⟩) (by exact ⟨rfl, rfl, trivial⟩) ?_
 refine W.go 99 rfl ?_
 have hb := best0_sp (Post := Post) (W0 := W0) s p L1 (h.le hle) hok
 rw [← hX] at hb
 refine W.eff rfl rfl rfl (Ef.call rfl (hb)) ?_
 rintro _ _ _ ⟨v1, rfl, rfl, gv, y, sm, rfl, hbe, hd⟩
 rename_i L2
 have hyw := hbe.wn hok
 rw [← hbe.wants] at r
 refine W.go 99 rfl ?_
 refine W.vf rfl rfl rfl rfl (Vf.fieldN (cs := fsF gv :: (encC y ++ [Value.bool sm])) (ds := encC y) rfl rfl Tryz.underlying112 rfl agg101 size101 rfl) ?_
 refine W.go 99 rfl ?_
 refine W.drawn (by kernel_rfl) _ (Le.refl _) ?_
 refine DD.run' [0, 1, 3, 4, 5] rfl ?_
 refine DD.act 2 rfl rfl rfl rfl rfl (Ef.call rfl (list_sp y.w hyw.1 _)) ((by rintro _ _ _ ⟨_, rfl, rfl, _, _, rfl, hl, _⟩; exact ⟨hl, rfl, .inl rfl⟩)) ?_
 rintro _ _ _ ⟨v2, rfl, rfl, ad, cap, rfl, hl3, hs3, _⟩
 refine DD.act 6 rfl rfl rfl rfl rfl (Ef.call rfl (pay_sp s p y.w _ ((hd.sw (h.le hle)).le hl3) hok hyw.1 hyw.2)) ((by rintro _ _ _ ⟨_, rfl, rfl, rfl, hl⟩; exact ⟨hl3.trans hl, rfl, .inl rfl⟩)) ?_
 rintro _ _ _ ⟨v3, rfl, rfl, rfl, hl4⟩
 refine DD.run' [7, 8, 9] rfl ?_
 refine .fin rfl ?_
 refine W.go 99 rfl ?_
 refine W.ret r rfl rfl ?_
 exact ⟨ad, cap, by rw [natI_len]; rfl, hs3.le hl4, ((Dim.of_le hle).trans hd).trans (Dim.of_le (hl3.trans hl4))⟩
theorem contains_bits (m i : Nat) (hi : i < 5) : (bits5 m).contains i = m.testBit i := by
 unfold bits5
 rw [Bool.eq_iff_iff, List.contains_iff_mem, List.mem_filter, List.mem_range]
 exact ⟨fun h => h.2, fun h => ⟨hi, h⟩⟩
theorem worth1_sp {X : Logic Tryz.prog} (m i b : Nat) (hm : m < 32) (hi : i < 5) (L : LH) (hb : L.cell? ⟨b, 0, none⟩ = some (.int .i64 i)) : Sp X 117 [.int .u8 m, pt b] L (fun v L' => v = .bool (!(bits5 m).contains i) ∧ Le L L') := by
 refine Sp.enter (n := 8) Tryz.func117 rfl rfl rfl rfl fun C hX _ hL0 r => ?_
 refine W.go 99 rfl ?_
 refine W.vf rfl rfl rfl rfl (Vf.load rfl rfl rfl (hb)) ?_
 refine W.go 99 rfl ?_
 refine W.eff rfl rfl rfl (Ef.call rfl (has_sp m i hm hi L)) ?_
 rintro _ _ _ ⟨_, rfl, rfl, rfl, rfl⟩
 refine W.go 99 rfl ?_
 refine W.ret r rfl rfl ?_
 rw [contains_bits _ _ hi]
 exact ⟨rfl, Le.refl _⟩
theorem Worth_sp (s : Sw) (p : Wp) (n : Int) (L : LH) (h : SwAt L s p) (hn : Sm s) : Sp (LFGo Tryz.prog Post W0) 61 [swA s p, .int .i64 n] L (fun v L' => v = .tuple #[.int .i64 (WorthE s n).1, .int .i64 (WorthE s n).2] ∧ Dim L L') := by
 refine Sp.enter (n := 34) Tryz.func61 rfl rfl rfl rfl fun C hX _ hL0 r => ?_
 refine W.go 99 rfl ?_
 refine W.goP [13] 99 rfl ?_
 refine W.pub 12 (.inr ⟨_, _, _, rfl⟩) rfl rfl ?_
 intro b12 hb12 _
 have f1 := Le.put hb12 (.cells #[.int .i64 n] 3)
 have g1 := put_same L b12 (.cells #[.int .i64 n] 3)
 change W _ _ _ _ _ _ (L.put b12 (.cells #[.int .i64 n] 3))
 generalize L.put b12 (.cells #[.int .i64 n] 3) = L1 at f1 g1 ⊢
 refine W.eff rfl rfl rfl (Ef.call rfl (open_sp s p none (some ⟨b12, 0, none⟩) 0 1 [] [n] L1 (h.le f1) hn SlAt.empty (ints1 g1) (by simp) (by simp))) ?_
 rintro _ _ _ ⟨v0, rfl, rfl, hle, hq⟩
 rename_i L2
 have hl2 := f1.trans hle
 rcases hq with ⟨he, rfl⟩ | ⟨he, rfl⟩
 ·refine W.go 99 rfl ?_
  refine W.split rfl rfl rfl (fun e1 => W.go 99 rfl ?_) (fun e1 => W.go 99 rfl ?_)
  ·refine W.ret r rfl rfl ?_
   have : WorthE s n = (0, openW s [] [n]) := by unfold WorthE; rw [if_pos he]
   rw [this]
   exact ⟨rfl, Dim.of_le hl2⟩
  ·simp at e1; exact absurd e1 he
 have hSE : WorthE s n = (worthW s n.toNat, 0) := by unfold WorthE; rw [if_neg (by simp [he])]
 rw [hSE] at r
 obtain ⟨h0, _, hk⟩ := openW_0 he
 have hok := sawE_0 h0
 have hk := hk n (by simp)
 have hw5 := hok.w5
 obtain ⟨i, rfl⟩ : ∃ i : Nat, n = (i : Int) := ⟨n.toNat, by omega⟩
 have hi : i < s.wants.length := by omega
 rw [Int.toNat_natCast] at r
 refine W.go 99 rfl ?_
 refine W.split rfl rfl rfl (fun e1 => ?_) (fun e1 => ?_)
 ·simp at e1
 refine W.weak (E' := [(3, .p 1 0), (6, .p 3 0), (17, .lit false)]) (B' := [some ⟨cellsS (.v (swA s p)), 26⟩, some ⟨cellsS (.v (.int .i64 i)), 3⟩, none, some ⟨cellsS (.v (swA s p)), 83⟩]) (by exact ⟨rfl, rfl, rfl, trivial⟩) (by exact ⟨rfl, rfl, rfl, rfl, trivial⟩) ?_
 refine W.goP [20] 99 rfl ?_
 refine W.pub 3 (.inl ⟨_, rfl⟩) rfl rfl ?_
 intro b3 hb3 _
 have f3 := Le.put hb3 (.cells #[.int .i64 (i : Int)] 3)
 have g3 := put_same L2 b3 (.cells #[.int .i64 (i : Int)] 3)
 change W _ _ _ _ _ _ (L2.put b3 (.cells #[.int .i64 (i : Int)] 3))
 generalize L2.put b3 (.cells #[.int .i64 (i : Int)] 3) = L3 at f3 g3 ⊢
 have hl3 := hl2.trans f3
 have hb := best_sp (Post := Post) (W0 := W0) s p (fun w => !w.contains i) (.func (.func 117) #[] #[pt b3]) L3 (h.le hl3) hok ⟨_, _, _, rfl⟩ (fun L' m hd hm => Sp.toV (args := [.int .u8 m]) (f1 := []) (f2 := [pt b3]) (worth1_sp m i b3 (by have := pow5 hok; omega) (by omega) L' (hd.cell (cell_of g3 rfl))))
 rw [← hX] at hb
 refine W.go 99 rfl ?_
 refine W.eff rfl rfl rfl (Ef.call rfl (hb)) ?_
 rintro _ _ _ ⟨v1, rfl, rfl, gv, y, sm, rfl, hbe, hd⟩
 rename_i L4
 have hyw := hbe.wn hok
 have hd4 := (Dim.of_le hl3).trans hd
 refine W.go 99 rfl ?_
 refine W.weak (E' := [(6, .p 3 0), (8, .p 4 0)]) (B' := [some ⟨cellsS (.v (swA s p)), 26⟩, none, none, some ⟨cellsS (.v (swA s p)), 83⟩, some ⟨cellsS (.v (fstV gv y sm)), 112⟩]) (by exact ⟨rfl, rfl, trivial⟩) (by exact ⟨rfl, rfl, rfl, rfl, rfl, trivial⟩) ?_
 refine W.drawn (by kernel_rfl) LH.nil (fun _ _ h => by cases h) ?_
 refine DD.run' [0, 1, 6, 7, 8, 9] rfl ?_
 have hb2 := best0_sp (Post := Post) (W0 := W0) s p L4 (hd4.sw h) hok
 rw [← hX] at hb2
 refine DD.act 2 rfl rfl rfl rfl rfl (Ef.call rfl (hb2)) ((by rintro _ _ _ ⟨_, rfl, rfl, _, _, _, rfl, _⟩; exact ⟨(fun _ _ h => by cases h), rfl, .inl rfl⟩)) ?_
 rintro _ _ _ ⟨v2, rfl, rfl, gv2, y2, sm2, rfl, hbe2, hd2⟩
 have hyw2 := hbe2.wn hok
 have hd5 := hd4.trans hd2
 refine DD.vf 3 rfl rfl rfl rfl rfl (Vf.fieldN (cs := fsF gv2 :: (encC y2 ++ [Value.bool sm2])) (ds := encC y2) rfl rfl Tryz.underlying112 rfl agg101 size101 rfl) ?_
 refine DD.vf 4 rfl rfl rfl rfl rfl (Vf.field1 (cs := encC y2) rfl rfl Tryz.underlying101 rfl agg95 rfl) ?_
 refine DD.act 5 rfl rfl rfl rfl rfl (Ef.call rfl (pay_sp s p y2.w _ (hd5.sw h) hok hyw2.1 hyw2.2)) ((by rintro _ _ _ ⟨_, rfl, rfl, rfl, hl⟩; exact ⟨(fun _ _ h => by cases h), rfl, .inl rfl⟩)) ?_
 rintro _ _ _ ⟨v3, rfl, rfl, rfl, hl6⟩
 refine DD.act 10 rfl rfl rfl rfl rfl (Ef.call rfl (pay_sp s p y.w _ ((hd5.sw h).le hl6) hok hyw.1 hyw.2)) ((by rintro _ _ _ ⟨_, rfl, rfl, rfl, hl⟩; exact ⟨(fun _ _ h => by cases h), rfl, .inl rfl⟩)) ?_
 rintro _ _ _ ⟨v4, rfl, rfl, rfl, hl7⟩
 refine DD.run' [11, 12, 13] rfl ?_
 refine .fin rfl ?_
 refine W.go 99 rfl ?_
 refine W.ret r rfl rfl ?_
 have p1 := pay_bd hok (bits5 y.w)
 have p2 := pay_bd hok (bits5 y2.w)
 have q1 := bits5_len y.w
 have q2 := bits5_len y2.w
 have hw : worthW s i = payW s (bits5 y2.w) - payW s (bits5 y.w) := by unfold worthW; rw [← hbe2.wants, ← hbe.wants]
 rw [hw]
 refine ⟨?_, hd5.trans (Dim.of_le (hl6.trans hl7))⟩
 show Value.tuple #[.int .i64 (IntKind.i64.wrap (payW s (bits5 y2.w) - payW s (bits5 y.w))), _] = _
 rw [wrap64_in _ (by omega) (by omega)]
end Go.Mz


set_option maxRecDepth 100000
namespace Go.Mz
open Go.Conc Go.Proofs
section
variable {P : Program} {E : Look} {B : List (Option Bx)} {L : LH} {t t2 : TypeId} {x y : Operand}
theorem Vf.andNot {kk : IntKind} {a b c : Int} (hx : evS E x = some (.v (.int kk a))) (hy : evS E y = some (.v (.int kk b))) (h : kk.wrap (BitVec.ofInt kk.bits a &&& ~~~ BitVec.ofInt kk.bits b).toNat = c) : Vf P (.binOp .andNot t x y t2) E B L (.v (.int kk c)) := fun T R β hE _ _ => by
 have ex := (Option.some.inj (hE.val hx)).symm
 have ey := (Option.some.inj (hE.val hy)).symm
 refine ⟨_, rfl, fun ty dst pos af gd Q H hq => ?_⟩
 simp only [execOp, ex, ey, wpS_bind, eqGuard, binOp, ne_eq, not_true_eq_false, if_false, Op.intBits]
 rw [h]
 exact hq
end
variable {Post : Value → World → Prop} {W0 : World}
theorem andNot_tab : ∀ n : Nat, n ≤ 5 → ∀ m : Nat, m < 2 ^ n → IntKind.u8.wrap (BitVec.ofInt IntKind.u8.bits ((2 ^ n - 1 : Nat) : Int) &&& ~~~ BitVec.ofInt IntKind.u8.bits (m : Int)).toNat = ((2 ^ n - 1 - m : Nat) : Int) ∧ bits5 (2 ^ n - 1 - m) = (List.range n).filter fun i => !(bits5 m).contains i := by decide +kernel
def RefV (o : Option (List Nat)) (y : Nat) (sm : Bool) : Prop := match o with
 | none => sm = false ∧ y = 0
 | some w => sm = true ∧ y < 32 ∧ bits5 y = w
def refU (s : Sw) (k : Nat) : Option (List Nat) := firstBy shortB (((firstsW s k).filterMap id).map fun c => othersW s c.w)
theorem refU_none {s : Sw} {k : Nat} (h : crushW s (bits5 k) = none) : refU s (k + 1) = refU s k := by
 unfold refU; rw [firstsW_succ, h, List.filterMap_append]; simp
theorem refU_some {s : Sw} {k : Nat} {c : Cr} (h : crushW s (bits5 k) = some c) : refU s (k + 1) = takeBy shortB (refU s k) (othersW s c.w) := by
 unfold refU; rw [firstsW_succ, h, List.filterMap_append, List.map_append, show List.map (fun c => othersW s c.w) (List.filterMap id [some c]) = [othersW s c.w] by simp, firstBy_snoc]
theorem RefV.lt {o : Option (List Nat)} {y : Nat} {sm : Bool} (h : RefV o y sm) : y < 32 := by
 cases o with
 | none => rw [h.2]; decide
 | some w => exact h.2.1
theorem RefV.take {o : Option (List Nat)} {y : Nat} {sm : Bool} (h : RefV o y sm) {x : Nat} (hx : x < 32) : RefV (takeBy shortB o (bits5 x)) (if !sm || shortB (bits5 x) (bits5 y) then x else y) true := by
 cases o with
 | none =>
  obtain ⟨rfl, rfl⟩ := h
  exact ⟨rfl, hx, rfl⟩
 | some w =>
  obtain ⟨rfl, h1, rfl⟩ := h
  show RefV (if shortB (bits5 x) (bits5 y) then some (bits5 x) else some (bits5 y)) _ _
  cases shortB (bits5 x) (bits5 y)
  ·exact ⟨rfl, h1, rfl⟩
  ·exact ⟨rfl, hx, rfl⟩
theorem RefV.bits {s : Sw} {y : Nat} {sm : Bool} (h : RefV (refU s (2 ^ s.wants.length)) y sm) : bits5 y = refusedW s := by
 have e : refusedW s = (refU s (2 ^ s.wants.length)).getD [] := rfl
 rw [e]
 generalize refU s (2 ^ s.wants.length) = o at h ⊢
 cases o with
 | none => obtain ⟨rfl, rfl⟩ := h; decide
 | some w => exact h.2.2
theorem Refused_sp (s : Sw) (p : Wp) (L : LH) (h : SwAt L s p) (hn : Sm s) : Sp (LFGo Tryz.prog Post W0) 40 [swA s p] L (fun v L' => ∃ ad cap, v = .tuple #[.slice ad (RefusedE s).1.length cap, .int .i64 (RefusedE s).2] ∧ IntsAt L' ad (natI (RefusedE s).1) ∧ Dim L L') := by
 refine Sp.enter (n := 37) Tryz.func40 rfl rfl rfl rfl fun C hX _ hL0 r => ?_
 refine W.go 99 rfl ?_
 refine W.eff rfl rfl rfl (Ef.call rfl (open_sp s p none none 0 0 [] [] L h hn SlAt.empty SlAt.empty (by simp) (by simp))) ?_
 rintro _ _ _ ⟨v0, rfl, rfl, hle, hq⟩
 refine W.go 99 rfl ?_
 rename_i L1
 rw [openW_nil] at hq
 rcases hq with ⟨he, rfl⟩ | ⟨he, rfl⟩
 ·have hCE : RefusedE s = ([], sawE s) := by unfold RefusedE; rw [if_pos he]
  rw [hCE] at r
  refine W.go 99 rfl ?_
  refine W.split rfl rfl rfl (fun e1 => W.go 99 rfl ?_) (fun e1 => W.go 99 rfl ?_)
  ·refine W.ret r rfl rfl ?_
   exact ⟨none, 0, rfl, SlAt.empty, Dim.of_le hle⟩
  ·simp at e1; exact absurd e1 he
 have hok := sawE_0 he
 have h5 := pow5 hok
 have hw5 := hok.w5
 have hCE : RefusedE s = (refusedW s, 0) := by unfold RefusedE; rw [if_neg (by simp [he])]
 rw [hCE] at r
 refine W.go 99 rfl ?_
 refine W.split rfl rfl rfl (fun e1 => ?_) (fun e1 => ?_)
 ·simp at e1
 refine W.weak (E' := [(4, .p 1 0), (15, .lit false)]) (B' := [some ⟨cellsS (.v (swA s p)), 26⟩, some ⟨cellsS (.v (swA s p)), 83⟩]) (by exact ⟨rfl, rfl, trivial⟩) (by exact ⟨rfl, rfl, trivial⟩) ?_
 refine W.go 99 rfl ?_
 have hal := all_sp (Post := Post) (W0 := W0) s p L1 (h.le hle) hok
 rw [← hX] at hal
 refine W.eff rfl rfl rfl (Ef.call rfl (hal)) ?_
 rintro _ _ _ ⟨v1, rfl, rfl, bn, rfl, ho, hd1⟩
 rename_i L2
 have hd := (Dim.of_le hle).trans hd1
 refine W.go 99 rfl ?_
 refine W.pub 6 (.inl ⟨_, rfl⟩) rfl rfl ?_
 intro b6 hb6 _
 have g6 := put_same L2 b6 (.cells #[.func (.func 101) #[] #[], .int .u8 0, .bool false] 119)
 have hl6 := Le.put hb6 (.cells #[.func (.func 101) #[] #[], .int .u8 0, .bool false] 119)
 refine W.loop (fun m E B L' => ∃ (k : Nat) (y : Nat) (sm : Bool), m = 2 ^ s.wants.length - k ∧ k ≤ 2 ^ s.wants.length ∧ RefV (refU s k) y sm ∧ Le L2 L' ∧ L' b6 = some (.cells #[.func (.func 101) #[] #[], .int .u8 y, Value.bool sm] 119 (0, 0), true) ∧
   E = [(4, .p 1 0), (6, .v (pt b6)), (19, .v (.slice (some ⟨bn, 0, none⟩) (2 ^ s.wants.length) (2 ^ s.wants.length))), (20, .v (.int .i64 ((2 ^ s.wants.length : Nat) : Int))), (21, .v (.int .i64 k))] ∧ B = [some ⟨cellsS (.v (swA s p)), 26⟩, some ⟨cellsS (.v (swA s p)), 83⟩])
  ⟨0, 0, false, rfl, Nat.zero_le _, ⟨rfl, rfl⟩, hl6, g6, rfl, rfl⟩ (by exact ⟨rfl, rfl, rfl, rfl, rfl, trivial⟩) (by exact ⟨rfl, rfl, trivial⟩) ?_
 rintro _ _ _ L4 ⟨k, y, sm, rfl, hk, hre, hl4, hb, rfl, rfl⟩ again
 refine W.go 99 rfl ?_
 refine W.split rfl rfl rfl (fun e1 => W.go 99 rfl ?_) (fun e1 => W.go 99 rfl ?_)
 ·have hk2 : k < 2 ^ s.wants.length := Int.ofNat_lt.1 (of_decide_eq_true e1)
  have hgk : (outs s)[k]? = some (found s k) := by unfold outs; rw [List.getElem?_map, List.getElem?_range hk2]; rfl
  refine W.vf rfl rfl rfl rfl (Vf.idx rfl rfl rfl rfl rfl rfl (hk2)) ?_
  refine W.go 99 rfl ?_
  cases hc : crushW s (bits5 k) with
  | none =>
   have hfi := found_none hc
   generalize found s k = fc at *
   refine W.vf rfl rfl rfl rfl (Vf.loadN rfl rfl rfl ((ho.le hl4).whole hgk rfl)) ?_
   refine W.go 99 rfl ?_
   refine W.split rfl rfl rfl (fun h => absurd h (by rw [hfi]; simp)) (fun _ => ?_)
   refine W.go 99 rfl ?_
   exact W.again (again _ _ _ _ (by omega) ⟨k + 1, y, sm, rfl, by omega, by rw [refU_none hc]; exact hre, hl4, hb, rfl, rfl⟩) (by exact ⟨rfl, rfl, rfl, rfl, congrArg some (inc64 (by omega)), trivial⟩) (by exact ⟨rfl, rfl, trivial⟩)
  | some c =>
   have hcw := (crushW_some hc).1
   obtain ⟨ha1, ha2⟩ := andNot_tab _ hw5 k hk2
   rw [found_some hc] at hgk
   refine W.vf rfl rfl rfl rfl (Vf.loadN rfl rfl rfl ((ho.le hl4).whole hgk rfl)) ?_
   refine W.go 99 rfl ?_
   refine W.split rfl rfl rfl (fun _ => ?_) (fun h => absurd h (by simp [ofCr]))
   refine W.go 99 rfl ?_
   have htk := takeW_sp (X := C.X) b6 (2 ^ s.wants.length - 1 - k) y sm L4 (by omega) hre.lt hb
   have hfoot : ∀ v L', FswQ b6 (if !sm || shortB (bits5 (2 ^ s.wants.length - 1 - k)) (bits5 y) then 2 ^ s.wants.length - 1 - k else y) L4 v L' → Le L2 L' := fun v L' h b z hz => h.2.1 b z (fun e => by subst e; rw [hb6] at hz; cases hz) (hl4 _ _ hz)
   refine W.drawn (by kernel_rfl) L2 hl4 ?_
   refine DD.run' [0, 2, 3] rfl ?_
   refine DD.act 1 rfl rfl rfl rfl rfl (Ef.call rfl (full_sp s p L4 hw5)) ((by rintro _ _ _ ⟨_, rfl, rfl, rfl, rfl⟩; exact ⟨hl4, rfl, .inl rfl⟩)) ?_
   rintro _ _ _ ⟨_, rfl, rfl, rfl, rfl⟩
   refine DD.vf 4 rfl rfl rfl rfl rfl (Vf.andNot rfl rfl ha1) ?_
   refine DD.act 5 rfl rfl rfl rfl rfl (Ef.call rfl (htk)) ((by rintro _ _ _ ⟨_, rfl, rfl, hQ⟩; exact ⟨hfoot _ _ hQ, rfl, .inl rfl⟩)) ?_
   rintro _ _ _ ⟨v3, rfl, rfl, hQ⟩
   obtain ⟨rfl, hkp, hbb⟩ := hQ
   refine .fin rfl ?_
   refine W.go 99 rfl ?_
   exact W.again (again _ _ _ _ (by omega) ⟨k + 1, _, true, rfl, by omega, by rw [refU_some hc, hcw, show othersW s (bits5 k) = bits5 (2 ^ s.wants.length - 1 - k) from ha2.symm]; exact hre.take (by omega), fun b z hz => hkp b z (fun e => by subst e; rw [hb6] at hz; cases hz) (hl4 _ _ hz), hbb, rfl, rfl⟩) (by exact ⟨rfl, rfl, rfl, rfl, congrArg some (inc64 (by omega)), trivial⟩) (by exact ⟨rfl, rfl, trivial⟩)
 ·have hke : k = 2 ^ s.wants.length := by
   have : ¬ (k : Int) < ((2 ^ s.wants.length : Nat) : Int) := of_decide_eq_false e1
   have := mt Int.ofNat_lt.2 this
   omega
  subst hke
  refine W.vf rfl rfl rfl rfl (Vf.load rfl rfl rfl (cell_of hb rfl)) ?_
  refine W.go 99 rfl ?_
  refine W.eff rfl rfl rfl (Ef.call rfl (list_sp y hre.lt L4)) ?_
  rintro _ _ _ ⟨v5, rfl, rfl, ad, cap, rfl, hl5, hs5, _⟩
  refine W.go 99 rfl ?_
  refine W.ret r rfl rfl ?_
  rw [← hre.bits]
  exact ⟨ad, cap, by rw [natI_len]; rfl, hs5, hd.trans (Dim.of_le (hl4.trans hl5))⟩
end Go.Mz


set_option maxRecDepth 100000
namespace Go.Mz
open Go.Conc Go.Proofs
variable {X : Logic Tryz.prog}
theorem SOk.kerf {s : Sw} (h : SOk s) {n : Nat} (hn : n ≤ 3) : SOk (kerfK s n) := ⟨h.l1, h.l3, h.lf, h.st, h.sr, by show (0 : Int) ≤ (n : Int); omega, by show (n : Int) ≤ 3; omega, h.w5, h.wt⟩
theorem SwAt.kerf {L : LH} {s : Sw} {p : Wp} (h : SwAt L s p) (n : Nat) : SwAt L (kerfK s n) p := ⟨h.lo, h.st, h.wt, h.cap⟩
theorem kerf_some {s : Sw} {n : Nat} (h3 : n ≤ 3) (hn : servedW (kerfK s n) = true) (hno : ∀ m, n < m → m ≤ 3 → servedW (kerfK s m) = false) : kerfW s = some n := by
 have e : kerfW s = [3, 2, 1, 0].find? fun n => servedW (kerfK s n) := rfl
 rw [e]
 have c : n = 0 ∨ n = 1 ∨ n = 2 ∨ n = 3 := by omega
 rcases c with rfl | rfl | rfl | rfl
 ·simp [List.find?_cons, hno 1, hno 2, hno 3, hn]
 ·simp [List.find?_cons, hno 2, hno 3, hn]
 ·simp [List.find?_cons, hno 3, hn]
 ·simp [List.find?_cons, hn]
theorem Kerf_sp (s : Sw) (p : Wp) (L : LH) (h : SwAt L s p) (hn : Sm s) : Sp X 55 [swA s p] L (fun v L' => v = .tuple #[.int .i64 (KerfE s).1, .int .i64 (KerfE s).2] ∧ Le L L') := by
 refine Sp.enter (n := 26) Tryz.func55 rfl rfl rfl rfl fun C hX _ hL0 r => ?_
 refine W.go 99 rfl ?_
 refine W.eff rfl rfl rfl (Ef.call rfl (open_sp s p none none 0 0 [] [] L h hn SlAt.empty SlAt.empty (by simp) (by simp))) ?_
 rintro _ _ _ ⟨v0, rfl, rfl, hle, hq⟩
 refine W.go 99 rfl ?_
 rename_i L1
 rw [openW_nil] at hq
 rcases hq with ⟨he, rfl⟩ | ⟨he, rfl⟩
 ·have hCE : KerfE s = (0, sawE s) := by unfold KerfE; rw [if_pos he]
  rw [hCE] at r
  refine W.go 99 rfl ?_
  refine W.split rfl rfl rfl (fun e1 => W.go 99 rfl ?_) (fun e1 => W.go 99 rfl ?_)
  ·refine W.ret r rfl rfl ?_
   exact ⟨rfl, hle⟩
  ·simp at e1; exact absurd e1 he
 have hok := sawE_0 he
 have hCE : KerfE s = match kerfW s with | some n => ((n : Int), 0) | none => (0, 11) := by unfold KerfE; rw [if_neg (by simp [he])]; rfl
 refine W.go 99 rfl ?_
 refine W.split rfl rfl rfl (fun e1 => W.go 99 rfl ?_) (fun e1 => W.go 99 rfl ?_)
 ·simp at e1
 refine W.eff rfl rfl rfl (Ef.call rfl (served_sp (kerfK s 3) p L1 ((h.kerf 3).le (hle)) (hok.kerf (by decide)))) ?_
 rintro _ _ _ ⟨v3, rfl, rfl, rfl, hl3⟩
 refine W.go 99 rfl ?_
 rename_i L2
 cases e3 : servedW (kerfK s 3) with
 | true =>
  refine W.split rfl rfl rfl (fun c => ?_) (fun c => absurd c (by decide))
  refine W.go 99 rfl ?_
  refine W.ret r rfl rfl ?_
  rw [hCE, kerf_some (n := 3) (by decide) e3 (fun m h1 h2 => by omega)]
  exact ⟨rfl, (hle).trans hl3⟩
 | false =>
 refine W.split rfl rfl rfl (fun c => absurd c (by decide)) (fun c => ?_)
 refine W.go 99 rfl ?_
 refine W.split rfl rfl rfl (fun c => ?_) (fun c => absurd c (by decide))
 refine W.go 99 rfl ?_
 refine W.goto rfl ?_
 refine W.weak (E' := [(1, .p 0 0)]) (B' := [some ⟨[.v (.slice p.la s.loaves.length p.lc), .v (.slice p.sa s.stock.length p.sc), .v (.int .i64 2), .v (.slice p.wa s.wants.length p.wc)], 26⟩]) (by exact ⟨rfl, trivial⟩) (by exact ⟨rfl, trivial⟩) ?_
 refine W.go 99 rfl ?_
 refine W.eff rfl rfl rfl (Ef.call rfl (served_sp (kerfK s 2) p L2 ((h.kerf 2).le ((hle).trans hl3)) (hok.kerf (by decide)))) ?_
 rintro _ _ _ ⟨v2, rfl, rfl, rfl, hl2⟩
 refine W.go 99 rfl ?_
 rename_i L3
 cases e2 : servedW (kerfK s 2) with
 | true =>
  refine W.split rfl rfl rfl (fun c => ?_) (fun c => absurd c (by decide))
  refine W.go 99 rfl ?_
  refine W.ret r rfl rfl ?_
  rw [hCE, kerf_some (n := 2) (by decide) e2 (fun m h1 h2 => by have c : m = 3 := (by omega); rcases c with rfl <;> assumption)]
  exact ⟨rfl, ((hle).trans hl3).trans hl2⟩
 | false =>
 refine W.split rfl rfl rfl (fun c => absurd c (by decide)) (fun c => ?_)
 refine W.go 99 rfl ?_
 refine W.split rfl rfl rfl (fun c => ?_) (fun c => absurd c (by decide))
 refine W.go 99 rfl ?_
 refine W.goto rfl ?_
 refine W.weak (E' := [(1, .p 0 0)]) (B' := [some ⟨[.v (.slice p.la s.loaves.length p.lc), .v (.slice p.sa s.stock.length p.sc), .v (.int .i64 1), .v (.slice p.wa s.wants.length p.wc)], 26⟩]) (by exact ⟨rfl, trivial⟩) (by exact ⟨rfl, trivial⟩) ?_
 refine W.go 99 rfl ?_
 refine W.eff rfl rfl rfl (Ef.call rfl (served_sp (kerfK s 1) p L3 ((h.kerf 1).le (((hle).trans hl3).trans hl2)) (hok.kerf (by decide)))) ?_
 rintro _ _ _ ⟨v1, rfl, rfl, rfl, hl1⟩
 refine W.go 99 rfl ?_
 rename_i L4
 cases e1' : servedW (kerfK s 1) with
 | true =>
  refine W.split rfl rfl rfl (fun c => ?_) (fun c => absurd c (by decide))
  refine W.go 99 rfl ?_
  refine W.ret r rfl rfl ?_
  rw [hCE, kerf_some (n := 1) (by decide) e1' (fun m h1 h2 => by have c : m = 2 ∨ m = 3 := (by omega); rcases c with rfl | rfl <;> assumption)]
  exact ⟨rfl, (((hle).trans hl3).trans hl2).trans hl1⟩
 | false =>
 refine W.split rfl rfl rfl (fun c => absurd c (by decide)) (fun c => ?_)
 refine W.go 99 rfl ?_
 refine W.split rfl rfl rfl (fun c => ?_) (fun c => absurd c (by decide))
 refine W.go 99 rfl ?_
 refine W.goto rfl ?_
 refine W.weak (E' := [(1, .p 0 0)]) (B' := [some ⟨[.v (.slice p.la s.loaves.length p.lc), .v (.slice p.sa s.stock.length p.sc), .v (.int .i64 0), .v (.slice p.wa s.wants.length p.wc)], 26⟩]) (by exact ⟨rfl, trivial⟩) (by exact ⟨rfl, trivial⟩) ?_
 refine W.go 99 rfl ?_
 refine W.eff rfl rfl rfl (Ef.call rfl (served_sp (kerfK s 0) p L4 ((h.kerf 0).le ((((hle).trans hl3).trans hl2).trans hl1)) (hok.kerf (by decide)))) ?_
 rintro _ _ _ ⟨v0, rfl, rfl, rfl, hl0⟩
 refine W.go 99 rfl ?_
 rename_i L5
 cases e0 : servedW (kerfK s 0) with
 | true =>
  refine W.split rfl rfl rfl (fun c => ?_) (fun c => absurd c (by decide))
  refine W.go 99 rfl ?_
  refine W.ret r rfl rfl ?_
  rw [hCE, kerf_some (n := 0) (by decide) e0 (fun m h1 h2 => by have c : m = 1 ∨ m = 2 ∨ m = 3 := (by omega); rcases c with rfl | rfl | rfl <;> assumption)]
  exact ⟨rfl, ((((hle).trans hl3).trans hl2).trans hl1).trans hl0⟩
 | false =>
 refine W.split rfl rfl rfl (fun c => absurd c (by decide)) (fun c => ?_)
 refine W.go 99 rfl ?_
 refine W.split rfl rfl rfl (fun c => absurd c (by decide)) (fun c => ?_)
 refine W.go 99 rfl ?_
 refine W.ret r rfl rfl ?_
 have hk : kerfW s = none := by
  have e : kerfW s = [3, 2, 1, 0].find? fun n => servedW (kerfK s n) := rfl
  rw [e]
  simp [List.find?_cons, e0, e1', e2, e3]
 rw [hCE, hk]
 exact ⟨rfl, ((((hle).trans hl3).trans hl2).trans hl1).trans hl0⟩
end Go.Mz


set_option maxRecDepth 100000
namespace Go.Mz
open Go.Conc Go.Proofs
theorem shop_sm (n : Int) : Sm (shopW n) := ⟨by show 2 ≤ 1000; decide, by show 2 ≤ 1000; decide, by show 4 ≤ 1000; decide, fun l hl => by
 simp [shopW] at hl
 rcases hl with rfl | rfl <;> decide⟩
section
variable {X : Logic Tryz.prog}
theorem shop_sp (n : Int) (L : LH) : Sp X 69 [.int .i64 n] L (fun v L' => ∃ p, v = swA (shopW n) p ∧ Le L L' ∧ SwAt L' (shopW n) p) := by
 refine Sp.enter (n := 16) Tryz.func69 rfl rfl rfl rfl fun C hX _ hL0 r => ?_
 refine W.goP [9] 99 rfl ?_
 refine W.pub 8 (.inr ⟨_, _, _, rfl⟩) rfl rfl ?_
 intro b8 hb8 _
 refine W.goP [10] 99 rfl ?_
 refine W.pub 9 (.inr ⟨_, _, _, rfl⟩) rfl rfl ?_
 intro b9 hb9 _
 refine W.goP [11] 99 rfl ?_
 refine W.pub 10 (.inr ⟨_, _, _, rfl⟩) rfl rfl ?_
 intro b10 hb10 _
 refine W.goP [12] 99 rfl ?_
 refine W.pub 11 (.inr ⟨_, _, _, rfl⟩) rfl rfl ?_
 intro b11 hb11 _
 refine W.goP [14] 99 rfl ?_
 refine W.pub 13 (.inr ⟨_, _, _, rfl⟩) rfl rfl ?_
 intro b13 hb13 _
 refine W.go 99 rfl ?_
 refine W.ret r rfl rfl ?_
 have f8 := Le.put hb8 (.cells ((shopW n).wants.flatMap encWt).toArray 28)
 have f9 := Le.put hb9 (.cells (([5, 3, 2] : List Int).flatMap encI).toArray 3)
 have f10 := Le.put hb10 (.cells (([4, 2] : List Int).flatMap encI).toArray 3)
 have f11 := Le.put hb11 (.cells (([((some ⟨b9, 0, none⟩, 3, 3), [5, 3, 2]), ((some ⟨b10, 0, none⟩, 2, 2), [4, 2])] : List (Rw Int)).flatMap encRw).toArray 23)
 have f13 := Le.put hb13 (.cells (([2, n] : List Int).flatMap encI).toArray 3)
 have k8 := put_same L b8 (.cells ((shopW n).wants.flatMap encWt).toArray 28)
 have k9 := put_same (L.put b8 (.cells ((shopW n).wants.flatMap encWt).toArray 28)) b9 (.cells (([5, 3, 2] : List Int).flatMap encI).toArray 3)
 have k10 := put_same ((L.put b8 (.cells ((shopW n).wants.flatMap encWt).toArray 28)).put b9 (.cells (([5, 3, 2] : List Int).flatMap encI).toArray 3)) b10 (.cells (([4, 2] : List Int).flatMap encI).toArray 3)
 have w1 := f11 _ _ (f10 _ _ k9)
 refine ⟨⟨some ⟨b11, 0, none⟩, some ⟨b13, 0, none⟩, some ⟨b8, 0, none⟩, 2, 2, 4⟩, rfl, f8.trans (f9.trans (f10.trans (f11.trans f13))), ⟨⟨[((some ⟨b9, 0, none⟩, 3, 3), [5, 3, 2]), ((some ⟨b10, 0, none⟩, 2, 2), [4, 2])], rfl, sl_block encRw_len (f13 _ _ (put_same _ _ _)), fun x hx => ?_⟩, sl_block encI_len (put_same _ _ _), sl_block encWt_len (f13 _ _ (f11 _ _ (f10 _ _ (f9 _ _ k8)))), Nat.le_refl 4⟩⟩
 simp only [List.mem_cons, List.not_mem_nil, or_false] at hx
 rcases hx with rfl | rfl
 ·exact ⟨sl_block encI_len (f13 _ _ (f11 _ _ (f10 _ _ k9))), rfl, Nat.le_refl 3⟩
 ·exact ⟨sl_block encI_len (f13 _ _ (f11 _ _ k10)), rfl, Nat.le_refl 2⟩
end
variable {Post : Value → World → Prop} {W0 : World}
theorem cut_sp (L : LH) (hgl : GlOk L) : Sp (LFGo Tryz.prog Post W0) 21 [] L (fun v L' => v = .bool true ∧ Dim L L') := by
 obtain ⟨c1, c2, c3, c4, c5, c6, c7⟩ := cutW
 have n1 := shop_sm 1
 have n2 := shop_sm 2
 refine Sp.enter (n := 128) Tryz.func21 rfl rfl rfl rfl fun C hX _ hL0 r => ?_
 refine W.go 99 rfl ?_
 refine W.eff rfl rfl rfl (Ef.call rfl (shop_sp 2 L)) ?_
 rintro _ _ _ ⟨_, rfl, rfl, p1, rfl, hl1, hs1⟩
 refine W.go 99 rfl ?_
 rename_i L1
 have hf := Slices_sp (X := C.X) (shopW 2) p1 0 4 L1 hs1 n2
 rw [c1] at hf
 refine W.eff rfl rfl rfl (Ef.call rfl (hf)) ?_
 rintro _ _ _ ⟨_, rfl, rfl, rfl, hl2⟩
 refine W.go 99 rfl ?_
 rename_i L2
 refine W.eff rfl rfl rfl (Ef.call rfl (shop_sp 2 L2)) ?_
 rintro _ _ _ ⟨_, rfl, rfl, p3, rfl, hl3, hs3⟩
 refine W.go 99 rfl ?_
 rename_i L3
 refine W.pub 25 (.inr ⟨_, _, _, rfl⟩) rfl rfl ?_
 intro b25 hb25 _
 refine W.pub 26 (.inr ⟨_, _, _, rfl⟩) rfl rfl ?_
 intro b26 hb26 _
 have g25 := Le.put hb26 (.cells (([0, 2] : List Int).flatMap encI).toArray 3) _ _ (put_same L3 b25 (.cells (([0, 1, 2, 3] : List Int).flatMap encI).toArray 3))
 have g26 := put_same (L3.put b25 (.cells (([0, 1, 2, 3] : List Int).flatMap encI).toArray 3)) b26 (.cells (([0, 2] : List Int).flatMap encI).toArray 3)
 have hl34 := (Le.put hb25 (.cells (([0, 1, 2, 3] : List Int).flatMap encI).toArray 3)).trans (Le.put hb26 (.cells (([0, 2] : List Int).flatMap encI).toArray 3))
 have hl04 := hl1.trans (hl2.trans (hl3.trans hl34))
 have hf := Left_sp (X := C.X) (shopW 2) p3 (some ⟨b25, 0, none⟩) (some ⟨b26, 0, none⟩) 4 2 [0, 1, 2, 3] [0, 2] _ (hs3.le hl34) n2 (hgl.le hl04) (sl_block encI_len g25) (sl_block encI_len g26) (by decide) (by decide)
 rw [c2] at hf
 refine W.eff rfl rfl rfl (Ef.call rfl (hf)) ?_
 rintro _ _ _ ⟨v5, rfl, rfl, ad3, cap3, rfl, hp3, hl5⟩
 refine W.go 99 rfl ?_
 rename_i L5
 have hl05 := hl04.trans hl5
 refine W.eff rfl rfl rfl (Ef.call rfl (shop_sp 2 L5)) ?_
 rintro _ _ _ ⟨_, rfl, rfl, p6, rfl, hl6, hs6⟩
 refine W.go 99 rfl ?_
 rename_i L6
 have hf := Fewest_sp (X := C.X) (shopW 2) p6 L6 hs6 n2
 rw [c3] at hf
 refine W.eff rfl rfl rfl (Ef.call rfl (hf)) ?_
 rintro _ _ _ ⟨v7, rfl, rfl, ad6, cap6, rfl, hp6, hl7⟩
 refine W.go 99 rfl ?_
 rename_i L7
 have hl57 := hl6.trans hl7
 refine W.eff rfl rfl rfl (Ef.call rfl (shop_sp 1 L7)) ?_
 rintro _ _ _ ⟨_, rfl, rfl, p8, rfl, hl8, hs8⟩
 refine W.go 99 rfl ?_
 rename_i L8
 have hf := Best_sp (Post := Post) (W0 := W0) (shopW 1) p8 L8 hs8 n1
 rw [c4, ← hX] at hf
 refine W.eff rfl rfl rfl (Ef.call rfl (hf)) ?_
 rintro _ _ _ ⟨v9, rfl, rfl, ad9, cap9, rfl, hp9, hd9⟩
 refine W.go 99 rfl ?_
 rename_i L9
 have hd79 := (Dim.of_le hl8).trans hd9
 refine W.eff rfl rfl rfl (Ef.call rfl (shop_sp 1 L9)) ?_
 rintro _ _ _ ⟨_, rfl, rfl, p10, rfl, hl10, hs10⟩
 refine W.go 99 rfl ?_
 rename_i L10
 have hf := Refused_sp (Post := Post) (W0 := W0) (shopW 1) p10 L10 hs10 n1
 rw [c5, ← hX] at hf
 refine W.eff rfl rfl rfl (Ef.call rfl (hf)) ?_
 rintro _ _ _ ⟨v11, rfl, rfl, ad12, cap12, rfl, hp12, hd11⟩
 refine W.go 99 rfl ?_
 rename_i L11
 have hd9b := (Dim.of_le hl10).trans hd11
 refine W.eff rfl rfl rfl (Ef.call rfl (shop_sp 1 L11)) ?_
 rintro _ _ _ ⟨_, rfl, rfl, p12, rfl, hl12, hs12⟩
 refine W.go 99 rfl ?_
 rename_i L12
 have hf := Worth_sp (Post := Post) (W0 := W0) (shopW 1) p12 0 L12 hs12 n1
 rw [c6, ← hX] at hf
 refine W.eff rfl rfl rfl (Ef.call rfl (hf)) ?_
 rintro _ _ _ ⟨v13, rfl, rfl, rfl, hd13⟩
 refine W.go 99 rfl ?_
 rename_i L13
 have hd11b := (Dim.of_le hl12).trans hd13
 refine W.eff rfl rfl rfl (Ef.call rfl (shop_sp 2 L13)) ?_
 rintro _ _ _ ⟨_, rfl, rfl, p14, rfl, hl14, hs14⟩
 refine W.go 99 rfl ?_
 rename_i L14
 have hf := Kerf_sp (X := C.X) (shopW 2) p14 L14 hs14 n2
 rw [c7] at hf
 refine W.eff rfl rfl rfl (Ef.call rfl (hf)) ?_
 rintro _ _ _ ⟨v15, rfl, rfl, rfl, hl15⟩
 rename_i L15
 have hd13b := Dim.of_le (hl14.trans hl15)
 have e9 := (hd9b.trans hd11b).trans hd13b
 have hp3 : IntsAt L15 ad3 [0, 0] := (((Dim.of_le hl57).trans hd79).trans e9).sl hp3
 have hp6 : IntsAt L15 ad6 [0, 2] := (hd79.trans e9).sl hp6
 have hp9 : IntsAt L15 ad9 [0, 1, 2] := e9.sl hp9
 have hp12 : IntsAt L15 ad12 [0] := (hd11b.trans hd13b).sl hp12
 have hd : Dim L L15 := (Dim.of_le (hl05.trans hl57)).trans (hd79.trans e9)
 refine W.go 5 rfl ?_
 refine W.weak (E' := [(1, .v (.int .i64 2)), (2, .v (.int .i64 0)), (3, .v (.slice ad3 2 cap3)), (4, .v (.int .i64 5)), (5, .v (.int .i64 0)), (6, .v (.slice ad6 2 cap6)), (7, .v (.int .i64 4)), (8, .v (.int .i64 0)), (9, .v (.slice ad9 3 cap9)), (10, .v (.int .i64 27)), (11, .v (.int .i64 0)), (12, .v (.slice ad12 1 cap12)), (13, .v (.int .i64 0)), (14, .v (.int .i64 7)), (15, .v (.int .i64 0)), (16, .v (.int .i64 3)), (17, .v (.int .i64 0))]) (B' := []) (by exact ⟨rfl, rfl, rfl, rfl, rfl, rfl, rfl, rfl, rfl, rfl, rfl, rfl, rfl, rfl, rfl, rfl, rfl, trivial⟩) (by exact trivial) ?_
 clear c1 c2 c3 c4 c5 c6 c7 hf
 refine W.go 99 rfl ?_
 refine W.split rfl rfl rfl (fun c => ?_) (fun c => absurd c (by decide))
 refine W.go 99 rfl ?_
 refine W.split rfl rfl rfl (fun c => ?_) (fun c => absurd c (by decide))
 refine W.go 99 rfl ?_
 refine W.split rfl rfl rfl (fun c => ?_) (fun c => absurd c (by decide))
 refine W.go 99 rfl ?_
 refine W.split rfl rfl rfl (fun c => ?_) (fun c => absurd c (by decide))
 refine W.go 99 rfl ?_
 refine W.split rfl rfl rfl (fun c => ?_) (fun c => absurd c (by decide))
 refine W.go 99 rfl ?_
 refine W.split rfl rfl rfl (fun c => ?_) (fun c => absurd c (by decide))
 refine W.go 99 rfl ?_
 refine W.split rfl rfl rfl (fun c => ?_) (fun c => absurd c (by decide))
 refine W.go 99 rfl ?_
 refine W.split rfl rfl rfl (fun c => ?_) (fun c => absurd c (by decide))
 refine W.go 99 rfl ?_
 refine W.split rfl rfl rfl (fun c => ?_) (fun c => absurd c (by decide))
 refine W.go 99 rfl ?_
 refine W.split rfl rfl rfl (fun c => ?_) (fun c => absurd c (by decide))
 refine W.go 99 rfl ?_
 refine W.split rfl rfl rfl (fun c => ?_) (fun c => absurd c (by decide))
 refine W.go 99 rfl ?_
 refine W.split rfl rfl rfl (fun c => ?_) (fun c => absurd c (by decide))
 refine W.go 99 rfl ?_
 refine W.split rfl rfl rfl (fun c => ?_) (fun c => absurd c (by decide))
 refine W.go 99 rfl ?_
 refine W.pub 110 (.inr ⟨_, _, _, rfl⟩) rfl rfl ?_
 intro b1 hb1 _
 have hqb1 := Le.put hb1 (.cells (([0, 0] : List Int).flatMap encI).toArray 3)
 have he := EqInts_sp (X := C.X) ad3 (some ⟨b1, 0, none⟩) cap3 2 [0, 0] [0, 0] _ (hp3.le hqb1) (sl_block encI_len (put_same _ _ (.cells (([0, 0] : List Int).flatMap encI).toArray 3))) (by decide) (by decide)
 refine W.eff rfl rfl rfl (Ef.call rfl (he)) ?_
 rintro _ _ _ ⟨_, rfl, rfl, rfl, rfl⟩
 refine W.go 99 rfl ?_
 refine W.split rfl rfl rfl (fun c => ?_) (fun c => absurd c (by decide))
 refine W.go 99 rfl ?_
 refine W.pub 115 (.inr ⟨_, _, _, rfl⟩) rfl rfl ?_
 intro b2 hb2 _
 have hqb2 := hqb1.trans (Le.put hb2 (.cells (([0, 2] : List Int).flatMap encI).toArray 3))
 have he := EqInts_sp (X := C.X) ad6 (some ⟨b2, 0, none⟩) cap6 2 [0, 2] [0, 2] _ (hp6.le hqb2) (sl_block encI_len (put_same _ _ (.cells (([0, 2] : List Int).flatMap encI).toArray 3))) (by decide) (by decide)
 refine W.eff rfl rfl rfl (Ef.call rfl (he)) ?_
 rintro _ _ _ ⟨_, rfl, rfl, rfl, rfl⟩
 refine W.go 99 rfl ?_
 refine W.split rfl rfl rfl (fun c => ?_) (fun c => absurd c (by decide))
 refine W.go 99 rfl ?_
 refine W.pub 120 (.inr ⟨_, _, _, rfl⟩) rfl rfl ?_
 intro b3 hb3 _
 have hqb3 := hqb2.trans (Le.put hb3 (.cells (([0, 1, 2] : List Int).flatMap encI).toArray 3))
 have he := EqInts_sp (X := C.X) ad9 (some ⟨b3, 0, none⟩) cap9 3 [0, 1, 2] [0, 1, 2] _ (hp9.le hqb3) (sl_block encI_len (put_same _ _ (.cells (([0, 1, 2] : List Int).flatMap encI).toArray 3))) (by decide) (by decide)
 refine W.eff rfl rfl rfl (Ef.call rfl (he)) ?_
 rintro _ _ _ ⟨_, rfl, rfl, rfl, rfl⟩
 refine W.go 99 rfl ?_
 refine W.split rfl rfl rfl (fun c => ?_) (fun c => absurd c (by decide))
 refine W.go 99 rfl ?_
 refine W.pub 125 (.inr ⟨_, _, _, rfl⟩) rfl rfl ?_
 intro b4 hb4 _
 have hqb4 := hqb3.trans (Le.put hb4 (.cells (([0] : List Int).flatMap encI).toArray 3))
 have he := EqInts_sp (X := C.X) ad12 (some ⟨b4, 0, none⟩) cap12 1 [0] [0] _ (hp12.le hqb4) (sl_block encI_len (put_same _ _ (.cells (([0] : List Int).flatMap encI).toArray 3))) (by decide) (by decide)
 refine W.eff rfl rfl rfl (Ef.call rfl (he)) ?_
 rintro _ _ _ ⟨_, rfl, rfl, rfl, rfl⟩
 refine W.go 99 rfl ?_
 refine W.ret r rfl rfl ?_
 refine ⟨?_, hd.trans (Dim.of_le hqb4)⟩
 rw [decide_eq_true rfl]
 rfl
end Go.Mz


set_option maxRecDepth 100000
namespace Go.Mz
open Go.Conc Go.Proofs
variable {X : Logic Tryz.prog}
end Go.Mz


set_option maxRecDepth 100000
namespace Go.Mz
open Go.Conc Go.Proofs
variable {X : Logic Tryz.prog}
end Go.Mz


set_option maxRecDepth 100000
namespace Go.Mz
open Go.Conc Go.Proofs
variable {X : Logic Tryz.prog}
theorem has_loaf {s : Sw} {p : Wp} {L : LH} (hs : SwAt L s p) {k : Nat} (hk : k < s.loaves.length) : ∃ la a c, p.la = some la ∧ L.cell? (la.add k) = some (.slice a s.loaves[k].length c) ∧ IntsAt L a s.loaves[k] ∧ s.loaves[k].length ≤ c := by
 have hl : s.loaves[k]? = some s.loaves[k] := List.getElem?_eq_getElem hk
 obtain ⟨la, hla⟩ := hs.lo.addr hk
 have hlo := hs.lo
 rw [hla] at hlo
 obtain ⟨a, c, hc, hsl, hcp⟩ := hlo.row hl
 exact ⟨la, a, c, hla, hc, hsl, hcp⟩
end Go.Mz


set_option maxRecDepth 100000
namespace Go.Mz
open Go.Conc Go.Proofs
variable {X : Logic Tryz.prog}
end Go.Mz


set_option maxRecDepth 100000
namespace Go.Mz
open Go.Conc Go.Proofs
variable {X : Logic Tryz.prog}
theorem getD_some {l : List Int} {k : Nat} (h : k < l.length) : l[k]? = some (l.getD k 0) := by rw [List.getD_eq_getElem?_getD, List.getElem?_eq_getElem h]; rfl
end Go.Mz


set_option maxRecDepth 100000
namespace Go.Mz
open Go.Conc Go.Proofs
variable {X : Logic Tryz.prog}
end Go.Mz


set_option maxRecDepth 100000
namespace Go.Mz
open Go.Conc Go.Proofs
variable {X : Logic Tryz.prog}
theorem Grow.setN {α : Type} {I L : LH} {k : Nat} {e : TypeId} {enc : α → List Value} {v : Value} {l : List α} {d : Nat} (h : Grow I k e enc L v l) (hk : ∀ x, (enc x).length = k) (hd : d < l.length) (x : α) :
  ∃ b cap c, v = .slice (some ⟨b, 0, none⟩) l.length cap ∧ I b = none ∧ L b = some (.cells c e (0, 0), true) ∧ d * k + k ≤ c.size ∧ Grow I k e enc (L.put b (.cells (putRow c (d * k) (enc x)) e)) v (l.set d x) := by
 obtain ⟨hI, ob, ho, hn⟩ := h
 cases ob with
 | none => obtain ⟨_, h, _⟩ := ho; omega
 | some b =>
  obtain ⟨cap, c, h1, h2, h3, h4, h5, h6⟩ := ho
  have hsz : d * k + k ≤ c.size := by
   rw [h3, ← Nat.succ_mul]
   exact Nat.mul_le_mul_right _ (by omega)
  have hb := hn b rfl
  refine ⟨b, cap, c, h1, hb, h2, hsz, fun b' y hy => ?_, some b, ⟨cap, putRow c (d * k) (enc x), ?_, put_same _ _ _, ?_, ?_, ?_, fun i y hy => ?_⟩, fun b' hb' => by cases hb'; exact hb⟩
  ·rw [put_ne _ _ (fun e => by subst e; rw [hb] at hy; cases hy)]; exact hI _ _ hy
  ·rw [List.length_set]; exact h1
  ·rw [putRow_size]; exact h3
  ·rw [List.length_set]; exact h4
  ·have : ∀ l : List α, (l.flatMap enc).length = l.length * k := fun l => by
    induction l with
    | nil => simp
    | cons a l ih => rw [List.flatMap_cons, List.length_append, hk, ih, List.length_cons, Nat.succ_mul]; omega
   exact this _
  ·rw [flat_set_get hk l d x i hd] at hy
   rw [putRow_get]
   split at hy
   ·rename_i h7
    rw [if_neg (by omega)]
    have hlt : i - d * k < (enc x).length := by rw [hk]; omega
    rw [List.getElem?_eq_getElem hlt] at hy
    rw [dif_pos ⟨hlt, by omega⟩]; exact hy
   ·rename_i h7
    have := h6 i y hy
    split
    ·exact this
    ·rw [dif_neg (by rw [hk]; omega)]; exact this
end Go.Mz


set_option maxRecDepth 100000
namespace Go.Mz
open Go.Conc Go.Proofs
variable {X : Logic Tryz.prog}
abbrev blk (ad : Option Addr) : Option Nat := ad.map Addr.block
theorem Post.all {L R L' R' : LH} (h : Post L R L' R') (h1 : Le L L') (h2 : Le L R) : Le R R' := fun b x hx => by
 cases hl : L b with
 | none => exact h.keep b x hl hx
 | some y =>
  rw [h2 _ _ hl] at hx
  cases hx
  exact h.le _ _ (h1 _ _ hl)
end Go.Mz


set_option maxRecDepth 100000
namespace Go.Mz
open Go.Conc Go.Proofs
variable {X : Logic Tryz.prog}
end Go.Mz


set_option maxRecDepth 100000
namespace Go.Mz
open Go.Conc Go.Proofs
variable {X : Logic Tryz.prog}
end Go.Mz


set_option maxRecDepth 100000
namespace Go.Mz
open Go.Conc Go.Proofs
variable {X : Logic Tryz.prog}
def picksW (n : Nat) : Nat → List (List Nat)
 | 0 => [[]]
 | d + 1 => [] :: (List.range (d + 1)).attach.flatMap fun k => (picksW n (d - k.1)).map fun w => (n - (d + 1) + k.1) :: w
termination_by d => d
end Go.Mz


set_option maxRecDepth 100000
namespace Go.Mz
open Go.Conc Go.Proofs
variable {X : Logic Tryz.prog}
def srvB (s : Sw) (w : List Nat) : Bool := (crushW s w).isSome
end Go.Mz


set_option maxRecDepth 100000
namespace Go.Mz
open Go.Conc Go.Proofs
variable {X : Logic Tryz.prog}
end Go.Mz


namespace Go.Mz
open Go
end Go.Mz


namespace Go.Mz
open Go
end Go.Mz


namespace Go.Mz
open Go
theorem moreK_get (s : Sw) (k n j : Nat) : (moreK s k n).stock.getD j 0 = s.stock.getD j 0 + if j = k ∧ k < s.stock.length then (n : Int) else 0 := by
 show (s.stock.modify k (· + (n : Int))).getD j 0 = _
 rw [List.getD_eq_getElem?_getD, List.getElem?_modify, List.getD_eq_getElem?_getD]
 by_cases e : k = j
 ·subst e
  by_cases hb : k < s.stock.length
  ·rw [List.getElem?_eq_getElem hb]; simp [hb]
  ·rw [List.getElem?_eq_none (by omega)]; simp [hb]
 ·rw [if_neg (fun h => e h.1.symm)]; simp [e]
theorem SOk.more {s : Sw} (h : SOk s) (h4 : ∀ x ∈ s.stock, 0 ≤ x ∧ x ≤ 4) (k : Nat) {n : Nat} (hn : n ≤ 4) : SOk (moreK s k n) :=
 ⟨h.l1, h.l3, h.lf, (by show (s.stock.modify k _).length = _; rw [List.length_modify]; exact h.st), fun x hx => by
  obtain ⟨j, hj, rfl⟩ := List.getElem_of_mem hx
  have e := moreK_get s k n j
  rw [List.getD_eq_getElem?_getD, List.getElem?_eq_getElem hj, Option.getD_some] at e
  have hj' : j < s.stock.length := by have : j < (s.stock.modify k (· + (n : Int))).length := hj; rwa [List.length_modify] at this
  rw [e, List.getD_eq_getElem?_getD, List.getElem?_eq_getElem hj', Option.getD_some]
  have := h4 _ (List.getElem_mem hj')
  split <;> omega, h.k0, h.k3, h.w5, h.wt⟩
end Go.Mz


namespace Go.Mz
open Go
section
variable {s s' : Sw} {f g : Nat → Nat}
variable {xs : List Want} (hxs : ∀ x ∈ xs, WtOk s.loaves x)
include hxs
end
end Go.Mz


namespace Go.Mz
open Go
end Go.Mz


set_option maxRecDepth 100000
namespace Go.Mz
open Go.Conc Go.Proofs
variable {X : Logic Tryz.prog}
section
variable {α : Type} {F F' I J L L' : LH} {k : Nat} {e : TypeId} {enc : α → List Value} {v : Value} {l : List α}
theorem Grow.other {b : Nat} {c : Array Value} {e2 : TypeId} {fz : Nat × Nat} {wr : Bool} (h : Grow I k e enc L v l) (hb : L b = some (.cells c e2 fz, wr)) (he : e2 ≠ e) (hI : I b = none) (o : Obj) : Grow I k e enc (L.put b o) v l := by
 obtain ⟨h1, ob, h2, h3⟩ := h
 refine ⟨fun t x hx => ?_, ob, h2.keep fun t ht => ?_, h3⟩
 ·rw [put_ne _ _ (fun e => by subst e; rw [hI] at hx; cases hx)]; exact h1 _ _ hx
 ·subst ht
  obtain ⟨_, c', _, g, _⟩ := h2
  exact put_ne _ _ fun e => by
   subst e
   rw [g] at hb
   cases hb
   exact he rfl
theorem Grow.blk {ad : Option Addr} {len cap : Nat} (h : Grow I k e enc L (.slice ad len cap) l) (h0 : 0 < l.length) : ∃ b, ad = some ⟨b, 0, none⟩ := by
 obtain ⟨_, ob, h2, _⟩ := h
 cases ob with
 | none => obtain ⟨_, h, _⟩ := h2; omega
 | some b => obtain ⟨_, _, e, _⟩ := h2; cases e; exact ⟨b, rfl⟩
end
structure DupC (s : Sw) (L L' : LH) (p : Wp) (F : LH) (rs : List (Rw Int)) : Prop where
 le : Le L F
 re : rs.map Prod.snd = s.loaves
 rk : ∀ x ∈ rs, RwOk F 1 encI x
 lo : Grow F 1 23 encRw L' (.slice p.la s.loaves.length p.lc) rs
 st : Grow F 1 3 encI L' (.slice p.sa s.stock.length p.sc) s.stock
 wt : Grow F 4 28 encWt L' (.slice p.wa s.wants.length p.wc) s.wants
 wl : s.wants.length ≤ p.wc
theorem DupC.at_ {s : Sw} {L L' F : LH} {p : Wp} {rs : List (Rw Int)} (h : DupC s L L' p F rs) : SwAt L' s p ∧ Le L L' :=
 ⟨⟨⟨rs, h.re, (h.lo.at encRw_len).2, fun x hx => (h.rk x hx).le h.lo.1⟩, (h.st.at encI_len).2, (h.wt.at encWt_len).2, h.wl⟩, h.le.trans h.st.1⟩
theorem Grow.setKind {I L : LH} {v : Value} {l : List Want} {w : Nat} {x : Want} (h : Grow I 4 28 encWt L v l) (hx : l[w]? = some x) (y : Int) :
  ∃ b cap c, v = .slice (some ⟨b, 0, none⟩) l.length cap ∧ I b = none ∧ L b = some (.cells c 28 (0, 0), true) ∧ w * 4 + 1 + 1 ≤ c.size ∧ Grow I 4 28 encWt (L.put b (.cells (putRow c (w * 4 + 1) [.int .i64 y]) 28)) v (l.set w { x with kind := y }) := by
 obtain ⟨hw, hxw⟩ := List.getElem?_eq_some_iff.1 hx
 obtain ⟨b, cap, c, hv, h1, h2, h3, h4⟩ := h.setN encWt_len hw { x with kind := y }
 refine ⟨b, cap, c, hv, h1, h2, by omega, ?_⟩
 subst hv
 obtain ⟨a, ha, hc⟩ := (h.at encWt_len).2 w x hx
 cases ha
 have hc' : ∀ j v, (encWt x)[j]? = some v → c[w * 4 + j]? = some v := fun j v hj => by
  have := hc j v hj
  unfold LH.cell? at this
  rw [add_of] at this
  simp only [h2] at this
  simpa using this
 have e : putRow c (w * 4) (encWt { x with kind := y }) = putRow c (w * 4 + 1) [.int .i64 y] := by
  refine Array.ext_getElem? fun j => ?_
  rw [putRow_get, putRow_get]
  by_cases j1 : j < w * 4
  ·rw [if_pos j1, if_pos (by omega)]
  ·rw [if_neg j1]
   by_cases j2 : j < w * 4 + 4
   ·rw [dif_pos ⟨by rw [encWt_len]; omega, by omega⟩]
    obtain ⟨i, rfl⟩ : ∃ i, j = w * 4 + i := ⟨j - w * 4, by omega⟩
    have hz : w * 4 + i - w * 4 = i := by omega
    simp only [hz]
    rcases i with _ | _ | _ | _ | i
    ·rw [if_pos (by omega)]; exact (hc' 0 _ rfl).symm
    ·rw [if_neg (by omega), dif_pos ⟨by simp, by omega⟩]
     have hz : w * 4 + (0 + 1) - (w * 4 + 1) = 0 := by omega
     simp only [hz]
     rfl
    ·rw [if_neg (by omega), dif_neg (by simp)]; exact (hc' 2 _ rfl).symm
    ·rw [if_neg (by omega), dif_neg (by simp)]; exact (hc' 3 _ rfl).symm
    ·omega
   ·rw [dif_neg (by rw [encWt_len]; omega), if_neg (by omega), dif_neg (by simp; omega)]
 rw [← e]
 exact h4
theorem Grow.setAmount {I L : LH} {v : Value} {l : List Want} {w : Nat} {x : Want} (h : Grow I 4 28 encWt L v l) (hx : l[w]? = some x) (y : Int) :
  ∃ b cap c, v = .slice (some ⟨b, 0, none⟩) l.length cap ∧ I b = none ∧ L b = some (.cells c 28 (0, 0), true) ∧ w * 4 + 2 + 1 ≤ c.size ∧ Grow I 4 28 encWt (L.put b (.cells (putRow c (w * 4 + 2) [.int .i64 y]) 28)) v (l.set w { x with amount := y }) := by
 obtain ⟨hw, hxw⟩ := List.getElem?_eq_some_iff.1 hx
 obtain ⟨b, cap, c, hv, h1, h2, h3, h4⟩ := h.setN encWt_len hw { x with amount := y }
 refine ⟨b, cap, c, hv, h1, h2, by omega, ?_⟩
 subst hv
 obtain ⟨a, ha, hc⟩ := (h.at encWt_len).2 w x hx
 cases ha
 have hc' : ∀ j v, (encWt x)[j]? = some v → c[w * 4 + j]? = some v := fun j v hj => by
  have := hc j v hj
  unfold LH.cell? at this
  rw [add_of] at this
  simp only [h2] at this
  simpa using this
 have e : putRow c (w * 4) (encWt { x with amount := y }) = putRow c (w * 4 + 2) [.int .i64 y] := by
  refine Array.ext_getElem? fun j => ?_
  rw [putRow_get, putRow_get]
  by_cases j1 : j < w * 4
  ·rw [if_pos j1, if_pos (by omega)]
  ·rw [if_neg j1]
   by_cases j2 : j < w * 4 + 4
   ·rw [dif_pos ⟨by rw [encWt_len]; omega, by omega⟩]
    obtain ⟨i, rfl⟩ : ∃ i, j = w * 4 + i := ⟨j - w * 4, by omega⟩
    have hz : w * 4 + i - w * 4 = i := by omega
    simp only [hz]
    rcases i with _ | _ | _ | _ | i
    ·rw [if_pos (by omega)]; exact (hc' 0 _ rfl).symm
    ·rw [if_pos (by omega)]; exact (hc' 1 _ rfl).symm
    ·rw [if_neg (by omega), dif_pos ⟨by simp, by omega⟩]
     have hz : w * 4 + (0 + 1 + 1) - (w * 4 + 2) = 0 := by omega
     simp only [hz]
     rfl
    ·rw [if_neg (by omega), dif_neg (by simp)]; exact (hc' 3 _ rfl).symm
    ·omega
   ·rw [dif_neg (by rw [encWt_len]; omega), if_neg (by omega), dif_neg (by simp; omega)]
 rw [← e]
 exact h4
end Go.Mz


namespace Go.Mz
open Go
theorem sawE_s4 {s : Sw} (h : sawE s = 0) : ∀ x ∈ s.stock, 0 ≤ x ∧ x ≤ 4 := by
 unfold sawE at h
 split at h
 ·rename_i h1; exact absurd h h1
 ·split at h
  ·rename_i h2; exact absurd h h2
  ·split at h
   ·cases h
   ·split at h
    ·cases h
    ·rename_i h4
     simp only [Bool.not_eq_true', Bool.not_eq_false, stockB_iff] at h4
     exact h4
end Go.Mz


set_option maxRecDepth 100000
namespace Go.Mz
open Go.Conc Go.Proofs
variable {X : Logic Tryz.prog}
theorem CloneG_sp (ad : Option Addr) (c : Nat) (l : List Int) (L : LH) (h : SlAt L ad 1 encI l) (hn : l.length ≤ 1000000) : Sp X 113 [.slice ad l.length c] L (fun v L' => Grow L 1 3 encI L' v l) := by
 refine Sp.enter (n := 8) Tryz.func113 rfl rfl rfl rfl fun C hX _ hL0 r => ?_
 refine W.go 99 rfl ?_
 refine W.split rfl rfl rfl (fun d1 => W.go 99 rfl ?_) (fun d1 => W.go 99 rfl ?_)
 ·have e : ad = none := by cases ad with | none => rfl | some a => simp at d1
  subst e
  obtain rfl := h.nil
  refine W.ret r rfl rfl ?_
  exact Grow.nil (Le.refl _)
 refine W.pub 5 (.inr ⟨_, _, _, rfl⟩) rfl rfl ?_
 intro b hb _
 refine W.eff rfl rfl rfl (Ef.grow rfl rfl rfl rfl rfl rfl rfl rfl rfl encI_len encI_sg (Grow.new (Le.put hb _) (put_same _ _ _) hb) (ls := l) (.sl (h.le (Le.put hb _)) encI_len rfl) (by simp; omega)) ?_
 rintro _ _ _ ⟨v', rfl, rfl, hg', _⟩
 refine W.go 99 rfl ?_
 refine W.ret r rfl rfl ?_
 exact hg'
theorem moreK_step {s : Sw} {k n : Nat} (hk : k < s.stock.length) : (moreK s k n).stock.set k (s.stock.getD k 0 + ((n + 1 : Nat) : Int)) = (moreK s k (n + 1)).stock := by
 show (s.stock.modify k (· + (n : Int))).set k _ = s.stock.modify k (· + ((n + 1 : Nat) : Int))
 apply List.ext_getElem?
 intro j
 rw [List.getElem?_set, List.getElem?_modify, List.length_modify]
 by_cases e : k = j
 ·subst e
  rw [if_pos rfl, if_pos hk, List.getD_eq_getElem?_getD, List.getElem?_eq_getElem hk]
  simp [List.getElem?_eq_getElem hk]
 ·rw [if_neg e, List.getElem?_modify]; simp [e]
theorem more0 (s : Sw) (k : Nat) : (moreK s k 0).stock = s.stock := by
 show s.stock.modify k (· + (0 : Int)) = s.stock
 apply List.ext_getElem?
 intro j
 rw [List.getElem?_modify]
 cases s.stock[j]? <;> simp
theorem more_len (s : Sw) (k n : Nat) : (moreK s k n).stock.length = s.stock.length := by
 show (s.stock.modify k _).length = _
 rw [List.length_modify]
theorem need_some {s : Sw} {k n : Nat} (h5 : n < 5) (hn : servedW (moreK s k n) = true) (hno : ∀ m, m < n → servedW (moreK s k m) = false) : needW s k = some n := find_range h5 hn hno
theorem need_none {s : Sw} {k : Nat} (hno : ∀ m, m < 5 → servedW (moreK s k m) = false) : needW s k = none := find_range_none hno
theorem Need_sp (s : Sw) (p : Wp) (k : Int) (L : LH) (h : SwAt L s p) (hn : Sm s) : Sp X 53 [swA s p, .int .i64 k] L (fun v L' => v = .tuple #[.int .i64 (NeedE s k).1, .int .i64 (NeedE s k).2] ∧ Le L L') := by
 refine Sp.enter (n := 37) Tryz.func53 rfl rfl rfl rfl fun C hX _ hL0 r => ?_
 refine W.go 99 rfl ?_
 refine W.pub 12 (.inr ⟨_, _, _, rfl⟩) rfl rfl ?_
 intro b12 hb12 _
 have f1 := Le.put hb12 (.cells #[.int .i64 k] 3)
 have g1 := put_same L b12 (.cells #[.int .i64 k] 3)
 change W _ _ _ _ _ _ (L.put b12 (.cells #[.int .i64 k] 3))
 generalize L.put b12 (.cells #[.int .i64 k] 3) = L1 at f1 g1 ⊢
 refine W.eff rfl rfl rfl (Ef.call rfl (open_sp s p (some ⟨b12, 0, none⟩) none 1 0 [k] [] L1 (h.le f1) hn (ints1 g1) SlAt.empty (by simp) (by simp))) ?_
 rintro _ _ _ ⟨v0, rfl, rfl, hle, hq⟩
 refine W.go 99 rfl ?_
 rename_i L2
 have hl2 := f1.trans hle
 rcases hq with ⟨he, rfl⟩ | ⟨he, rfl⟩
 ·refine W.go 99 rfl ?_
  refine W.split rfl rfl rfl (fun e1 => W.go 99 rfl ?_) (fun e1 => W.go 99 rfl ?_)
  ·refine W.ret r rfl rfl ?_
   have : NeedE s k = (0, openW s [k] []) := by unfold NeedE; rw [if_pos he]
   rw [this]
   exact ⟨rfl, hl2⟩
  ·simp at e1; exact absurd e1 he
 have hSE : NeedE s k = match needW s k.toNat with | some n => ((n : Int), 0) | none => (0, 11) := by unfold NeedE; rw [if_neg (by simp [he])]; rfl
 rw [hSE] at r
 obtain ⟨h0, hk, _⟩ := openW_0 he
 have hok := sawE_0 h0
 have hk := hk k (by simp)
 have hst := hok.st
 have hl3 := hok.l3
 have h4 := sawE_s4 h0
 obtain ⟨i, rfl⟩ : ∃ i : Nat, k = (i : Int) := ⟨k.toNat, by omega⟩
 have hi : i < s.stock.length := by omega
 rw [Int.toNat_natCast] at r
 refine W.go 99 rfl ?_
 refine W.split rfl rfl rfl (fun e1 => ?_) (fun e1 => ?_)
 ·simp at e1
 refine W.weak (E' := [(1, .v (.int .i64 i)), (2, .p 0 0), (17, .lit false)]) (B' := [some ⟨cellsS (.v (swA s p)), 26⟩]) (by exact ⟨rfl, rfl, rfl, trivial⟩) (by exact ⟨rfl, trivial⟩) ?_
 refine W.go 99 rfl ?_
 refine W.eff rfl rfl rfl (Ef.call rfl (CloneG_sp p.sa p.sc s.stock L2 (h.st.le hl2) (by omega))) ?_
 rintro _ _ _ ⟨v2, rfl, rfl, hg⟩
 rename_i L3 _
 obtain ⟨sa, sc, rfl, hsc⟩ := hg.slice
 refine W.go 99 rfl ?_
 refine W.loop (fun w E B L' => ∃ n : Nat, w = 5 - n ∧ n ≤ 5 ∧ Grow L2 1 3 encI L' (.slice sa s.stock.length sc) (moreK s i n).stock ∧ (∀ m, m < n → servedW (moreK s i m) = false) ∧
   E = [(1, .v (.int .i64 i)), (2, .p 0 0), (23, .v (.int .i64 n))] ∧ B = [some ⟨[.v (.slice p.la s.loaves.length p.lc), .v (.slice sa s.stock.length sc), .v (.int .i64 s.kerf), .v (.slice p.wa s.wants.length p.wc)], 26⟩])
  ⟨0, rfl, by omega, by rw [more0]; exact hg, (fun m hm => by omega), rfl, rfl⟩ (by exact ⟨rfl, rfl, rfl, trivial⟩) (by exact ⟨rfl, trivial⟩) ?_
 clear hg
 rintro _ _ _ L4 ⟨n, rfl, hn5, hg, hno, rfl, rfl⟩ again
 refine W.go 99 rfl ?_
 refine W.split rfl rfl rfl (fun e2 => W.go 99 rfl ?_) (fun e2 => W.go 99 rfl ?_)
 ·have hn5 : n < 5 := by have : (n : Int) < 5 := (by simpa using e2); omega
  have hsl := (hg.at encI_len).2
  have hsw : SwAt L4 (moreK s i n) ⟨p.la, sa, p.wa, p.lc, sc, p.wc⟩ := ⟨h.lo.le (hl2.trans hg.1), hsl, h.wt.le (hl2.trans hg.1), h.cap⟩
  have hsp := served_sp (X := C.X) (moreK s i n) ⟨p.la, sa, p.wa, p.lc, sc, p.wc⟩ L4 hsw (hok.more h4 i (by omega))
  rw [show swA (moreK s i n) ⟨p.la, sa, p.wa, p.lc, sc, p.wc⟩ = .agg #[.slice p.la s.loaves.length p.lc, .slice sa s.stock.length sc, .int .i64 s.kerf, .slice p.wa s.wants.length p.wc] by show Value.agg #[_, .slice sa (moreK s i n).stock.length sc, _, _] = _; rw [more_len]; rfl] at hsp
  refine W.eff rfl rfl rfl (Ef.call rfl (hsp)) ?_
  rintro _ _ _ ⟨v5, rfl, rfl, rfl, hl5⟩
  rename_i L5
  refine W.go 99 rfl ?_
  cases es : servedW (moreK s i n) with
  | true =>
   refine W.split rfl rfl rfl (fun c => ?_) (fun c => absurd c (by decide))
   refine W.go 99 rfl ?_
   refine W.ret r rfl rfl ?_
   rw [need_some hn5 es hno]
   exact ⟨rfl, hl2.trans (hg.1.trans hl5)⟩
  | false =>
   refine W.split rfl rfl rfl (fun c => absurd c (by decide)) (fun c => ?_)
   have hg5 := hg.le hl5
   have hin : i < (moreK s i n).stock.length := by rw [more_len]; exact hi
   have hget : (moreK s i n).stock[i]? = some (s.stock.getD i 0 + (n : Int)) := by
    rw [getD_some hin, moreK_get, if_pos ⟨rfl, hi⟩]
   have hb4 : 0 ≤ s.stock.getD i 0 ∧ s.stock.getD i 0 ≤ 4 := by
    have := h4 _ (List.getElem_mem hi)
    rw [List.getD_eq_getElem?_getD, List.getElem?_eq_getElem hi]
    exact this
   obtain ⟨b, cap, c, hv, _, hbc, hsz, hg6⟩ := hg5.setN encI_len hin (s.stock.getD i 0 + ((n + 1 : Nat) : Int))
   rw [moreK_step hi] at hg6
   rw [more_len] at hv
   cases hv
   have hown := (hg5.at encI_len).2
   refine W.go 99 rfl ?_
   refine W.vf rfl rfl rfl rfl (Vf.idx1 rfl rfl rfl rfl rfl rfl rfl (hi)) ?_
   refine W.go 99 rfl ?_
   refine W.vf rfl rfl rfl rfl (Vf.load rfl rfl rfl (hown.int hget)) ?_
   refine W.go 99 rfl ?_
   refine W.vf rfl rfl rfl rfl (Vf.idx1 rfl rfl rfl rfl rfl rfl rfl (hi)) ?_
   rw [wrap64_in _ (by omega) (by omega)]
   refine W.eff0 rfl rfl (Ef.stoF (b := b) (off := i * 1) (congrArg (fun a => some (SV.v (.pointer (some a)))) (show Addr.add ⟨b, 0, none⟩ i = ⟨b, i * 1, none⟩ by rw [add_of]; simp)) ⟨_, rfl, rfl⟩ rfl hbc rfl hsz (singles rfl)) ?_
   rintro _ _ _ ⟨rfl, rfl, rfl⟩
   refine W.go 99 rfl ?_
   refine W.again (again _ _ _ _ (by omega) ⟨n + 1, rfl, by omega, ?_, (fun m hm => ?_), rfl, rfl⟩) (by exact ⟨rfl, rfl, congrArg some (inc64 (by omega)), trivial⟩) (by exact ⟨rfl, trivial⟩)
   ·rw [show s.stock.getD i 0 + (n : Int) + 1 = s.stock.getD i 0 + ((n + 1 : Nat) : Int) by omega]
    exact hg6
   ·rcases Nat.lt_or_ge m n with h | h
    ·exact hno m h
    ·rw [show m = n by omega]; exact es
 ·have hn5 : n = 5 := by simp at e2; omega
  subst hn5
  refine W.ret r rfl rfl ?_
  rw [need_none hno]
  exact ⟨rfl, hl2.trans hg.1⟩
end Go.Mz


set_option maxRecDepth 100000
namespace Go.Mz
open Go.Conc Go.Proofs
variable {X : Logic Tryz.prog}
end Go.Mz

