/- Lemmas on which the claim leans. -/
import Derived.Test.YtnhckcgdmolgcaaGreatDoorMzLa
set_option maxRecDepth 100000
namespace Go.Mz
open Go.Conc Go.Proofs
def IntB (L : LH) (b : Nat) (l : List Int) : Prop := L b = some (.cells (l.map (Value.int .i64)).toArray 3 (0, 0), true)
theorem IntB.cell {L : LH} {b i : Nat} {l : List Int} {x : Int} (h : IntB L b l) (hx : l[i]? = some x) : L.cell? ((Addr.mk b 0 none).add i) = some (.int .i64 x) := by
 rw [add_of, Nat.zero_add]
 exact cell_of h (by rw [List.getElem?_toArray, List.getElem?_map, hx]; rfl)
theorem IntB.le {L L' : LH} {b : Nat} {l : List Int} (h : IntB L b l) (hl : Le L L') : IntB L' b l := hl _ _ h
theorem intB_new (L : LH) (b n : Nat) : IntB (L.put b (.cells (Array.replicate n (Value.int .i64 0)) 3)) b (List.replicate n 0) := by
 unfold IntB
 rw [put_same, List.map_replicate]
 rfl
theorem intB_put {b i : Nat} {l : List Int} (L : LH) (x : Int) : IntB (L.put b (.cells (putRow (l.map (Value.int .i64)).toArray i [.int .i64 x]) 3)) b (l.set i x) := by
 unfold IntB
 rw [put_same]
 show some (Obj.cells ((l.map (Value.int .i64)).toArray.setIfInBounds i (.int .i64 x)) 3 (0, 0), true) = _
 rw [List.setIfInBounds_toArray, List.map_set]
def fI (s : St) (t : List Int) (p : List Stand) : Int := if planE s t p = 0 then cnt p else -1
def lastG (s : St) (t : List Int) (p : List Stand) (j : Nat) : Int := ((s.cones.zip p).take j).foldl (fun n x => if 0 ≤ x.2.shelf then max n (fateS s t x.1 x.2).2 else n) (-1)
def gI (s : St) (t : List Int) (p : List Stand) : Int := if planE s t p = 0 then lastG s t p p.length else 0
def rowI (P : List (List Stand)) (f : List Stand → Int) (i : Nat) : List Int := (P.take i).map f ++ List.replicate (P.length - i) 0
theorem rowI_len (P : List (List Stand)) (f : List Stand → Int) {i : Nat} (hi : i ≤ P.length) : (rowI P f i).length = P.length := by
 unfold rowI
 rw [List.length_append, List.length_map, List.length_take, List.length_replicate]
 omega
theorem rowI_set {P : List (List Stand)} {f : List Stand → Int} {i : Nat} {p : List Stand} (hp : P[i]? = some p) {x : Int} (hx : f p = x) : (rowI P f i).set i x = rowI P f (i + 1) := by
 obtain ⟨hi, rfl⟩ := List.getElem?_eq_some_iff.1 hp
 unfold rowI
 rw [List.set_append, if_neg (by rw [List.length_map, List.length_take]; omega), List.length_map, List.length_take, Nat.min_eq_left (by omega), Nat.sub_self, show P.length - i = (P.length - (i + 1)) + 1 by omega, List.replicate_succ, List.set_cons_zero, List.take_succ_eq_append_getElem hi, List.map_append, List.append_assoc, hx.symm]
 rfl
theorem rowI_get {P : List (List Stand)} {f : List Stand → Int} {i k : Nat} {p : List Stand} (hp : P[k]? = some p) (hk : k < i) (hi : i ≤ P.length) : (rowI P f i)[k]? = some (f p) := by
 unfold rowI
 rw [List.getElem?_append_left (by rw [List.length_map, List.length_take]; omega), List.getElem?_map, List.getElem?_take, if_pos hk, hp]; rfl
theorem rowI_new {P : List (List Stand)} {f : List Stand → Int} {i : Nat} (hi : i < P.length) : (rowI P f i)[i]? = some 0 := by
 unfold rowI
 rw [List.getElem?_append_right (by rw [List.length_map, List.length_take]; omega), List.length_map, List.length_take, Nat.min_eq_left (by omega), Nat.sub_self, List.getElem?_replicate, if_pos (by omega)]
theorem rowI_same {P : List (List Stand)} {f : List Stand → Int} {i : Nat} {p : List Stand} (hp : P[i]? = some p) (hx : f p = 0) : rowI P f i = rowI P f (i + 1) := by
 have hi := (List.getElem?_eq_some_iff.1 hp).1
 rw [← rowI_set hp hx]
 refine List.ext_getElem? fun j => ?_
 rw [List.getElem?_set]
 split
 ·rename_i e
  subst e
  rw [rowI_new hi, if_pos (by rw [rowI_len P f (by omega)]; exact hi)]
 ·rfl
theorem flt2 {P : List (List Stand)} (q r : List Stand → Bool) (i : Nat) : ((P.take i).filter q).filter r = (P.take i).filter fun x => r x && q x := List.filter_filter ..
theorem lastG_step {s : St} {t : List Int} {pl : List Stand} {j : Nat} {c : Cone} {a : Stand} (hc : s.cones[j]? = some c) (ha : pl[j]? = some a) : lastG s t pl (j + 1) = if 0 ≤ a.shelf then max (lastG s t pl j) (fateS s t c a).2 else lastG s t pl j := by
 have hz : (s.cones.zip pl)[j]? = some (c, a) := by rw [List.getElem?_zip_eq_some]; exact ⟨hc, ha⟩
 obtain ⟨hj, e⟩ := List.getElem?_eq_some_iff.1 hz
 unfold lastG
 rw [List.take_succ_eq_append_getElem hj, List.foldl_append, e]; rfl
theorem cnt_step {pl : List Stand} {j : Nat} {a : Stand} (ha : pl[j]? = some a) : cnt (pl.take (j + 1)) = cnt (pl.take j) + if 0 ≤ a.shelf then 1 else 0 := by
 obtain ⟨hj, rfl⟩ := List.getElem?_eq_some_iff.1 ha
 rw [List.take_succ_eq_append_getElem hj, cnt_add]
theorem lastG_full {s : St} {t : List Int} {pl : List Stand} (hl : pl.length = s.cones.length) (hf : fullP s pl = true) : lastG s t pl pl.length = lastS s t pl := by
 have hall : ∀ a ∈ pl, 0 ≤ a.shelf := by
  unfold fullP cnt at hf
  have h1 : pl.countP (fun a => decide (0 ≤ a.shelf)) = pl.length := by
   have := of_decide_eq_true hf
   omega
  intro a ha
  simpa using List.countP_eq_length.1 h1 a ha
 unfold lastG lastS
 rw [List.take_of_length_le (by rw [List.length_zip]; omega)]
 have key : ∀ (l : List (Cone × Stand)) (n : Int), (∀ x ∈ l, 0 ≤ x.2.shelf) → l.foldl (fun n x => if 0 ≤ x.2.shelf then max n (fateS s t x.1 x.2).2 else n) n = l.foldl (fun n x => max n (fateS s t x.1 x.2).2) n := fun l => by
  induction l with
  | nil => intro n _; rfl
  | cons x l ih =>
   intro n h
   rw [List.foldl_cons, List.foldl_cons, if_pos (h x List.mem_cons_self)]
   exact ih _ fun y hy => h y (List.mem_cons_of_mem _ hy)
 exact key _ _ fun x hx => hall _ (List.of_mem_zip hx).2
def inC (ci : Nat) (x : List Stand) : Bool := match x[ci]? with | some a => decide (0 ≤ a.shelf) | none => false
def sameN (s : St) (t : List Int) (n : Int) (x : List Stand) : Bool := fI s t x == n
theorem verdict_is {s : St} {t : List Int} (h : Ok s) (ci : Nat) : verdictS s t ci = if ((allP s s.cones.length).filter (sameN s t (cnt (mostS s t)))).all (inC ci) then 1 else if ((allP s s.cones.length).filter (sameN s t (cnt (mostS s t)))).any (inC ci) then 3 else 2 := by
 have e : (fun x => (cnt x == cnt (mostS s t)) && okP s t x) = sameN s t (cnt (mostS s t)) := by
  funext x
  have h0 := (cnt_le (mostS s t)).1
  unfold sameN fI okP
  by_cases h1 : planE s t x = 0
  ·rw [if_pos h1, h1]; simp
  ·rw [if_neg h1]
   have h2 : (planE s t x == 0) = false := by simpa using h1
   have h3 : ((-1 : Int) == cnt (mostS s t)) = false := by rw [beq_eq_false_iff_ne]; omega
   rw [h2, h3, Bool.and_false]
 rw [verdict_of h]
 simp only [List.filter_filter, e]
 rfl
theorem verdE_in {s : St} {t : List Int} {i : Nat} (h : Ok s) (ht : heatsE s t = 0) (hi : i < s.cones.length) : VerdE s t i = (verdictS s t i, 0) := by
 have h1 : openE s t [(i : Int)] [] = 0 := by
  unfold openE
  rw [ok_iff.2 h, ht]
  have : inB (i : Int) 0 ((s.cones.length : Int) - 1) = true := by unfold inB; simp; omega
  simp [firstE, this]
 unfold VerdE
 rw [if_neg (by rw [h1]; simp)]; rfl
variable {Post : Value → World → Prop} {W0 : World}
theorem SmM_run (na : Option Addr) (nc : Nat) (nums : List Int) (L : LH) (hn : IntsAt L na nums) (hgl : GlOk L) (hl2 : nums.length ≤ 140737488355328)
    (hQ : ∀ v L' w, (v = .bool true ∧ Dim L L') → Sub L' w → Same W0 w → Post v w) :
    FGo Tryz.prog Post W0 (G (Frame.enter Tryz.prog 18 [.slice na nums.length nc].toArray .normal) []) L := by
  refine root_enter (n := 321) (s := 2) Tryz.func18 rfl rfl (by kernel_rfl) rfl rfl hQ fun C hX _ hL0 r => ?_
  have drd : ∀ L2, GlOk L2 → Sp C.X 21 [] L2 (fun v L' => v = .bool true ∧ Dim L2 L') := fun L2 h => by rw [hX]; exact dried_sp L2 h
  refine W.go 99 rfl ?_
  refine W.eff rfl rfl rfl (Ef.call rfl (NewHat_sp na nc nums L hn)) ?_
  rintro _ _ _ ⟨_, rfl, rfl, b, rfl, hb, hle1, hh1⟩
  refine W.go 99 rfl ?_
  rename_i L1
  have hb1 := le_but hb hle1
  refine W.eff rfl rfl rfl (Ef.call rfl (StoveOf_sp b na nc nums 0 2 3 L1 hh1 (by omega) hl2 (by omega) (by omega) (by omega))) ?_
  rintro _ _ _ ⟨_, rfl, rfl, s, p, m, rfl, hs, hm, hle2, hh2, hst2⟩
  refine W.go 99 rfl ?_
  rename_i L2
  have hok : Ok s := hs.ok
  have o1 := hok.s1
  have o3 := hok.s3
  have hc3 := hok.c3
  have o4 := hok.d4
  have o5 := hok.d1
  refine W.eff rfl rfl rfl (Ef.call rfl (HeatsOf_sp s p b na nc nums m L2 hh2 (by omega) hl2 hok)) ?_
  rintro _ _ _ ⟨_, rfl, rfl, t, I3, m2, ht, hm2, hg3⟩
  rename_i L3 _
  have hhk := hok_of ht
  have htl := hhk.len
  obtain ⟨ta, tc, rfl, _⟩ := hg3.g.slice
  obtain ⟨sd3, hb3⟩ := hg3.hat.blk
  have ht3 := ((hg3.g.sl_but encI_len hb3 (by decide)).2).le (but_le _ _)
  have hst3 : StAt L3 s p := hst2.le ((but_but hg3.le).trans (but_le _ _))
  have hL3 : Le L L3 := hb1.trans ((but_but (but_trans hle2 hg3.le)).trans (but_le _ _))
  have hgl3 := hgl.le hL3
  clear hg3 hst2 hh2 hle2 hle1 hb1
  refine W.go 99 rfl ?_
  refine W.eff rfl rfl rfl (Ef.call rfl (all_sp s p s.cones.length L3 hok hc3)) ?_
  rintro _ _ _ ⟨_, rfl, rfl, a1, c1, rfl, f4, hps⟩
  refine W.go 99 rfl ?_
  rename_i L4
  have hPl := allP_len s s.cones.length
  have hone := oneL_len hok
  have hpw : (oneL s).length ^ s.cones.length ≤ 13 ^ 3 := Nat.le_trans (Nat.pow_le_pow_left hone _) (Nat.pow_le_pow_right (by omega) hc3)
  have hPm := allP_mem s s.cones.length
  have hall := plans_all (hs := t) hok
  have heach := plans_each (hs := t) hok
  generalize hP : allP s s.cones.length = P at hps hPl hPm hall
  have hask : ∀ {L'}, Le L4 L' → AskAt L' s p ta t := fun hl => ⟨hst3.le (f4.trans hl), ht3.le (f4.trans hl), hgl3.le (f4.trans hl), by omega⟩
  have hL4 := hL3.trans f4
  refine W.cut1 (fun E B L' => ∃ b7 b8, b8 ≠ b7 ∧ L4 b7 = none ∧ L4 b8 = none ∧ Le L4 L' ∧ IntB L' b7 (List.replicate P.length 0) ∧ IntB L' b8 (List.replicate P.length 0) ∧
      SubE E [(4, .p 0 0), (5, .v (.slice ta t.length tc)), (6, .v (.slice a1 P.length c1)), (7, .v (.slice (some ⟨b7, 0, none⟩) P.length P.length)), (8, .v (.slice (some ⟨b8, 0, none⟩) P.length P.length))] ∧ PreB B [some ⟨cellsS (.v (stA s p)), 25⟩]) ?_ ?_
  rotate_left
  · intro rest
    refine W.drawn (by kernel_rfl) _ (Le.refl _) ?_
    refine DD.run' [0, 1, 3, 4] rfl ?_
    refine DD.act2 2 5 rfl rfl rfl rfl rfl rfl rfl rfl (Ef.makeSlice (n := P.length) rfl (by omega) Tryz.underlying28 size3 bytes3 zero3 (by decide) rfl) (Ef.makeSlice (n := P.length) rfl (by omega) Tryz.underlying28 size3 bytes3 zero3 (by decide) rfl) (by rintro _ _ _ ⟨_, rfl, rfl, hn, rfl⟩; exact ⟨Le.put hn _, rfl, .inl rfl⟩) (by rintro _ _ _ ⟨_, rfl, rfl, hn, rfl⟩; exact ⟨Le.put hn _, rfl, .inl rfl⟩) ?_ ?_
    · rintro _ _ _ ⟨b7, rfl, rfl, hb7, rfl⟩
      refine DD.run' [6] rfl ?_
      refine DD.act 5 rfl rfl rfl rfl rfl (Ef.makeSlice (n := P.length) rfl (by omega) Tryz.underlying28 size3 bytes3 zero3 (by decide) rfl) ((by rintro _ _ _ ⟨_, rfl, rfl, hn, rfl⟩; exact ⟨(Le.put hb7 _).trans (Le.put hn _), rfl, .inl rfl⟩)) ?_
      rintro _ _ _ ⟨b8, rfl, rfl, hb8, rfl⟩
      refine DD.run' [7] rfl ?_
      refine .fin rfl ?_
      have n87 : b8 ≠ b7 := fun e => by subst e; rw [put_same] at hb8; cases hb8
      exact rest _ _ _ ⟨b7, b8, n87, hb7, (put_ne _ _ n87).symm.trans hb8, (Le.put hb7 _).trans (Le.put hb8 _), (intB_new L4 b7 _).le (Le.put hb8 _), intB_new _ b8 _, by exact ⟨rfl, rfl, rfl, rfl, rfl, trivial⟩, by exact ⟨rfl, trivial⟩⟩
    · rintro _ _ _ ⟨b8, rfl, rfl, hb8, rfl⟩
      refine DD.act 2 rfl rfl rfl rfl rfl (Ef.makeSlice (n := P.length) rfl (by omega) Tryz.underlying28 size3 bytes3 zero3 (by decide) rfl) ((by rintro _ _ _ ⟨_, rfl, rfl, hn, rfl⟩; exact ⟨(Le.put hb8 _).trans (Le.put hn _), rfl, .inl rfl⟩)) ?_
      rintro _ _ _ ⟨b7, rfl, rfl, hb7, rfl⟩
      refine DD.run' [6, 7] rfl ?_
      refine .fin rfl ?_
      have n87 : b8 ≠ b7 := fun e => by subst e; rw [put_same] at hb7; cases hb7
      exact rest _ _ _ ⟨b7, b8, n87, (put_ne _ _ n87.symm).symm.trans hb7, hb8, (Le.put hb8 _).trans (Le.put hb7 _), intB_new _ b7 _, (intB_new L4 b8 _).le (Le.put hb7 _), by exact ⟨rfl, rfl, rfl, rfl, rfl, trivial⟩, by exact ⟨rfl, trivial⟩⟩
  rintro E B L5 ⟨b7, b8, n87, hb7, hb8, f5, i7, i8, hE, hB⟩
  refine W.weak hE hB ?_
  clear hE hB
  refine W.go 99 rfl ?_
  refine W.loop (fun w E B L' => ∃ (i : Nat) (bo fo so : Option Nat), w = P.length - i ∧ i ≤ P.length ∧ Le L4 L' ∧ IntB L' b7 (rowI P (fI s t) i) ∧ IntB L' b8 (rowI P (gI s t) i) ∧
      (firstMin (fun p => - cnt p) ((P.take i).filter (okP s t)) = pickP P bo ∧ ∀ k, bo = some k → k < i) ∧
      ((((P.take i).filter (okP s t)).filter (fullP s)).head? = pickP P fo ∧ ∀ k, fo = some k → k < i) ∧
      (firstMin (lastS s t) (((P.take i).filter (okP s t)).filter (fullP s)) = pickP P so ∧ ∀ k, so = some k → k < i) ∧
      E = [(4, .p 0 0), (5, .v (.slice ta t.length tc)), (6, .v (.slice a1 P.length c1)), (7, .v (.slice (some ⟨b7, 0, none⟩) P.length P.length)), (8, .v (.slice (some ⟨b8, 0, none⟩) P.length P.length)), (9, .v (.int .i64 (ixI bo))), (10, .v (.int .i64 (ixI fo))), (11, .v (.int .i64 (ixI so))), (12, .v (.int .i64 i))] ∧ B = [some ⟨cellsS (.v (stA s p)), 25⟩])
    ⟨0, none, none, none, rfl, by omega, f5, by simpa [rowI] using i7, by simpa [rowI] using i8, ⟨rfl, fun k h => by cases h⟩, ⟨rfl, fun k h => by cases h⟩, ⟨rfl, fun k h => by cases h⟩, rfl, rfl⟩ (by exact ⟨rfl, rfl, rfl, rfl, rfl, rfl, rfl, rfl, rfl, trivial⟩) (by exact ⟨rfl, trivial⟩) ?_
  rintro _ _ _ L6 ⟨i, bo, fo, so, rfl, hi, hl6, j7, j8, ⟨hbo, hbk⟩, ⟨hfo, hfk⟩, ⟨hso, hsk⟩, rfl, rfl⟩ again
  refine W.go 99 rfl ?_
  refine W.split rfl rfl rfl (fun e1 => W.go 99 rfl ?_) (fun e1 => W.go 99 rfl ?_)
  · have hil : i < P.length := by simpa using e1
    obtain ⟨pl, hpl⟩ : ∃ x, P[i]? = some x := ⟨_, List.getElem?_eq_getElem hil⟩
    have hpln := hPm pl (List.mem_of_getElem? hpl)
    have len7 := rowI_len P (fI s t) hi
    have len8 := rowI_len P (gI s t) hi
    have hx7 : (Addr.mk b7 0 none).add i = ⟨b7, i, none⟩ := by rw [add_of, Nat.zero_add]
    have hx8 : (Addr.mk b8 0 none).add i = ⟨b8, i, none⟩ := by rw [add_of, Nat.zero_add]
    refine W.vf rfl rfl rfl rfl (Vf.idx1 rfl rfl rfl rfl rfl rfl rfl (hil)) ?_
    refine W.go 99 rfl ?_
    refine W.eff0 rfl rfl (Ef.stoF (congrArg (fun a => some (SV.v (.pointer (some a)))) hx7) ⟨_, rfl, rfl⟩ rfl j7 rfl (by rw [List.size_toArray, List.length_map, len7]; exact hil) (singles rfl)) ?_
    rintro _ _ _ ⟨rfl, rfl, rfl⟩
    have k7 := intB_put (b := b7) (i := i) (l := rowI P (fI s t) i) L6 (-1)
    have k8 : IntB (L6.put b7 (.cells (putRow ((rowI P (fI s t) i).map (Value.int .i64)).toArray i [.int .i64 (-1)]) 3)) b8 (rowI P (gI s t) i) := (put_ne _ _ n87).trans j8
    have q6 : Le L4 (L6.put b7 (.cells (putRow ((rowI P (fI s t) i).map (Value.int .i64)).toArray i [.int .i64 (-1)]) 3)) := le_put_none hl6 hb7 _
    change W C _ _ _ _ _ (L6.put b7 (.cells (putRow ((rowI P (fI s t) i).map (Value.int .i64)).toArray i [.int .i64 (-1)]) 3))
    generalize L6.put b7 (.cells (putRow ((rowI P (fI s t) i).map (Value.int .i64)).toArray i [.int .i64 (-1)]) 3) = L7 at k7 k8 q6 ⊢
    clear j7 j8 hl6
    obtain ⟨a1', rfl⟩ := hps.addr hil
    obtain ⟨ra, rc, hrc, hrs⟩ := hps.row hpl
    have hR := Right_sp (X := C.X) s p ta ra tc rc t pl L7 (hask q6) (hrs.le q6) (by omega)
    rw [right_0 hok ht] at hR
    refine W.go 99 rfl ?_
    refine W.drawn (by kernel_rfl) _ (Le.refl _) ?_
    refine DD.run' [0, 1, 2, 3] rfl ?_
    refine DD.vf 4 rfl rfl rfl rfl rfl (Vf.idx1 rfl rfl rfl rfl rfl rfl rfl (hil)) ?_
    refine DD.vf 5 rfl rfl rfl rfl rfl (Vf.load rfl rfl rfl (q6.cell hrc)) ?_
    refine DD.act 6 rfl rfl rfl rfl rfl (Ef.call rfl (hR)) ((by rintro _ _ _ ⟨_, rfl, rfl, rfl, l⟩; exact ⟨l, rfl, .inl rfl⟩)) ?_
    rintro _ _ _ ⟨_, rfl, rfl, rfl, l8⟩
    rename_i L8
    have q6 := q6.trans l8
    have k7 := k7.le l8
    have k8 := k8.le l8
    refine DD.run' [7] rfl ?_
    refine .fin rfl ?_
    rw [flt2] at hfo hso
    refine W.split rfl rfl rfl (fun e2 => ?_) (fun e2 => ?_)
    · have h2 : planE s t pl ≠ 0 := by simpa using e2
      have hq : okP s t pl = false := by unfold okP; simpa using h2
      have hq2 : (fullP s pl && okP s t pl) = false := by rw [hq, Bool.and_false]
      refine W.go 99 rfl ?_
      refine W.again (again _ _ _ _ (by omega) ⟨i + 1, bo, fo, so, rfl, by omega, q6, ?_, ?_, ⟨(best_step hpl hbo hbk).1 hq, fun k h => Nat.lt_succ_of_lt (hbk k h)⟩, ⟨?_, fun k h => Nat.lt_succ_of_lt (hfk k h)⟩, ⟨?_, fun k h => Nat.lt_succ_of_lt (hsk k h)⟩, rfl, rfl⟩) (by exact ⟨rfl, rfl, rfl, rfl, rfl, rfl, rfl, rfl, congrArg some (inc64 (by omega)), trivial⟩) (by exact ⟨rfl, trivial⟩)
      · rw [← rowI_set hpl (show fI s t pl = -1 by unfold fI; rw [if_neg h2])]; exact k7
      · rw [← rowI_same hpl (show gI s t pl = 0 by unfold gI; rw [if_neg h2])]; exact k8
      · rw [flt2, first_step hpl hfo hfk, if_neg (by rw [hq2]; simp)]
      · rw [flt2]; exact (best_step hpl hso hsk).1 hq2
    have h2 : planE s t pl = 0 := by simpa using e2
    refine W.go 99 rfl ?_
    refine W.vf rfl rfl rfl rfl (Vf.idx1 rfl rfl rfl rfl rfl rfl rfl (hil)) ?_
    refine W.go 99 rfl ?_
    refine W.eff0 rfl rfl (Ef.stoF (congrArg (fun a => some (SV.v (.pointer (some a)))) hx7) ⟨_, rfl, rfl⟩ rfl k7 rfl (by rw [List.size_toArray, List.length_map, List.length_set, len7]; exact hil) (singles rfl)) ?_
    rintro _ _ _ ⟨rfl, rfl, rfl⟩
    have j7 := intB_put (b := b7) (i := i) (l := (rowI P (fI s t) i).set i (-1)) L8 0
    have j8 : IntB (L8.put b7 (.cells (putRow (((rowI P (fI s t) i).set i (-1)).map (Value.int .i64)).toArray i [.int .i64 0]) 3)) b8 (rowI P (gI s t) i) := (put_ne _ _ n87).trans k8
    have q7 : Le L4 (L8.put b7 (.cells (putRow (((rowI P (fI s t) i).set i (-1)).map (Value.int .i64)).toArray i [.int .i64 0]) 3)) := le_put_none q6 hb7 _
    change W C _ _ _ _ _ (L8.put b7 (.cells (putRow (((rowI P (fI s t) i).set i (-1)).map (Value.int .i64)).toArray i [.int .i64 0]) 3))
    generalize L8.put b7 (.cells (putRow (((rowI P (fI s t) i).set i (-1)).map (Value.int .i64)).toArray i [.int .i64 0]) 3) = L9 at j7 j8 q7 ⊢
    rw [List.set_set] at j7
    refine W.go 99 rfl ?_
    refine W.vf rfl rfl rfl rfl (Vf.idx1 rfl rfl rfl rfl rfl rfl rfl (hil)) ?_
    refine W.go 99 rfl ?_
    refine W.eff0 rfl rfl (Ef.stoF (congrArg (fun a => some (SV.v (.pointer (some a)))) hx8) ⟨_, rfl, rfl⟩ rfl j8 rfl (by rw [List.size_toArray, List.length_map, len8]; exact hil) (singles rfl)) ?_
    rintro _ _ _ ⟨rfl, rfl, rfl⟩
    have i8' := intB_put (b := b8) (i := i) (l := rowI P (gI s t) i) L9 (-1)
    have i7' : IntB (L9.put b8 (.cells (putRow ((rowI P (gI s t) i).map (Value.int .i64)).toArray i [.int .i64 (-1)]) 3)) b7 ((rowI P (fI s t) i).set i 0) := (put_ne _ _ n87.symm).trans j7
    have q8 : Le L4 (L9.put b8 (.cells (putRow ((rowI P (gI s t) i).map (Value.int .i64)).toArray i [.int .i64 (-1)]) 3)) := le_put_none q7 hb8 _
    change W C _ _ _ _ _ (L9.put b8 (.cells (putRow ((rowI P (gI s t) i).map (Value.int .i64)).toArray i [.int .i64 (-1)]) 3))
    generalize L9.put b8 (.cells (putRow ((rowI P (gI s t) i).map (Value.int .i64)).toArray i [.int .i64 (-1)]) 3) = L10 at i7' i8' q8 ⊢
    clear j7 j8 q7 k7 k8 q6
    refine W.go 99 rfl ?_
    refine W.loop (fun w E B L' => ∃ j : Nat, w = pl.length - j ∧ j ≤ pl.length ∧ Le L4 L' ∧ IntB L' b7 ((rowI P (fI s t) i).set i (cnt (pl.take j))) ∧ IntB L' b8 ((rowI P (gI s t) i).set i (lastG s t pl j)) ∧
        E = [(4, .p 0 0), (5, .v (.slice ta t.length tc)), (6, .v (.slice (some a1') P.length c1)), (7, .v (.slice (some ⟨b7, 0, none⟩) P.length P.length)), (8, .v (.slice (some ⟨b8, 0, none⟩) P.length P.length)), (9, .v (.int .i64 (ixI bo))), (10, .v (.int .i64 (ixI fo))), (11, .v (.int .i64 (ixI so))), (12, .v (.int .i64 i)), (13, .v (.int .i64 j))] ∧ B = [some ⟨cellsS (.v (stA s p)), 25⟩])
      ⟨0, rfl, by omega, q8, i7', i8', rfl, rfl⟩ (by exact ⟨rfl, rfl, rfl, rfl, rfl, rfl, rfl, rfl, rfl, rfl, trivial⟩) (by exact ⟨rfl, trivial⟩) ?_
    clear i7' i8' q8
    rintro _ _ _ L11 ⟨j, rfl, hj, q, i7, i8, rfl, rfl⟩ again2
    refine W.go 99 rfl ?_
    refine W.vf rfl rfl rfl rfl (Vf.idx1 rfl rfl rfl rfl rfl rfl rfl (hil)) ?_
    refine W.go 99 rfl ?_
    refine W.vf rfl rfl rfl rfl (Vf.load rfl rfl rfl (q.cell hrc)) ?_
    refine W.go 99 rfl ?_
    refine W.split rfl rfl rfl (fun e3 => W.go 99 rfl ?_) (fun e3 => W.go 99 rfl ?_)
    · have hjl : j < pl.length := by simpa using e3
      have hjc : j < s.cones.length := by omega
      have hge := List.getElem?_eq_getElem hjl
      have hcc := List.getElem?_eq_getElem hjc
      obtain ⟨ra', rfl⟩ := hrs.addr hjl
      have hcs := cnt_step hge
      have hls := lastG_step (t := t) hcc hge
      refine W.vf rfl rfl rfl rfl (Vf.idx1 rfl rfl rfl rfl rfl rfl rfl (hil)) ?_
      refine W.go 99 rfl ?_
      refine W.vf rfl rfl rfl rfl (Vf.load rfl rfl rfl (q.cell hrc)) ?_
      refine W.go 99 rfl ?_
      refine W.vf rfl rfl rfl rfl (Vf.idx rfl rfl rfl rfl rfl rfl (hjl)) ?_
      refine W.go 99 rfl ?_
      refine W.vf rfl rfl rfl rfl (Vf.load rfl rfl rfl ((hrs.le q).fld hge 0 rfl)) ?_
      refine W.go 99 rfl ?_
      refine W.split rfl rfl rfl (fun e4 => ?_) (fun e4 => ?_)
      · have h4 : ¬ 0 ≤ pl[j].shelf := by have : pl[j].shelf < 0 := by simpa using e4
                                          omega
        rw [if_neg h4] at hcs hls
        refine W.go 99 rfl ?_
        exact W.again (again2 _ _ _ _ (by omega) ⟨j + 1, rfl, by omega, q, by rw [hcs, Int.add_zero]; exact i7, by rw [hls]; exact i8, rfl, rfl⟩) (by exact ⟨rfl, rfl, rfl, rfl, rfl, rfl, rfl, rfl, rfl, congrArg some (inc64 (by omega)), trivial⟩) (by exact ⟨rfl, trivial⟩)
      have h4 : 0 ≤ pl[j].shelf := by have : ¬ pl[j].shelf < 0 := by simpa using e4
                                      omega
      rw [if_pos h4] at hcs hls
      obtain ⟨k, hk⟩ : ∃ k : Nat, pl[j].shelf = k := ⟨pl[j].shelf.toNat, by omega⟩
      obtain ⟨c, hc, hF⟩ := fate_right hok ht h2 hge hk
      obtain rfl : s.cones[j] = c := (List.getElem?_eq_some_iff.1 hc).2
      have hFa := Fate_sp (X := C.X) s p ta tc t j pl[j] L11 (hask q)
      rw [hF] at hFa
      refine W.go 99 rfl ?_
      refine W.drawn (by kernel_rfl) _ (Le.refl _) ?_
      refine DD.run' [0, 1, 2, 3, 4, 7] rfl ?_
      refine DD.vf 5 rfl rfl rfl rfl rfl (Vf.idx1 rfl rfl rfl rfl rfl rfl rfl (hil)) ?_
      refine DD.vf 6 rfl rfl rfl rfl rfl (Vf.load rfl rfl rfl (q.cell hrc)) ?_
      refine DD.vf 8 rfl rfl rfl rfl rfl (Vf.idx rfl rfl rfl rfl rfl rfl (hjl)) ?_
      refine DD.vf 9 rfl rfl rfl rfl rfl (Vf.loadN rfl rfl rfl ((hrs.le q).whole hge rfl)) ?_
      refine DD.act 10 rfl rfl rfl rfl rfl (Ef.call rfl (hFa)) ((by rintro _ _ _ ⟨_, rfl, rfl, rfl, l⟩; exact ⟨l, rfl, .inl rfl⟩)) ?_
      rintro _ _ _ ⟨_, rfl, rfl, rfl, l⟩
      rename_i L12
      have q := q.trans l
      have i7 := i7.le l
      have i8 := i8.le l
      refine DD.run' [11, 12, 13, 14, 15, 16, 17] rfl ?_
      refine .fin rfl ?_
      refine W.go 99 rfl ?_
      refine W.split rfl rfl rfl (fun h => absurd h (by simp)) (fun _ => W.go 99 rfl ?_)
      have hcl := cnt_le (pl.take j)
      have htl : (pl.take j).length ≤ pl.length := by rw [List.length_take]; omega
      have hw : IntKind.i64.wrap (cnt (pl.take j) + 1) = cnt (pl.take (j + 1)) := by rw [wrap64_in _ (by omega) (by omega), hcs]
      have g7 := i7.cell (i := i) (x := cnt (pl.take j)) (by rw [List.getElem?_set_self (by rw [len7]; exact hil)])
      have g8 := i8.cell (i := i) (x := lastG s t pl j) (by rw [List.getElem?_set_self (by rw [len8]; exact hil)])
      refine W.cut1 (fun E B L' => Le L4 L' ∧ IntB L' b7 ((rowI P (fI s t) i).set i (cnt (pl.take (j + 1)))) ∧ IntB L' b8 ((rowI P (gI s t) i).set i (lastG s t pl (j + 1))) ∧
          SubE E [(4, .p 0 0), (5, .v (.slice ta t.length tc)), (6, .v (.slice (some a1') P.length c1)), (7, .v (.slice (some ⟨b7, 0, none⟩) P.length P.length)), (8, .v (.slice (some ⟨b8, 0, none⟩) P.length P.length)), (9, .v (.int .i64 (ixI bo))), (10, .v (.int .i64 (ixI fo))), (11, .v (.int .i64 (ixI so))), (12, .v (.int .i64 i)), (13, .v (.int .i64 j))] ∧ PreB B [some ⟨cellsS (.v (stA s p)), 25⟩]) ?_ ?_
      · rintro E B L13 ⟨q, i7, i8, hE, hB⟩
        refine W.weak hE hB ?_
        refine W.go 99 rfl ?_
        exact W.again (again2 _ _ _ _ (by omega) ⟨j + 1, rfl, by omega, q, i7, i8, rfl, rfl⟩) (by exact ⟨rfl, rfl, rfl, rfl, rfl, rfl, rfl, rfl, rfl, congrArg some (inc64 (by omega)), trivial⟩) (by exact ⟨rfl, trivial⟩)
      · intro rest
        refine W.drawn (by kernel_rfl) noL (noL_le _) ?_
        refine DD.run' [0, 1, 2, 3, 4, 5, 9, 10, 13] rfl ?_
        refine DD.vf 6 rfl rfl rfl rfl rfl (Vf.idx1 rfl rfl rfl rfl rfl rfl rfl (hil)) ?_
        refine DD.vf 11 rfl rfl rfl rfl rfl (Vf.idx1 rfl rfl rfl rfl rfl rfl rfl (hil)) ?_
        refine DD.act2 7 12 rfl rfl rfl rfl rfl rfl rfl rfl (Ef.val rfl (Vf.load rfl rfl rfl g7)) (Ef.val rfl (Vf.load rfl rfl rfl g8)) (by rintro _ _ _ ⟨rfl, rfl, rfl⟩; exact ⟨noL_le _, rfl, .inl rfl⟩) (by rintro _ _ _ ⟨rfl, rfl, rfl⟩; exact ⟨noL_le _, rfl, .inl rfl⟩) ?_ ?_
        · rintro _ _ L13 ⟨rfl, rfl, rfl⟩
          refine DD.run' [8] rfl ?_
          refine DD.act 12 rfl rfl rfl rfl rfl (Ef.val rfl (Vf.load rfl rfl rfl (g8))) (by rintro _ _ _ ⟨rfl, rfl, rfl⟩; exact ⟨noL_le _, rfl, .inl rfl⟩) ?_
          rintro _ _ _ ⟨rfl, rfl, rfl⟩
          rename_i L13
          refine DD.run' [14] rfl ?_
          refine DD.vf 15 rfl rfl rfl rfl rfl (Vf.idx1 rfl rfl rfl rfl rfl rfl rfl (hil)) ?_
          rw [hw]
          refine DD.act 16 rfl rfl rfl rfl rfl (Ef.stoF (congrArg (fun a => some (SV.v (.pointer (some a)))) hx7) ⟨_, rfl, rfl⟩ rfl i7 rfl (by rw [List.size_toArray, List.length_map, List.length_set, len7]; exact hil) (singles rfl)) ((by rintro _ _ _ ⟨rfl, rfl, rfl⟩; exact ⟨noL_le _, rfl, .inl rfl⟩)) ?_
          rintro _ _ _ ⟨rfl, rfl, rfl⟩
          refine DD.vf 17 rfl rfl rfl rfl rfl (Vf.idx1 rfl rfl rfl rfl rfl rfl rfl (hil)) ?_
          refine DD.act 18 rfl rfl rfl rfl rfl (Ef.stoF (congrArg (fun a => some (SV.v (.pointer (some a)))) hx8) ⟨_, rfl, rfl⟩ rfl ((put_ne _ _ n87).trans i8) rfl (by rw [List.size_toArray, List.length_map, List.length_set, len8]; exact hil) (singles rfl)) ((by rintro _ _ _ ⟨rfl, rfl, rfl⟩; exact ⟨noL_le _, rfl, .inl rfl⟩)) ?_
          rintro _ _ _ ⟨rfl, rfl, rfl⟩
          refine .fin rfl ?_
          refine rest _ _ _ ⟨le_put_none (le_put_none q hb7 _) hb8 _, ?_, ?_, by exact ⟨rfl, rfl, rfl, rfl, rfl, rfl, rfl, rfl, rfl, rfl, trivial⟩, by exact ⟨rfl, trivial⟩⟩
          · refine (put_ne _ _ n87.symm).trans ?_
            have := intB_put (b := b7) (i := i) (l := (rowI P (fI s t) i).set i (cnt (pl.take j))) L13 (cnt (pl.take (j + 1)))
            rw [List.set_set] at this
            exact this
          · rw [hls]
            have := intB_put (b := b8) (i := i) (l := (rowI P (gI s t) i).set i (lastG s t pl j)) (L13.put b7 (.cells (putRow (((rowI P (fI s t) i).set i (cnt (pl.take j))).map (Value.int .i64)).toArray i [.int .i64 (cnt (pl.take (j + 1)))]) 3)) (if (fateS s t s.cones[j] pl[j]).2 > lastG s t pl j then (fateS s t s.cones[j] pl[j]).2 else lastG s t pl j)
            rw [List.set_set] at this
            have hmx : max (lastG s t pl j) (fateS s t s.cones[j] pl[j]).2 = if (fateS s t s.cones[j] pl[j]).2 > lastG s t pl j then (fateS s t s.cones[j] pl[j]).2 else lastG s t pl j := by split <;> omega
            rw [hmx]
            exact this
        · rintro _ _ L13 ⟨rfl, rfl, rfl⟩
          refine DD.run' [14] rfl ?_
          refine DD.act 7 rfl rfl rfl rfl rfl (Ef.val rfl (Vf.load rfl rfl rfl (g7))) (by rintro _ _ _ ⟨rfl, rfl, rfl⟩; exact ⟨noL_le _, rfl, .inl rfl⟩) ?_
          rintro _ _ _ ⟨rfl, rfl, rfl⟩
          rename_i L13
          refine DD.run' [8] rfl ?_
          refine DD.vf 15 rfl rfl rfl rfl rfl (Vf.idx1 rfl rfl rfl rfl rfl rfl rfl (hil)) ?_
          rw [hw]
          refine DD.act 16 rfl rfl rfl rfl rfl (Ef.stoF (congrArg (fun a => some (SV.v (.pointer (some a)))) hx7) ⟨_, rfl, rfl⟩ rfl i7 rfl (by rw [List.size_toArray, List.length_map, List.length_set, len7]; exact hil) (singles rfl)) ((by rintro _ _ _ ⟨rfl, rfl, rfl⟩; exact ⟨noL_le _, rfl, .inl rfl⟩)) ?_
          rintro _ _ _ ⟨rfl, rfl, rfl⟩
          refine DD.vf 17 rfl rfl rfl rfl rfl (Vf.idx1 rfl rfl rfl rfl rfl rfl rfl (hil)) ?_
          refine DD.act 18 rfl rfl rfl rfl rfl (Ef.stoF (congrArg (fun a => some (SV.v (.pointer (some a)))) hx8) ⟨_, rfl, rfl⟩ rfl ((put_ne _ _ n87).trans i8) rfl (by rw [List.size_toArray, List.length_map, List.length_set, len8]; exact hil) (singles rfl)) ((by rintro _ _ _ ⟨rfl, rfl, rfl⟩; exact ⟨noL_le _, rfl, .inl rfl⟩)) ?_
          rintro _ _ _ ⟨rfl, rfl, rfl⟩
          refine .fin rfl ?_
          refine rest _ _ _ ⟨le_put_none (le_put_none q hb7 _) hb8 _, ?_, ?_, by exact ⟨rfl, rfl, rfl, rfl, rfl, rfl, rfl, rfl, rfl, rfl, trivial⟩, by exact ⟨rfl, trivial⟩⟩
          · refine (put_ne _ _ n87.symm).trans ?_
            have := intB_put (b := b7) (i := i) (l := (rowI P (fI s t) i).set i (cnt (pl.take j))) L13 (cnt (pl.take (j + 1)))
            rw [List.set_set] at this
            exact this
          · rw [hls]
            have := intB_put (b := b8) (i := i) (l := (rowI P (gI s t) i).set i (lastG s t pl j)) (L13.put b7 (.cells (putRow (((rowI P (fI s t) i).set i (cnt (pl.take j))).map (Value.int .i64)).toArray i [.int .i64 (cnt (pl.take (j + 1)))]) 3)) (if (fateS s t s.cones[j] pl[j]).2 > lastG s t pl j then (fateS s t s.cones[j] pl[j]).2 else lastG s t pl j)
            rw [List.set_set] at this
            have hmx : max (lastG s t pl j) (fateS s t s.cones[j] pl[j]).2 = if (fateS s t s.cones[j] pl[j]).2 > lastG s t pl j then (fateS s t s.cones[j] pl[j]).2 else lastG s t pl j := by split <;> omega
            rw [hmx]
            exact this
    have hje : j = pl.length := by simp at e3; omega
    subst hje
    have hq : okP s t pl = true := by unfold okP; rw [h2]; rfl
    rw [List.take_length, rowI_set hpl (show fI s t pl = cnt pl by unfold fI; rw [if_pos h2])] at i7
    rw [rowI_set hpl (show gI s t pl = lastG s t pl pl.length by unfold gI; rw [if_pos h2])] at i8
    clear again2 e3 hj
    refine W.cut2 (fun E B L' => L11 = L' ∧ ∃ bo' : Option Nat, (firstMin (fun p => - cnt p) ((P.take (i + 1)).filter (okP s t)) = pickP P bo' ∧ ∀ k, bo' = some k → k < i + 1) ∧
        SubE E [(4, .p 0 0), (5, .v (.slice ta t.length tc)), (6, .v (.slice (some a1') P.length c1)), (7, .v (.slice (some ⟨b7, 0, none⟩) P.length P.length)), (8, .v (.slice (some ⟨b8, 0, none⟩) P.length P.length)), (9, .v (.int .i64 (ixI bo'))), (10, .v (.int .i64 (ixI fo))), (11, .v (.int .i64 (ixI so))), (12, .v (.int .i64 i))] ∧ PreB B [some ⟨cellsS (.v (stA s p)), 25⟩]) ?_ ?_
    rotate_left
    · intro rest
      obtain ⟨-, hst⟩ := best_step hpl hbo hbk
      obtain ⟨hs0, hs1⟩ := hst hq
      cases bo with
      | none =>
        refine W.drawn (by kernel_rfl) _ (Le.refl _) ?_
        refine DD.run' [0, 1, 2] rfl ?_
        refine DD.split 127 rfl (fun _ => ?_) (fun c => absurd c (by decide))
        refine DD.run' [3, 4, 5, 6, 7, 8, 9, 10, 11, 12] rfl ?_
        refine .fin rfl ?_
        refine W.split rfl rfl rfl (fun c => ?_) (fun c => absurd c (by decide))
        refine W.go 5 rfl ?_
        exact rest _ _ _ ⟨rfl, some i, ⟨hs0 rfl, fun k h => by cases h; omega⟩, by exact ⟨rfl, rfl, rfl, rfl, rfl, rfl, rfl, rfl, rfl, trivial⟩, by exact ⟨rfl, trivial⟩⟩
      | some k =>
        have hki := hbk k rfl
        obtain ⟨y, hy⟩ : ∃ y, P[k]? = some y := ⟨_, List.getElem?_eq_getElem (by omega)⟩
        have hs1 := hs1 k y rfl hy
        have hfy : fI s t y = cnt y := by
          have hm := firstMin_mem (hbo.trans (show pickP P (some k) = some y from hy))
          have := (List.mem_filter.1 hm).2
          unfold fI
          rw [if_pos (by simpa [okP] using this)]
        have g7 := i7.cell (i := i) (x := cnt pl) ((rowI_get hpl (Nat.lt_succ_self i) (by omega)).trans (by unfold fI; rw [if_pos h2]))
        have g7k := i7.cell (i := k) (x := cnt y) ((rowI_get hy (by omega) (by omega)).trans (by rw [hfy]))
        refine W.drawn (by kernel_rfl) _ (Le.refl _) ?_
        refine DD.run' [0, 1, 2] rfl ?_
        refine DD.split 127 rfl (fun c => absurd (of_decide_eq_true c) (by simp only [ixI]; omega)) (fun _ => ?_)
        refine DD.run' [3, 4] rfl ?_
        refine DD.vf 5 rfl rfl rfl rfl rfl (Vf.idx1 rfl rfl rfl rfl rfl rfl rfl (hil)) ?_
        refine DD.vf 6 rfl rfl rfl rfl rfl (Vf.load rfl rfl rfl (g7)) ?_
        refine DD.run' [7, 8] rfl ?_
        refine DD.vf 9 rfl rfl rfl rfl rfl (Vf.idx1 rfl rfl rfl rfl rfl rfl rfl ((show k < P.length by omega))) ?_
        refine DD.vf 10 rfl rfl rfl rfl rfl (Vf.load rfl rfl rfl (g7k)) ?_
        refine DD.run' [11, 12] rfl ?_
        refine .fin rfl ?_
        refine W.split rfl rfl rfl (fun e4 => ?_) (fun e4 => ?_)
        · have h4 : - cnt pl < - cnt y := by have : cnt y < cnt pl := by simpa using e4
                                             omega
          rw [if_pos h4] at hs1
          refine W.go 5 rfl ?_
          exact rest _ _ _ ⟨rfl, some i, ⟨hs1, fun k h => by cases h; omega⟩, by exact ⟨rfl, rfl, rfl, rfl, rfl, rfl, rfl, rfl, rfl, trivial⟩, by exact ⟨rfl, trivial⟩⟩
        · have h4 : ¬ - cnt pl < - cnt y := by have : ¬ cnt y < cnt pl := by simpa using e4
                                               omega
          rw [if_neg h4] at hs1
          refine W.go 2 rfl ?_
          exact rest _ _ _ ⟨rfl, some k, ⟨hs1, fun k' h => by cases h; omega⟩, by exact ⟨rfl, rfl, rfl, rfl, rfl, rfl, rfl, rfl, rfl, trivial⟩, by exact ⟨rfl, trivial⟩⟩
    · rintro E B _ ⟨rfl, bo', hbo', hE, hB⟩
      refine W.weak hE hB ?_
      have g7 := i7.cell (i := i) (x := cnt pl) ((rowI_get hpl (Nat.lt_succ_self i) (by omega)).trans (by unfold fI; rw [if_pos h2]))
      refine W.go 99 rfl ?_
      refine W.drawn (by kernel_rfl) _ (Le.refl _) ?_
      refine DD.run' [0, 1, 4, 5, 6] rfl ?_
      refine DD.vf 2 rfl rfl rfl rfl rfl (Vf.idx1 rfl rfl rfl rfl rfl rfl rfl (hil)) ?_
      refine DD.vf 3 rfl rfl rfl rfl rfl (Vf.load rfl rfl rfl (g7)) ?_
      refine DD.run' [7] rfl ?_
      refine .fin rfl ?_
      refine W.split rfl rfl rfl (fun e4 => ?_) (fun e4 => ?_)
      · have h4 : fullP s pl = true := by unfold fullP; simpa using e4
        have hq2 : (fullP s pl && okP s t pl) = true := by rw [hq, h4]; rfl
        have hgl : gI s t pl = lastS s t pl := by unfold gI; rw [if_pos h2, lastG_full (by omega) h4]
        refine W.go 2 rfl ?_
        refine W.cut1 (fun E B L' => L11 = L' ∧ ∃ fo' : Option Nat, (((P.take (i + 1)).filter fun x => fullP s x && okP s t x).head? = pickP P fo' ∧ ∀ k, fo' = some k → k < i + 1) ∧
            SubE E [(4, .p 0 0), (5, .v (.slice ta t.length tc)), (6, .v (.slice (some a1') P.length c1)), (7, .v (.slice (some ⟨b7, 0, none⟩) P.length P.length)), (8, .v (.slice (some ⟨b8, 0, none⟩) P.length P.length)), (9, .v (.int .i64 (ixI bo'))), (10, .v (.int .i64 (ixI fo'))), (11, .v (.int .i64 (ixI so))), (12, .v (.int .i64 i))] ∧ PreB B [some ⟨cellsS (.v (stA s p)), 25⟩]) ?_ ?_
        rotate_left
        · intro rest
          have hfs := first_step hpl hfo hfk
          cases fo with
          | none =>
            rw [if_pos ⟨hq2, rfl⟩] at hfs
            refine W.go 99 rfl ?_
            refine W.split rfl rfl rfl (fun c => ?_) (fun c => absurd c (by decide))
            refine W.go 5 rfl ?_
            exact rest _ _ _ ⟨rfl, some i, ⟨hfs, fun k h => by cases h; omega⟩, by exact ⟨rfl, rfl, rfl, rfl, rfl, rfl, rfl, rfl, rfl, trivial⟩, by exact ⟨rfl, trivial⟩⟩
          | some k =>
            have hki := hfk k rfl
            rw [if_neg (fun h => by have := h.2; cases this)] at hfs
            refine W.go 99 rfl ?_
            refine W.split rfl rfl rfl (fun h => absurd h (by intro h; have := of_decide_eq_true h; simp only [ixI] at this; omega)) (fun _ => ?_)
            refine W.go 2 rfl ?_
            exact rest _ _ _ ⟨rfl, some k, ⟨hfs, fun k' h => by cases h; omega⟩, by exact ⟨rfl, rfl, rfl, rfl, rfl, rfl, rfl, rfl, rfl, trivial⟩, by exact ⟨rfl, trivial⟩⟩
        · rintro E B _ ⟨rfl, fo', ⟨hfo', hfk'⟩, hE, hB⟩
          refine W.weak hE hB ?_
          obtain ⟨-, hst⟩ := best_step hpl hso hsk
          obtain ⟨hs0, hs1⟩ := hst hq2
          refine W.go 99 rfl ?_
          cases so with
          | none =>
            refine W.drawn (by kernel_rfl) _ (Le.refl _) ?_
            refine DD.run' [0, 1, 2] rfl ?_
            refine DD.split 152 rfl (fun _ => ?_) (fun c => absurd c (by decide))
            refine DD.run' [3, 4, 5, 6, 7, 8, 9, 10, 11, 12] rfl ?_
            refine .fin rfl ?_
            refine W.split rfl rfl rfl (fun c => ?_) (fun c => absurd c (by decide))
            refine W.go 99 rfl ?_
            exact W.again (again _ _ _ _ (by omega) ⟨i + 1, bo', fo', some i, rfl, by omega, q, i7, i8, hbo', ⟨by rw [flt2]; exact hfo', hfk'⟩, ⟨by rw [flt2]; exact hs0 rfl, fun k h => by cases h; omega⟩, rfl, rfl⟩) (by exact ⟨rfl, rfl, rfl, rfl, rfl, rfl, rfl, rfl, congrArg some (inc64 (by omega)), trivial⟩) (by exact ⟨rfl, trivial⟩)
          | some k =>
            have hki := hsk k rfl
            obtain ⟨y, hy⟩ : ∃ y, P[k]? = some y := ⟨_, List.getElem?_eq_getElem (by omega)⟩
            have hs1 := hs1 k y rfl hy
            have hgy : gI s t y = lastS s t y := by
              have hm := firstMin_mem (hso.trans (show pickP P (some k) = some y from hy))
              have hm2 := (List.mem_filter.1 hm).2
              simp only [Bool.and_eq_true] at hm2
              have hyl := hPm y (List.mem_of_getElem? hy)
              unfold gI
              rw [if_pos (by simpa [okP] using hm2.2), lastG_full hyl hm2.1]
            have g8 := i8.cell (i := i) (x := lastS s t pl) ((rowI_get hpl (Nat.lt_succ_self i) (by omega)).trans (by rw [hgl]))
            have g8k := i8.cell (i := k) (x := lastS s t y) ((rowI_get hy (by omega) (by omega)).trans (by rw [hgy]))
            refine W.drawn (by kernel_rfl) _ (Le.refl _) ?_
            refine DD.run' [0, 1, 2] rfl ?_
            refine DD.split 152 rfl (fun c => absurd (of_decide_eq_true c) (by simp only [ixI]; omega)) (fun _ => ?_)
            refine DD.run' [3, 4] rfl ?_
            refine DD.vf 5 rfl rfl rfl rfl rfl (Vf.idx1 rfl rfl rfl rfl rfl rfl rfl (hil)) ?_
            refine DD.vf 6 rfl rfl rfl rfl rfl (Vf.load rfl rfl rfl (g8)) ?_
            refine DD.run' [7, 8] rfl ?_
            refine DD.vf 9 rfl rfl rfl rfl rfl (Vf.idx1 rfl rfl rfl rfl rfl rfl rfl ((show k < P.length by omega))) ?_
            refine DD.vf 10 rfl rfl rfl rfl rfl (Vf.load rfl rfl rfl (g8k)) ?_
            refine DD.run' [11, 12] rfl ?_
            refine .fin rfl ?_
            refine W.split rfl rfl rfl (fun e5 => ?_) (fun e5 => ?_)
            · have h5 : lastS s t pl < lastS s t y := by simpa using e5
              rw [if_pos h5] at hs1
              refine W.go 99 rfl ?_
              exact W.again (again _ _ _ _ (by omega) ⟨i + 1, bo', fo', some i, rfl, by omega, q, i7, i8, hbo', ⟨by rw [flt2]; exact hfo', hfk'⟩, ⟨by rw [flt2]; exact hs1, fun k h => by cases h; omega⟩, rfl, rfl⟩) (by exact ⟨rfl, rfl, rfl, rfl, rfl, rfl, rfl, rfl, congrArg some (inc64 (by omega)), trivial⟩) (by exact ⟨rfl, trivial⟩)
            · have h5 : ¬ lastS s t pl < lastS s t y := by simpa using e5
              rw [if_neg h5] at hs1
              refine W.go 99 rfl ?_
              exact W.again (again _ _ _ _ (by omega) ⟨i + 1, bo', fo', some k, rfl, by omega, q, i7, i8, hbo', ⟨by rw [flt2]; exact hfo', hfk'⟩, ⟨by rw [flt2]; exact hs1, fun k' h => by cases h; omega⟩, rfl, rfl⟩) (by exact ⟨rfl, rfl, rfl, rfl, rfl, rfl, rfl, rfl, congrArg some (inc64 (by omega)), trivial⟩) (by exact ⟨rfl, trivial⟩)
      · have h4 : fullP s pl = false := by unfold fullP; simpa using e4
        have hq2 : (fullP s pl && okP s t pl) = false := by rw [h4]; rfl
        refine W.go 99 rfl ?_
        refine W.again (again _ _ _ _ (by omega) ⟨i + 1, bo', fo, so, rfl, by omega, q, i7, i8, hbo', ⟨?_, fun k h => Nat.lt_succ_of_lt (hfk k h)⟩, ⟨?_, fun k h => Nat.lt_succ_of_lt (hsk k h)⟩, rfl, rfl⟩) (by exact ⟨rfl, rfl, rfl, rfl, rfl, rfl, rfl, rfl, congrArg some (inc64 (by omega)), trivial⟩) (by exact ⟨rfl, trivial⟩)
        · rw [flt2, first_step hpl hfo hfk, if_neg (by rw [hq2]; simp)]
        · rw [flt2]; exact (best_step hpl hso hsk).1 hq2
  have hie : i = P.length := by simp at e1; omega
  subst hie
  rw [flt2] at hfo hso
  rw [List.take_length] at hbo hfo hso
  clear again e1 hi
  have hmo := most_of (t := t) hok
  have hao := all_of (t := t) hok
  have hsoo := soon_of (t := t) hok
  rw [hP] at hmo hao hsoo
  rw [List.filter_filter] at hao hsoo
  obtain ⟨M, hM⟩ : ∃ y, firstMin (fun p => - cnt p) (P.filter (okP s t)) = some y := firstMin_some (by
    have := plans_ne hok t allC
    rw [hall] at this
    exact this)
  have hMm : mostS s t = M := by rw [hmo, hM]; rfl
  rw [hM] at hbo
  cases bo with
  | none => cases hbo
  | some kb =>
  have hkb := hbk kb rfl
  have hPb : P[kb]? = some M := hbo.symm
  have hMok : planE s t M = 0 := by simpa [okP] using (List.mem_filter.1 (firstMin_mem hM)).2
  have hMl := hPm M (List.mem_of_getElem? hPb)
  have gb := j7.cell (i := kb) (x := cnt M) ((rowI_get hPb hkb (Nat.le_refl _)).trans (by unfold fI; rw [if_pos hMok]))
  have hL6 := hL4.trans hl6
  have hask6 : ∀ {L'}, Le L6 L' → AskAt L' s p ta t := fun hl => hask (hl6.trans hl)
  have hps6 := hps.le hl6
  obtain ⟨a1', rfl⟩ := hps6.addr hkb
  obtain ⟨rb, rbc, hrb, hrbs⟩ := hps6.row hPb
  refine W.split rfl rfl rfl (fun h => absurd h (by intro h; have := of_decide_eq_true h; simp only [ixI] at this; omega)) (fun _ => W.go 99 rfl ?_)
  have hM1 := Most_sp (X := C.X) s p ta tc t L6 (hask6 (Le.refl _))
  rw [mostE_ok hok ht, hMm] at hM1
  refine W.eff rfl rfl rfl (Ef.call rfl (hM1)) ?_
  rintro _ _ _ ⟨_, rfl, rfl, _, rfl, a17, c17, rfl, l7, w17, -⟩
  refine W.go 99 rfl ?_
  rename_i L7
  have hA1 := All_sp (X := C.X) s p ta tc t L7 (hask6 l7)
  refine W.eff rfl rfl rfl (Ef.call rfl (hA1)) ?_
  rintro _ _ _ ⟨_, rfl, rfl, _, rfl, a20, c20, rfl, l8, w20, -⟩
  refine W.go 99 rfl ?_
  rename_i L8
  have hS1 := Soonest_sp (X := C.X) s p ta tc t L8 (hask6 (l7.trans l8))
  refine W.eff rfl rfl rfl (Ef.call rfl (hS1)) ?_
  rintro _ _ _ ⟨_, rfl, rfl, _, rfl, a22, c22, rfl, l9, w22, -⟩
  refine W.go 99 rfl ?_
  rename_i L9
  have q9 := (l7.trans l8).trans l9
  refine W.split rfl rfl rfl (fun h => absurd h (by simp)) (fun _ => W.go 99 rfl ?_)
  refine W.vf rfl rfl rfl rfl (Vf.idx1 rfl rfl rfl rfl rfl rfl rfl (hkb)) ?_
  refine W.go 99 rfl ?_
  refine W.vf rfl rfl rfl rfl (Vf.load rfl rfl rfl (q9.cell gb)) ?_
  refine W.go 99 rfl ?_
  refine W.split rfl rfl rfl (fun h => absurd h (by simp)) (fun _ => W.go 99 rfl ?_)
  refine W.vf rfl rfl rfl rfl (Vf.idx1 rfl rfl rfl rfl rfl rfl rfl (hkb)) ?_
  refine W.go 99 rfl ?_
  refine W.vf rfl rfl rfl rfl (Vf.load rfl rfl rfl (q9.cell hrb)) ?_
  refine W.go 99 rfl ?_
  refine W.eff rfl rfl rfl (Ef.call rfl (EqStands_sp a17 rb c17 rbc M M L9 (w17.le (l8.trans l9)) (hrbs.le q9) (by omega) (by omega))) ?_
  rintro _ _ _ ⟨_, rfl, rfl, rfl, rfl⟩
  rw [show decide (M = M) = true from decide_eq_true rfl]
  refine W.go 99 rfl ?_
  refine W.split rfl rfl rfl (fun h => absurd h (by simp)) (fun _ => W.go 99 rfl ?_)
  have i8 := j8.le q9
  refine W.cutI (fun E B L' => L9 = L' ∧ SubE E [(4, .p 0 0), (5, .v (.slice ta t.length tc)), (6, .v (.slice (some a1') P.length c1)), (7, .v (.slice (some ⟨b7, 0, none⟩) P.length P.length)), (18, .v (.int .i64 (cnt M)))] ∧ PreB B [some ⟨cellsS (.v (stA s p)), 25⟩]) ?_ ?_
  rotate_left
  · intro rest
    have ho0 := openE_0 (hs := t) hok ht
    cases fo with
    | none =>
      have hnil : (P.filter fun x => fullP s x && okP s t x) = [] := by
        cases hl : P.filter fun x => fullP s x && okP s t x with
        | nil => rfl
        | cons a l => rw [hl] at hfo; cases hfo
      rw [hnil] at hao hsoo
      have hAE : AllE s t = ([], 11) := by unfold AllE; rw [if_neg (by rw [ho0]; simp), hao]; rfl
      have hSE : SoonE s t = ([], 0, 11) := by unfold SoonE; rw [if_neg (by rw [ho0]; simp), hsoo]; rfl
      rw [hAE, hSE]
      refine W.split rfl rfl rfl (fun c => ?_) (fun c => absurd c (by decide))
      refine W.go 99 rfl ?_
      refine W.split rfl rfl rfl (fun h => absurd h (by simp)) (fun _ => W.go 99 rfl ?_)
      refine W.split rfl rfl rfl (fun h => absurd h (by simp)) (fun _ => W.go 99 rfl ?_)
      refine W.split rfl rfl rfl (fun h => absurd h (by simp)) (fun _ => W.go 99 rfl ?_)
      refine W.split rfl rfl rfl (fun h => absurd h (by simp)) (fun _ => W.go 99 rfl ?_)
      refine W.split rfl rfl rfl (fun h => absurd h (by simp)) (fun _ => ?_)
      refine W.go 2 rfl ?_
      exact rest _ _ _ ⟨rfl, by exact ⟨rfl, rfl, rfl, rfl, rfl, trivial⟩, by exact ⟨rfl, trivial⟩⟩
    | some kf =>
      have hkf := hfk kf rfl
      obtain ⟨A, hPf⟩ : ∃ y, P[kf]? = some y := ⟨_, List.getElem?_eq_getElem hkf⟩
      rw [hfo, show pickP P (some kf) = some A from hPf] at hao
      obtain ⟨Z, hZ⟩ : ∃ y, firstMin (lastS s t) (P.filter fun x => fullP s x && okP s t x) = some y := firstMin_some (by
        intro h; rw [h] at hfo; exact absurd (hfo.trans (show pickP P (some kf) = some A from hPf)) (by simp))
      rw [hZ] at hso hsoo
      cases so with
      | none => cases hso
      | some ks =>
      have hks := hsk ks rfl
      have hPs : P[ks]? = some Z := hso.symm
      have hAE : AllE s t = (A, 0) := by unfold AllE; rw [if_neg (by rw [ho0]; simp), hao]
      have hSE : SoonE s t = (Z, lastS s t Z, 0) := by unfold SoonE; rw [if_neg (by rw [ho0]; simp), hsoo]
      have hZm := (List.mem_filter.1 (firstMin_mem hZ)).2
      simp only [Bool.and_eq_true] at hZm
      have hZl := hPm Z (List.mem_of_getElem? hPs)
      have hAl := hPm A (List.mem_of_getElem? hPf)
      have gz : gI s t Z = lastS s t Z := by unfold gI; rw [if_pos (by simpa [okP] using hZm.2), lastG_full hZl hZm.1]
      have g8 := i8.cell (i := ks) (x := lastS s t Z) ((rowI_get hPs hks (Nat.le_refl _)).trans (by rw [gz]))
      obtain ⟨rf, rfc, hrf, hrfs⟩ := hps6.row hPf
      obtain ⟨rs, rsc, hrs, hrss⟩ := hps6.row hPs
      rw [hAE] at w20 ⊢
      rw [hSE] at w22 ⊢
      refine W.split rfl rfl rfl (fun h => absurd h (by intro h; have := of_decide_eq_true h; simp only [ixI] at this; omega)) (fun _ => ?_)
      refine W.go 99 rfl ?_
      refine W.split rfl rfl rfl (fun h => absurd h (by simp)) (fun _ => W.go 99 rfl ?_)
      refine W.split rfl rfl rfl (fun h => absurd h (by simp)) (fun _ => W.go 99 rfl ?_)
      refine W.vf rfl rfl rfl rfl (Vf.idx1 rfl rfl rfl rfl rfl rfl rfl (hks)) ?_
      refine W.go 99 rfl ?_
      refine W.vf rfl rfl rfl rfl (Vf.load rfl rfl rfl (g8)) ?_
      refine W.go 99 rfl ?_
      refine W.split rfl rfl rfl (fun h => absurd h (by simp)) (fun _ => W.go 99 rfl ?_)
      refine W.vf rfl rfl rfl rfl (Vf.idx1 rfl rfl rfl rfl rfl rfl rfl (hkf)) ?_
      refine W.go 99 rfl ?_
      refine W.vf rfl rfl rfl rfl (Vf.load rfl rfl rfl (q9.cell hrf)) ?_
      refine W.go 99 rfl ?_
      refine W.eff rfl rfl rfl (Ef.call rfl (EqStands_sp a20 rf c20 rfc A A L9 (w20.le l9) (hrfs.le q9) (by omega) (by omega))) ?_
      rintro _ _ _ ⟨_, rfl, rfl, rfl, rfl⟩
      rw [show decide (A = A) = true from decide_eq_true rfl]
      refine W.go 99 rfl ?_
      refine W.split rfl rfl rfl (fun h => absurd h (by simp)) (fun _ => W.go 99 rfl ?_)
      refine W.vf rfl rfl rfl rfl (Vf.idx1 rfl rfl rfl rfl rfl rfl rfl (hks)) ?_
      refine W.go 99 rfl ?_
      refine W.vf rfl rfl rfl rfl (Vf.load rfl rfl rfl (q9.cell hrs)) ?_
      refine W.go 99 rfl ?_
      refine W.eff rfl rfl rfl (Ef.call rfl (EqStands_sp a22 rs c22 rsc Z Z L9 w22 (hrss.le q9) (by omega) (by omega))) ?_
      rintro _ _ _ ⟨_, rfl, rfl, rfl, rfl⟩
      rw [show decide (Z = Z) = true from decide_eq_true rfl]
      refine W.go 99 rfl ?_
      refine W.split rfl rfl rfl (fun h => absurd h (by simp)) (fun _ => ?_)
      refine W.go 2 rfl ?_
      exact rest _ _ _ ⟨rfl, by exact ⟨rfl, rfl, rfl, rfl, rfl, trivial⟩, by exact ⟨rfl, trivial⟩⟩
  · rintro E B _ ⟨rfl, hE, hB⟩
    refine W.weak hE hB ?_
    refine W.go 99 rfl ?_
    have j7 := j7.le q9
    have hrow9 := hps6.le q9
    refine W.loop (fun w E B L' => ∃ ci : Nat, w = s.cones.length - ci ∧ ci ≤ s.cones.length ∧ Le L9 L' ∧ E = [(4, .p 0 0), (5, .v (.slice ta t.length tc)), (6, .v (.slice (some a1') P.length c1)), (7, .v (.slice (some ⟨b7, 0, none⟩) P.length P.length)), (18, .v (.int .i64 (cnt M))), (25, .v (.int .i64 ci))] ∧ B = [some ⟨cellsS (.v (stA s p)), 25⟩])
      ⟨0, rfl, by omega, Le.refl _, rfl, rfl⟩ (by exact ⟨rfl, rfl, rfl, rfl, rfl, rfl, trivial⟩) (by exact ⟨rfl, trivial⟩) ?_
    rintro _ _ _ L10 ⟨ci, rfl, hci, l10, rfl, rfl⟩ again
    refine W.go 99 rfl ?_
    refine W.split rfl rfl rfl (fun e1 => W.go 99 rfl ?_) (fun e1 => W.go 99 rfl ?_)
    · have hcl : ci < s.cones.length := by simpa using e1
      refine W.loop (fun w E B L' => ∃ (q : Nat) (b1 b2 : Bool), w = P.length - q ∧ q ≤ P.length ∧ Le L10 L' ∧ ((P.take q).filter (sameN s t (cnt M))).any (inC ci) = b1 ∧ ((P.take q).filter (sameN s t (cnt M))).all (inC ci) = b2 ∧
          E = [(4, .p 0 0), (5, .v (.slice ta t.length tc)), (6, .v (.slice (some a1') P.length c1)), (7, .v (.slice (some ⟨b7, 0, none⟩) P.length P.length)), (18, .v (.int .i64 (cnt M))), (25, .v (.int .i64 ci)), (26, .lit b1), (27, .lit b2), (28, .v (.int .i64 q))] ∧ B = [some ⟨cellsS (.v (stA s p)), 25⟩])
        ⟨0, false, true, rfl, by omega, Le.refl _, rfl, rfl, rfl, rfl⟩ (by exact ⟨rfl, rfl, rfl, rfl, rfl, rfl, rfl, rfl, rfl, trivial⟩) (by exact ⟨rfl, trivial⟩) ?_
      rintro _ _ _ L11 ⟨q, b1, b2, rfl, hqn, hl, hb1, hb2, rfl, rfl⟩ again2
      have hq : Le L9 L11 := l10.trans hl
      refine W.go 99 rfl ?_
      refine W.split rfl rfl rfl (fun e2 => ?_) (fun e2 => ?_)
      · have hql : q < P.length := by simpa using e2
        refine W.go 99 rfl ?_
        obtain ⟨x, hx⟩ : ∃ x, P[q]? = some x := ⟨_, List.getElem?_eq_getElem hql⟩
        have hxl := hPm x (List.mem_of_getElem? hx)
        have hcx : ci < x.length := by omega
        have hxa := List.getElem?_eq_getElem hcx
        obtain ⟨rx, rxc, hxc, hxs⟩ := hrow9.row hx
        obtain ⟨rx', rfl⟩ := hxs.addr hcx
        have gq := (j7.le hq).cell (i := q) (x := fI s t x) (rowI_get hx hql (Nat.le_refl _))
        have hin : inC ci x = decide (0 ≤ x[ci].shelf) := by unfold inC; rw [hxa]
        refine W.vf rfl rfl rfl rfl (Vf.idx1 rfl rfl rfl rfl rfl rfl rfl (hql)) ?_
        refine W.go 99 rfl ?_
        refine W.vf rfl rfl rfl rfl (Vf.load rfl rfl rfl (gq)) ?_
        refine W.go 99 rfl ?_
        refine W.split rfl rfl rfl (fun e3 => ?_) (fun e3 => ?_)
        · have hsm : sameN s t (cnt M) x = true := e3
          refine W.go 99 rfl ?_
          cases b1 with
          | false =>
            cases b2 with
            | false =>
              refine W.drawn (by kernel_rfl) _ (Le.refl _) ?_
              refine DD.run' [0, 1] rfl ?_
              refine DD.run' [2, 3] rfl ?_
              refine DD.vf 4 rfl rfl rfl rfl rfl (Vf.idx1 rfl rfl rfl rfl rfl rfl rfl (hql)) ?_
              refine DD.vf 5 rfl rfl rfl rfl rfl (Vf.load rfl rfl rfl ((hq.cell hxc))) ?_
              refine DD.run' [6] rfl ?_
              refine DD.vf 7 rfl rfl rfl rfl rfl (Vf.idx rfl rfl rfl rfl rfl rfl (hcx)) ?_
              refine DD.run' [8] rfl ?_
              refine DD.vf 9 rfl rfl rfl rfl rfl (Vf.load rfl rfl rfl (((hxs.le hq).fld hxa 0 rfl))) ?_
              refine DD.run' [10, 11] rfl ?_
              refine DD.run' [12, 13] rfl ?_
              refine DD.run' [14, 15, 16, 17, 18, 19, 20, 21, 22, 23] rfl ?_
              refine DD.run' [24, 25] rfl ?_
              refine .fin rfl ?_
              refine W.go 99 rfl ?_
              refine W.asLit 26 rfl rfl ?_
              exact W.again (again2 _ _ _ _ (by omega) ⟨q + 1, decide (0 ≤ x[ci].shelf), false, rfl, by omega, hl, by rw [take_flt hx, if_pos hsm, List.any_append, hb1]; simp [hin], by rw [take_flt hx, if_pos hsm, List.all_append, hb2]; simp [hin], rfl, rfl⟩) (by exact ⟨rfl, rfl, rfl, rfl, rfl, rfl, rfl, rfl, congrArg some (inc64 (by omega)), trivial⟩) (by exact ⟨rfl, trivial⟩)
            | true =>
              refine W.drawn (by kernel_rfl) _ (Le.refl _) ?_
              refine DD.run' [0, 1] rfl ?_
              refine DD.run' [2, 3] rfl ?_
              refine DD.vf 4 rfl rfl rfl rfl rfl (Vf.idx1 rfl rfl rfl rfl rfl rfl rfl (hql)) ?_
              refine DD.vf 5 rfl rfl rfl rfl rfl (Vf.load rfl rfl rfl ((hq.cell hxc))) ?_
              refine DD.run' [6] rfl ?_
              refine DD.vf 7 rfl rfl rfl rfl rfl (Vf.idx rfl rfl rfl rfl rfl rfl (hcx)) ?_
              refine DD.run' [8] rfl ?_
              refine DD.vf 9 rfl rfl rfl rfl rfl (Vf.load rfl rfl rfl (((hxs.le hq).fld hxa 0 rfl))) ?_
              refine DD.run' [10, 11] rfl ?_
              refine DD.run' [12, 13] rfl ?_
              refine DD.run' [14, 15] rfl ?_
              refine DD.vf 16 rfl rfl rfl rfl rfl (Vf.idx1 rfl rfl rfl rfl rfl rfl rfl (hql)) ?_
              refine DD.vf 17 rfl rfl rfl rfl rfl (Vf.load rfl rfl rfl ((hq.cell hxc))) ?_
              refine DD.run' [18] rfl ?_
              refine DD.vf 19 rfl rfl rfl rfl rfl (Vf.idx rfl rfl rfl rfl rfl rfl (hcx)) ?_
              refine DD.run' [20] rfl ?_
              refine DD.vf 21 rfl rfl rfl rfl rfl (Vf.load rfl rfl rfl (((hxs.le hq).fld hxa 0 rfl))) ?_
              refine DD.run' [22, 23] rfl ?_
              refine DD.run' [24, 25] rfl ?_
              refine .fin rfl ?_
              refine W.go 99 rfl ?_
              refine W.asLit 26 rfl rfl ?_
              refine W.asLit 27 rfl rfl ?_
              exact W.again (again2 _ _ _ _ (by omega) ⟨q + 1, decide (0 ≤ x[ci].shelf), decide (0 ≤ x[ci].shelf), rfl, by omega, hl, by rw [take_flt hx, if_pos hsm, List.any_append, hb1]; simp [hin], by rw [take_flt hx, if_pos hsm, List.all_append, hb2]; simp [hin], rfl, rfl⟩) (by exact ⟨rfl, rfl, rfl, rfl, rfl, rfl, rfl, rfl, congrArg some (inc64 (by omega)), trivial⟩) (by exact ⟨rfl, trivial⟩)
          | true =>
            cases b2 with
            | false =>
              refine W.drawn (by kernel_rfl) _ (Le.refl _) ?_
              refine DD.run' [0, 1] rfl ?_
              refine DD.run' [2, 3, 4, 5, 6, 7, 8, 9, 10, 11] rfl ?_
              refine DD.run' [12, 13] rfl ?_
              refine DD.run' [14, 15, 16, 17, 18, 19, 20, 21, 22, 23] rfl ?_
              refine DD.run' [24, 25] rfl ?_
              refine .fin rfl ?_
              refine W.go 99 rfl ?_
              exact W.again (again2 _ _ _ _ (by omega) ⟨q + 1, true, false, rfl, by omega, hl, by rw [take_flt hx, if_pos hsm, List.any_append, hb1]; simp [hin], by rw [take_flt hx, if_pos hsm, List.all_append, hb2]; simp [hin], rfl, rfl⟩) (by exact ⟨rfl, rfl, rfl, rfl, rfl, rfl, rfl, rfl, congrArg some (inc64 (by omega)), trivial⟩) (by exact ⟨rfl, trivial⟩)
            | true =>
              refine W.drawn (by kernel_rfl) _ (Le.refl _) ?_
              refine DD.run' [0, 1] rfl ?_
              refine DD.run' [2, 3, 4, 5, 6, 7, 8, 9, 10, 11] rfl ?_
              refine DD.run' [12, 13] rfl ?_
              refine DD.run' [14, 15] rfl ?_
              refine DD.vf 16 rfl rfl rfl rfl rfl (Vf.idx1 rfl rfl rfl rfl rfl rfl rfl (hql)) ?_
              refine DD.vf 17 rfl rfl rfl rfl rfl (Vf.load rfl rfl rfl ((hq.cell hxc))) ?_
              refine DD.run' [18] rfl ?_
              refine DD.vf 19 rfl rfl rfl rfl rfl (Vf.idx rfl rfl rfl rfl rfl rfl (hcx)) ?_
              refine DD.run' [20] rfl ?_
              refine DD.vf 21 rfl rfl rfl rfl rfl (Vf.load rfl rfl rfl (((hxs.le hq).fld hxa 0 rfl))) ?_
              refine DD.run' [22, 23] rfl ?_
              refine DD.run' [24, 25] rfl ?_
              refine .fin rfl ?_
              refine W.go 99 rfl ?_
              refine W.asLit 27 rfl rfl ?_
              exact W.again (again2 _ _ _ _ (by omega) ⟨q + 1, true, decide (0 ≤ x[ci].shelf), rfl, by omega, hl, by rw [take_flt hx, if_pos hsm, List.any_append, hb1]; simp [hin], by rw [take_flt hx, if_pos hsm, List.all_append, hb2]; simp [hin], rfl, rfl⟩) (by exact ⟨rfl, rfl, rfl, rfl, rfl, rfl, rfl, rfl, congrArg some (inc64 (by omega)), trivial⟩) (by exact ⟨rfl, trivial⟩)
        · have hsm : ¬ sameN s t (cnt M) x = true := by unfold sameN; rw [e3]; simp
          refine W.go 99 rfl ?_
          exact W.again (again2 _ _ _ _ (by omega) ⟨q + 1, b1, b2, rfl, by omega, hl, by rw [take_flt hx, if_neg hsm, List.append_nil]; exact hb1, by rw [take_flt hx, if_neg hsm, List.append_nil]; exact hb2, rfl, rfl⟩) (by exact ⟨rfl, rfl, rfl, rfl, rfl, rfl, rfl, rfl, congrArg some (inc64 (by omega)), trivial⟩) (by exact ⟨rfl, trivial⟩)
      · have hqe : q = P.length := by simp at e2; omega
        subst hqe
        rw [List.take_length] at hb1 hb2
        have hv := verdict_is (t := t) hok ci
        rw [hP, hMm, hb1, hb2] at hv
        have hV := Verdict_sp (X := C.X) s p ta tc t ci L11 (hask6 (q9.trans hq))
        rw [verdE_in hok ht hcl] at hV
        cases b2 with
        | false =>
          cases b1 with
          | false =>
            rw [show verdictS s t ci = 2 by rw [hv]; rfl] at hV
            refine W.go 99 rfl ?_
            refine W.eff rfl rfl rfl (Ef.call rfl (hV)) ?_
            rintro _ _ _ ⟨_, rfl, rfl, rfl, lv⟩
            refine W.go 99 rfl ?_
            refine W.split rfl rfl rfl (fun h => absurd h (by simp)) (fun _ => W.go 99 rfl ?_)
            refine W.split rfl rfl rfl (fun h => absurd h (by simp)) (fun _ => W.go 99 rfl ?_)
            exact W.again (again _ _ _ _ (by omega) ⟨ci + 1, rfl, by omega, hq.trans lv, rfl, rfl⟩) (by exact ⟨rfl, rfl, rfl, rfl, rfl, congrArg some (inc64 (by omega)), trivial⟩) (by exact ⟨rfl, trivial⟩)
          | true =>
            rw [show verdictS s t ci = 3 by rw [hv]; rfl] at hV
            refine W.go 99 rfl ?_
            refine W.eff rfl rfl rfl (Ef.call rfl (hV)) ?_
            rintro _ _ _ ⟨_, rfl, rfl, rfl, lv⟩
            refine W.go 99 rfl ?_
            refine W.split rfl rfl rfl (fun h => absurd h (by simp)) (fun _ => W.go 99 rfl ?_)
            refine W.split rfl rfl rfl (fun h => absurd h (by simp)) (fun _ => W.go 99 rfl ?_)
            exact W.again (again _ _ _ _ (by omega) ⟨ci + 1, rfl, by omega, hq.trans lv, rfl, rfl⟩) (by exact ⟨rfl, rfl, rfl, rfl, rfl, congrArg some (inc64 (by omega)), trivial⟩) (by exact ⟨rfl, trivial⟩)
        | true =>
          cases b1 with
          | false =>
            rw [show verdictS s t ci = 1 by rw [hv]; rfl] at hV
            refine W.go 99 rfl ?_
            refine W.eff rfl rfl rfl (Ef.call rfl (hV)) ?_
            rintro _ _ _ ⟨_, rfl, rfl, rfl, lv⟩
            refine W.go 99 rfl ?_
            refine W.split rfl rfl rfl (fun h => absurd h (by simp)) (fun _ => W.go 99 rfl ?_)
            refine W.split rfl rfl rfl (fun h => absurd h (by simp)) (fun _ => W.go 99 rfl ?_)
            exact W.again (again _ _ _ _ (by omega) ⟨ci + 1, rfl, by omega, hq.trans lv, rfl, rfl⟩) (by exact ⟨rfl, rfl, rfl, rfl, rfl, congrArg some (inc64 (by omega)), trivial⟩) (by exact ⟨rfl, trivial⟩)
          | true =>
            rw [show verdictS s t ci = 1 by rw [hv]; rfl] at hV
            refine W.go 99 rfl ?_
            refine W.eff rfl rfl rfl (Ef.call rfl (hV)) ?_
            rintro _ _ _ ⟨_, rfl, rfl, rfl, lv⟩
            refine W.go 99 rfl ?_
            refine W.split rfl rfl rfl (fun h => absurd h (by simp)) (fun _ => W.go 99 rfl ?_)
            refine W.split rfl rfl rfl (fun h => absurd h (by simp)) (fun _ => W.go 99 rfl ?_)
            exact W.again (again _ _ _ _ (by omega) ⟨ci + 1, rfl, by omega, hq.trans lv, rfl, rfl⟩) (by exact ⟨rfl, rfl, rfl, rfl, rfl, congrArg some (inc64 (by omega)), trivial⟩) (by exact ⟨rfl, trivial⟩)
    · refine W.eff rfl rfl rfl (Ef.call rfl (drd L10 (hgl.le (hL6.trans (q9.trans l10))))) ?_
      rintro _ _ _ ⟨_, rfl, rfl, rfl, hdm⟩
      refine W.go 99 rfl ?_
      exact W.retO r rfl ⟨rfl, (Dim.of_le (hL6.trans (q9.trans l10))).trans hdm⟩
end Go.Mz

