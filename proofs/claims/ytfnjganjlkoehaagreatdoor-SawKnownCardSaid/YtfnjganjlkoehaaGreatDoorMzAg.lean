/- Lemmas on which the claim leans. -/
import Derived.Test.YtfnjganjlkoehaaGreatDoorMzAf
namespace Go.Mz
open Go.Conc Go.ConcN
open Go.ConcR (KK wgBlock WgAt stA smA rd wr Payload Aside2 DC0 Bk bk_of_mute)
variable {p : Pool} {W0 : World} {S0 : Nat → Prop} {n0 : Nat} {gs : Array Goroutine} {w : World} {t : Trace} {j : Nat} {ks : Bool} {st : Nat → Nat} {F : Nat → Tree} {cc : Nat → Nat} {cv : Nat → Value} {q : Nat → Nat} {kt : CTag} {kx : Nat} {mt : MTag} {R : Nat → Prop}
  {Ls : Nat → LH} {Sh : Nat → Prop} {sv mv : Int}
theorem touch_old {t u : Trace} (hn : ∀ op ∈ u, op.act.touch? = none) {idx : Nat} {a : Touch} (ha : touchAt (t ++ u) idx = some a) : touchAt t idx = some a := by
 obtain ⟨x, hx, hxa⟩ := touch_of ha
 rcases getElem?_append_cases hx with ⟨hi, hx'⟩ | ⟨_, hxu⟩
 ·rw [touchAt_of hx']; exact hxa
 ·rw [hn x hxu] at hxa; cases hxa
theorem Trc.mute {size : Nat} {u : Trace} (h : Trc p S0 n0 size t) (hn : ∀ op ∈ u, op.act.touch? = none) (hr : ∀ op ∈ u, op.act ≠ .mark (.release (stA p.W))) : Trc p S0 n0 size (t ++ u) where
 len := by have := h.len; rw [Array.size_append]; omega
 known := fun i a b hi ha hb => by
  have hit : i < t.size := Nat.lt_of_lt_of_le hi h.len
  rw [touchAt_old hit] at ha
  exact (h.known i a b hi ha hb).imp (·.app u) id
 over := fun i g hi hgi hne hc => by
  have hit : i < t.size := Nat.lt_of_lt_of_le hi h.len
  rw [g?_old hit] at hgi
  obtain ⟨j, hj, hb⟩ := h.over i g hi hgi hne ((counts_old hit).1 hc)
  have hjl : j < t.size := by
   unfold Trace.g? at hj
   obtain ⟨z, hz, _⟩ := Option.map_eq_some_iff.1 hj
   exact lt_size_of_getElem? hz
  exact ⟨j, by rw [g?_old hjl]; exact hj, hb_app u hb⟩
 who := fun i op hi ho ht => by
  rcases getElem?_append_cases ho with ⟨_, ho'⟩ | ⟨_, hou⟩
  ·exact h.who i op hi ho' ht
  ·exact absurd (hn op hou) ht
 norel := fun i hi ha => by
  obtain ⟨op, ho, hoa⟩ := Option.map_eq_some_iff.1 ha
  rcases getElem?_append_cases ho with ⟨_, ho'⟩ | ⟨_, hou⟩
  ·exact h.norel i hi (by rw [act?_of ho', hoa])
  ·exact hr op hou hoa
 atm := fun i a b hi hat hk hb => by
  obtain ⟨x, hx, hxa⟩ := touch_of hat
  rcases getElem?_append_cases hx with ⟨_, hx'⟩ | ⟨_, hxu⟩
  ·exact h.atm i a b hi (by rw [touchAt_of hx']; exact hxa) hk hb
  ·rw [hn x hxu] at hxa; cases hxa
theorem relBy_mute {a : Addr} {t u : Trace} {k r : Nat} (h : RelBy a t k r) (hn : ∀ op ∈ u, op.act.touch? = none) : RelBy a (t ++ u) k r := by
 refine h.app fun i hi _ hc => ?_
 obtain ⟨x, hx, _⟩ := hc
 have := touch_old hn (idx := i) (a := x) hx
 obtain ⟨z, hz, _⟩ := touch_of this
 have := lt_size_of_getElem? hz
 omega
theorem Deaf_plain {t u : Trace} (hn : ∀ op ∈ u, ∀ m, op.act ≠ .mark m) (g : Nat) : Deaf (t ++ u) g = Deaf t g := by
 obtain ⟨l⟩ := u
 rw [Deaf_append]
 induction l generalizing t with
 | nil => rfl
 | cons y l ih =>
  have hy : deafStep g (Deaf t g) y = Deaf t g := by
   have := hn y (by simp)
   unfold deafStep
   split
   ·rename_i e; exact absurd e (this _)
   ·rename_i e; exact absurd e (this _)
   ·rfl
  rw [List.foldl_cons, hy]
  exact ih fun op ho => hn op (by simp at ho ⊢; exact .inr ho)
theorem Sit.spawn (h : Sit p W0 S0 n0 gs w t j false st F cc cv q kt kx mt R Ls Sh sv mv) {g g' child : Goroutine} (sl : Option (Nat × Nat)) (hx : gs[0]? = some g)
    (hgo : stepG p.P true g w = .spawn g' child w #[]) (hd0 : Deaf t 0 = 0) {Lm Lc : LH}
    (hm1 : ∀ b o wr, Lm b = some (o, wr) → ∃ wr', Ls 0 b = some (o, wr') ∧ (wr = true → wr' = true)) (hc1 : ∀ b o wr, Lc b = some (o, wr) → ∃ wr', Ls 0 b = some (o, wr') ∧ (wr = true → wr' = true))
    (hmc : ∀ b o, Lm b = some (o, true) → Lc b = none) (hcm : ∀ b o, Lc b = some (o, true) → Lm b = none)
    {j' : Nat} {ks' : Bool} {st' : Nat → Nat} {Tm Tc : Tree} {mt' : MTag}
    (hnew : (j' = j + 1 ∧ ks' = false ∧ st' = upd st j 12 ∧ j < p.n ∧ At p.P false p.Φ (WStop p j) Tc child Lc) ∨ (j' = j ∧ j = p.n ∧ ks' = true ∧ st' = st ∧ At p.P false p.Φ (KDis p) Tc child Lc))
    (hmn : MSt p mt' R Tm 0 g' Lm) (hmode : ConcN.Mode j' (stg st') (tagOf .kd mt') sv mv) (hjm : jOk p.n j' ks' mt') (hmp : mt' ≠ .park) (hlt : mrank mt' < mrank mt) :
    ∃ m' ops μ', runT p.P (crowd gs w sl) 0 = (.next m', ops) ∧ MLt (p.base + p.n + 1) μ' (meas p j false st F kt kx mt) ∧ PInv p W0 S0 n0 μ' m' (t ++ ops) := by
  obtain ⟨rfl, rfl⟩ := h.kk rfl
  have hb := h.base1
  have hjn := h.jn
  have hsz := h.size
  simp only [Bool.toNat_false, Nat.add_zero] at hsz
  have h0lt : 0 < gs.size := (Array.getElem?_eq_some_iff.1 hx).1
  have hrun := runT_crowd_spawn (P := p.P) (sl := sl) (i := 0) hx hgo
  have hops : ((MemOp.ofEvents 0 g.frame.fn g.frame.place #[]).push { g := 0, fn := g.frame.fn, pos := g.frame.place, act := .go gs.size } |>.push { g := gs.size, fn := child.frame.fn, pos := g.frame.place, act := .start }) =
      #[{ g := 0, fn := g.frame.fn, pos := g.frame.place, act := .go gs.size }, { g := gs.size, fn := child.frame.fn, pos := g.frame.place, act := .start }] := rfl
  rw [hops] at hrun
  generalize hX : ({ g := 0, fn := g.frame.fn, pos := g.frame.place, act := .go gs.size } : MemOp) = X at hrun
  generalize hY : ({ g := gs.size, fn := child.frame.fn, pos := g.frame.place, act := .start } : MemOp) = Y at hrun
  have hXa : X.g = 0 ∧ X.act = .go gs.size := by rw [← hX]; exact ⟨rfl, rfl⟩
  have hYa : Y.g = gs.size ∧ Y.act = .start := by rw [← hY]; exact ⟨rfl, rfl⟩
  have hnt : ∀ op ∈ (#[X, Y] : Array MemOp), op.act.touch? = none ∧ ∀ m, op.act ≠ .mark m := by
    intro op ho
    simp only [List.mem_toArray, List.mem_cons, List.not_mem_nil, or_false] at ho
    rcases ho with rfl | rfl
    · rw [hXa.2]; exact ⟨rfl, by simp⟩
    · rw [hYa.2]; exact ⟨rfl, by simp⟩
  have hkn : ∀ i, Knows t 0 i → Knows (t ++ #[X, Y]) gs.size i := fun i hk => fork_knows hXa hYa hd0 (h.above _ (Nat.le_refl _)) hk
  have hdf : ∀ i, Deaf (t ++ #[X, Y]) i = Deaf t i := Deaf_plain fun op ho => (hnt op ho).2
  have old : ∀ {idx : Nat} {a : Touch}, touchAt (t ++ #[X, Y]) idx = some a → touchAt t idx = some a := touch_old fun op ho => (hnt op ho).1
  have get : ∀ i, i ≠ 0 → i < gs.size → ((gs.setIfInBounds 0 g').push child)[i]? = gs[i]? := fun i hi hl => by
    rw [Array.getElem?_push, if_neg (by simp; omega), Array.getElem?_setIfInBounds_ne (Ne.symm hi)]
  have get0 : ((gs.setIfInBounds 0 g').push child)[0]? = some g' := by
    rw [Array.getElem?_push, if_neg (by simp; omega), Array.getElem?_setIfInBounds_self_of_lt h0lt]
  have getk : ((gs.setIfInBounds 0 g').push child)[gs.size]? = some child := by
    rw [Array.getElem?_push, if_pos (by simp)]
  have hsz' : ((gs.setIfInBounds 0 g').push child).size = gs.size + 1 := by simp
  have hst12 : ∀ k, k < j → st' k = st k := fun k hk => by
    rcases hnew with ⟨_, _, e, _⟩ | ⟨_, _, _, e, _⟩
    · rw [e, upd_ne _ _ (by omega)]
    · rw [e]
  have hjj : j ≤ j' ∧ j' ≤ p.n ∧ ∀ k, k < j' → k ≠ j → k < j := by rcases hnew with ⟨e, _, _, e2, _⟩ | ⟨e, _⟩ <;> exact ⟨by omega, by omega, fun k hk hne => by omega⟩
  have hres1 : Res (upd (upd Ls 0 Lm) gs.size Lc) Sh (fun b => b = p.W ∨ b = p.D) (fun i => i = 0 ∨ (p.base ≤ i ∧ i < gs.size)) w (t ++ #[X, Y]) := by
    refine (h.res.mute (.refl _ _) fun op ho => (hnt op ho).1).hand (i := 0) (j := gs.size) (by omega) hm1 (fun b o wr hb => .inr (hc1 b o wr hb)) hmc hcm fun idx a b o wr ha hb hl hw => ?_
    exact hkn idx (h.res.know 0 idx a b o wr (old ha) hb hl hw)
  have hres : Res (upd (upd Ls 0 Lm) gs.size Lc) Sh (fun b => b = p.W ∨ b = p.D) (fun i => i = 0 ∨ (p.base ≤ i ∧ i < gs.size + 1)) w (t ++ #[X, Y]) :=
    ⟨hres1.sub, hres1.apart, hres1.sh, hres1.shlt, hres1.know, hres1.seen, hres1.clean, hres1.amsh, fun idx a b ha hb hA hp i hi => by
      by_cases e : i = gs.size
      · rw [e]; exact hkn idx (h.res.atomic idx a b (old ha) hb hA hp 0 (.inl rfl))
      · exact hres1.atomic idx a b ha hb hA hp i (by omega)⟩
  have hLs : ∀ i, i ≠ 0 → i ≠ gs.size → upd (upd Ls 0 Lm) gs.size Lc i = Ls i := fun i h1 h2 => by rw [upd_ne _ _ h2, upd_ne _ _ h1]
  have hFs : ∀ i, i ≠ 0 → i ≠ gs.size → upd (upd F 0 Tm) gs.size Tc i = F i := fun i h1 h2 => by rw [upd_ne _ _ h2, upd_ne _ _ h1]
  refine ⟨_, _, _, hrun, ?_, _, w, sl, j', ks', st', upd (upd F 0 Tm) gs.size Tc, cc, cv, q, .kd, 0, mt', R, upd (upd Ls 0 Lm) gs.size Lc, Sh, sv, mv, rfl, ?_, rfl⟩
  · refine Prod.Lex.left _ _ (Prod.Lex.left _ _ ?_)
    rcases hnew with ⟨e1, e2, e3, e4, _⟩ | ⟨e1, e2, e3, e4, _⟩
    · rw [e1, e2, e3]
      have : wsum p.n (j + 1) (upd st j 12) < wsum p.n j st := by
        refine sumTo_less (i := j) e4 (fun k _ => ?_) ?_
        · by_cases e : k = j
          · subst e; simp only [upd_same]; split <;> split <;> omega
          · simp only [upd_ne _ _ e]
            by_cases e5 : k < j
            · rw [if_pos (by omega), if_pos e5]; exact Nat.le_refl _
            · rw [if_neg (by omega), if_neg e5]; exact Nat.le_refl _
        · simp only [upd_same]
          rw [if_pos (by omega), if_neg (by omega)]
          omega
      simp only [krank]
      omega
    · rw [e1, e3, e4]
      simp only [krank, if_true]
      simp only [Bool.false_eq_true, if_false]
      omega
  · refine { cast := ⟨fun i y h1 h2 _ hy => ?_, fun k hk _ => ?_, fun hks _ => ?_, fun _ => ⟨g', get0, ?_⟩⟩, size := ?_, base1 := hb, jn := hjj.2.1, nn := h.nn, jm := hjm, kk := fun _ => ⟨rfl, rfl⟩, stages := fun k hk => ?_, above := fun i hi => ?_, res := by rw [hsz']; exact hres, shW := h.shW, shC := h.shC, shD := h.shD, sh0 := h.sh0, neC := h.neC, neD := h.neD, lib := fun k hk h7 => ?_, same := h.same, wg := h.wg,
             mode := hmode, ch := h.ch, cd := h.cd, mpark := (fun e => absurd e hmp), pk := (fun e => absurd e hmp), rel := fun k hk hs => ?_, said := fun idx a ha hl hs => ⟨fun _ => ((h.said idx a (old ha) hl hs).1 rfl).app _, fun e => ?_⟩, acq := fun e => (by cases e), nr := fun k hk hR hkj => ?_, rr := fun k hR => ?_, r0 := fun _ => h.r0 rfl, trc := ?_ }
    · rw [get i (by omega) (by omega)] at hy
      rw [hdf, hFs i (by omega) (by omega)]
      exact h.cast.old i y h1 h2 (by omega) hy
    · by_cases e : k = j
      · subst e
        rcases hnew with ⟨e1, e2, e3, e4, hat⟩ | ⟨e1, e2, _⟩
        · refine ⟨child, by rw [← hsz]; exact getk, ?_⟩
          rw [hdf, ← hsz, upd_same, upd_same, h.above _ (Nat.le_refl _), e3, upd_same]
          exact .own hat
        · omega
      · have hkj := hjj.2.2 k hk e
        rw [hst12 k hkj, hdf, hLs _ (by omega) (by omega), hFs _ (by omega) (by omega), get _ (by omega) (by omega)]
        exact h.cast.wk k hkj (by have := h.lt_size hkj; omega)
    · rcases hnew with ⟨e1, e2, _⟩ | ⟨e1, e2, e3, e4, hat⟩
      · rw [e2] at hks; cases hks
      · refine ⟨child, by rw [← e2, ← hsz]; exact getk, ?_⟩
        rw [hdf, ← e2, ← hsz, upd_same, upd_same, h.above _ (Nat.le_refl _)]
        exact .dis hat
    · rw [hdf, hd0, upd_ne _ _ (by omega), upd_same, upd_ne _ _ (by omega), upd_same]
      exact hmn
    · rw [hsz']
      rcases hnew with ⟨e1, e2, _⟩ | ⟨e1, e2, e3, _⟩
      · rw [e1, e2]; simp; omega
      · rw [e1, e3]; simp; omega
    · by_cases e : k = j
      · subst e
        rcases hnew with ⟨_, _, e3, _⟩ | ⟨e1, _⟩
        · rw [e3, upd_same]; omega
        · omega
      · rw [hst12 k (hjj.2.2 k hk e)]; exact h.stages k (hjj.2.2 k hk e)
    · rw [hdf]
      rw [hsz'] at hi
      exact h.above i (by omega)
    · have hne : k ≠ j := by
        intro e
        subst e
        rcases hnew with ⟨_, _, e3, _⟩ | ⟨e1, _⟩
        · rw [e3, upd_same] at h7; omega
        · omega
      have hkj := hjj.2.2 k hk hne
      rw [hst12 k hkj] at h7
      obtain ⟨a1, a2, a3, a4, a5⟩ := h.lib k hkj h7
      refine ⟨a1, a2, a3, a4, fun k' hk' hn h7' => ?_⟩
      have hne' : k' ≠ j := by
        intro e
        subst e
        rcases hnew with ⟨_, _, e3, _⟩ | ⟨e1, _⟩
        · rw [e3, upd_same] at h7'; omega
        · omega
      have hkj' := hjj.2.2 k' hk' hne'
      rw [hst12 k' hkj'] at h7'
      exact a5 k' hkj' hn h7'
    · have hne : k ≠ j := by
        intro e
        subst e
        rcases hnew with ⟨_, _, e3, _⟩ | ⟨e1, _⟩
        · rw [e3, upd_same] at hs; omega
        · omega
      have hkj := hjj.2.2 k hk hne
      rw [hst12 k hkj] at hs
      obtain ⟨r, h1, h2⟩ := h.rel k hkj hs
      exact ⟨r, h1, relBy_mute h2 fun op ho => (hnt op ho).1⟩
    · rcases hnew with ⟨e1, e2, _⟩ | ⟨e1, e2, e3, _⟩
      · rw [e2] at e; cases e
      · rw [← e2, ← hsz]
        exact hkn idx ((h.said idx a (old ha) hl hs).1 rfl)
    · by_cases e : k = j
      · subst e
        rcases hnew with ⟨_, _, e3, _⟩ | ⟨e1, _⟩
        · rw [e3, upd_same]; left; omega
        · omega
      · rw [hst12 k (hjj.2.2 k hkj e)]; exact h.nr k hk hR (hjj.2.2 k hkj e)
    · obtain ⟨h1, h2⟩ := h.rr k hR
      rw [hst12 k h1]
      exact ⟨by omega, h2⟩
    · rw [hsz']
      exact (h.trc.mute (fun op ho => (hnt op ho).1) (fun op ho => (hnt op ho).2 _)).more (by omega)
theorem vc_succ (j : Nat) (st : Nat → Nat) : Vc (j + 1) (stg (upd st j 12)) = Vc j (stg st) + 1 := by
 simp only [Vc, sumTo]
 have e1 : (sumTo j fun i => cnt (stg (upd st j 12) i)) = sumTo j fun i => cnt (stg st i) := sumTo_congr fun a ha => by simp only [stg, upd_ne _ _ (show a ≠ j by omega)]
 rw [e1]
 simp [stg, upd_same, cnt]
theorem Sit.goStep {r : Nat} (h : Sit p W0 S0 n0 gs w t j ks st F cc cv q kt kx (.go r) R Ls Sh sv mv) {g : Goroutine} (sl : Option (Nat × Nat)) (hx : gs[0]? = some g) (hd0 : Deaf t 0 = 0) (hs : MGo p (p.n - (r + 1)) (MSp p r) g (Ls 0)) :
  ∃ m' ops μ', runT p.P (crowd gs w sl) 0 = (.next m', ops) ∧ MLt (p.base + p.n + 1) μ' (meas p j ks st F kt kx (.go r)) ∧ PInv p W0 S0 n0 μ' m' (t ++ ops) := by
 obtain ⟨hj, rfl⟩ : j + (r + 1) = p.n ∧ ks = false := h.jm
 obtain ⟨rfl, rfl⟩ := h.kk rfl
 obtain ⟨_, g', child, Lm, Lc, hgo, h1, h2, h3, h4, hw, hn⟩ := hs
 have ej : p.n - (r + 1) = j := by omega
 rw [ej] at hw
 obtain ⟨Tc, hTc⟩ := hw.at
 have hm := h.mode
 have hmode : ∀ tg, isOpen tg → pend tg = 0 → (∀ vs, tg ≠ .w2 vs) → ConcN.Mode (j + 1) (stg (upd st j 12)) tg sv mv := by
  intro tg ho hp hne
  cases hm with
  | reg h1 => exact h1.elim
  | last L h1 => exact h1.elim
  | fin h1 => exact h1.elim
  | opn h1 h2 h3 =>
   have := ConcN.Mode.opn (tag := tg) (j := j + 1) (D := stg (upd st j 12)) ho (fun a ha => by
    by_cases e : a = j
    ·subst e; simp [stg, upd_same]
    ·simp only [stg, upd_ne _ _ e]; exact h2 a (by omega)) (fun vs e => absurd e (hne vs))
   rw [vc_succ, hp] at this
   simpa [pend, tagOf] using this
 cases r with
 | zero =>
  obtain ⟨Tm, hTm⟩ := Way.at (show Way p.P true p.Φ (MGoK p) g' Lm from hn)
  exact h.spawn sl hx (hgo w (h.res.sub 0)) hd0 h1 h2 h3 h4 (j' := j + 1) (ks' := false) (st' := upd st j 12) (Tm := Tm) (Tc := Tc) (mt' := .gok) (.inl ⟨rfl, rfl, rfl, by omega, hTc⟩) (.gok hTm) (hmode _ trivial rfl (by simp [tagOf])) ⟨by omega, rfl⟩ (by simp) (by simp only [mrank]; omega)
 | succ r =>
  obtain ⟨Tm, hTm⟩ := Way.at (show Way p.P true p.Φ (MKd p (p.n - (r + 1)) (MSp p r)) g' Lm from hn)
  exact h.spawn sl hx (hgo w (h.res.sub 0)) hd0 h1 h2 h3 h4 (j' := j + 1) (ks' := false) (st' := upd st j 12) (Tm := Tm) (Tc := Tc) (mt' := .kd r) (.inl ⟨rfl, rfl, rfl, by omega, hTc⟩) (.kd hTm) (hmode _ trivial rfl (by simp [tagOf])) ⟨by omega, rfl⟩ (by simp) (by simp only [mrank]; omega)
theorem Sit.gokStep (hR0 : ∀ k, ¬ R k) (h : Sit p W0 S0 n0 gs w t j ks st F cc cv q kt kx .gok R Ls Sh sv mv) {g : Goroutine} (sl : Option (Nat × Nat)) (hx : gs[0]? = some g) (hd0 : Deaf t 0 = 0) (hs : MGoK p g (Ls 0)) :
  ∃ m' ops μ', runT p.P (crowd gs w sl) 0 = (.next m', ops) ∧ MLt (p.base + p.n + 1) μ' (meas p j ks st F kt kx .gok) ∧ PInv p W0 S0 n0 μ' m' (t ++ ops) := by
 obtain ⟨hj, rfl⟩ : j = p.n ∧ ks = false := h.jm
 obtain ⟨rfl, rfl⟩ := h.kk rfl
 obtain ⟨_, g', child, Lm, Lc, hgo, h1, h2, h3, h4, hw, hn⟩ := hs
 obtain ⟨Tc, hTc⟩ := hw.at
 obtain ⟨Tm, hTm⟩ := hn.at
 obtain rfl : R = fun _ => False := funext fun k => propext ⟨fun x => hR0 k x, fun x => x.elim⟩
 exact h.spawn sl hx (hgo w (h.res.sub 0)) hd0 h1 h2 h3 h4 (j' := j) (ks' := true) (st' := st) (Tm := Tm) (Tc := Tc) (mt' := .sel) (.inr ⟨rfl, hj, rfl, rfl, hTc⟩) (.sel hTm) h.mode ⟨hj, rfl⟩ (by simp) (by simp only [mrank]; omega)
end Go.Mz


namespace Go.Mz
open Go.Conc Go.ConcN
open Go.ConcR (KK wgBlock WgAt stA smA rd wr Payload Aside2 DC0 Bk bk_of_mute)
theorem pass_knows {t : Trace} {i j c k : Nat} {a b x y : MemOp} (ha : a.g = i ∧ a.act = .send c k) (hb : ∀ m, b.act ≠ .mark m) (hx : ∀ m, x.act ≠ .mark m) (hy : y.g = j ∧ y.act = .recvDone c k) (hi : Deaf t i = 0) (hj : Deaf t j = 0) {idx : Nat} (h : Knows t i idx) :
  Knows (t ++ #[a, b, x, y]) j idx := by
 have h0 : (t ++ #[a, b, x, y])[t.size]? = some a := by rw [Array.getElem?_append_right (Nat.le_refl _)]; simp
 have h3 : (t ++ #[a, b, x, y])[t.size + 3]? = some y := by rw [Array.getElem?_append_right (by omega)]; simp
 have e3 : t ++ #[a, b, x, y] = (t ++ #[a, b, x]) ++ #[y] := by apply Array.ext'; simp
 have hh0 : (t ++ #[a, b, x, y]).heard t.size := ⟨i, by simp [Trace.g?, ha.1], by rw [deaf_old (Nat.le_refl _)]; exact hi⟩
 have hh3 : (t ++ #[a, b, x, y]).heard (t.size + 3) := by
  refine ⟨j, by rw [Trace.g?, h3]; simp [hy.1], ?_⟩
  rw [e3, deaf_old (by simp)]
  have := Deaf_plain (t := t) (u := #[a, b, x]) (fun op ho => by
   simp only [List.mem_toArray, List.mem_cons, List.not_mem_nil, or_false] at ho
   rcases ho with rfl | rfl | rfl
   ·rw [ha.2]; simp
   ·exact hb
   ·exact hx) j
  unfold Deaf at this hj
  rw [show (t ++ #[a, b, x]).size = t.size + 3 by simp] at this
  rw [this]; exact hj
 have h1 : HappensBefore (t ++ #[a, b, x, y]) idx t.size := h.hb_new (Nat.le_refl _) h0 ha.1
 exact ⟨t.size + 3, y, h3, hy.1, .inr (h1.trans (.single (.inr ⟨.handOver (c := c) (k := k) (by rw [act?_of h0, ha.2]) (by rw [act?_of h3, hy.2]), hh0, hh3⟩)))⟩
variable {p : Pool} {W0 : World} {S0 : Nat → Prop} {n0 : Nat} {gs gs' : Array Goroutine} {w : World} {t : Trace} {j : Nat} {ks : Bool} {st : Nat → Nat} {F : Nat → Tree} {cc : Nat → Nat} {cv : Nat → Value} {q : Nat → Nat} {kt : CTag} {kx : Nat} {mt : MTag} {R : Nat → Prop}
  {Ls : Nat → LH} {Sh : Nat → Prop} {sv mv : Int}
theorem heap_setChan (w : World) (c cap : Nat) (buf : Array Value) (cl : Bool) (s r : Nat) (tm : Bool) (b : Nat) : b ≠ c → (w.setChan c cap buf cl s r tm).heap[b]? = w.heap[b]? := by
 intro h
 simp only [World.setChan]
 rw [Array.getElem?_setIfInBounds_ne (Ne.symm h)]
theorem heap_setChan_same (w : World) {c cap : Nat} {buf : Array Value} {cl : Bool} {s r : Nat} {tm : Bool} (h : c < w.heap.size) : (w.setChan c cap buf cl s r tm).heap[c]? = some (.chan cap buf cl s r tm) := by
 simp only [World.setChan]
 rw [Array.getElem?_setIfInBounds_self_of_lt h]
theorem Sit.pass (h : Sit p W0 S0 n0 gs w t j ks st F cc cv q kt kx mt R Ls Sh sv mv) {k : Nat} (hk : k < j) (hst : 11 ≤ st k) (hmt : mt = .sel ∨ mt = .park) {s : Nat} (hC : w.heap[p.C]? = some (.chan 0 #[] false s s false)) (hD0 : Deaf t 0 = 0) (hDk : Deaf t (p.base + k) = 0)
    {a' y' : Goroutine} (hsz : gs'.size = gs.size) (hg0 : gs'[0]? = some a') (hgk : gs'[p.base + k]? = some y') (hgo : ∀ i, i ≠ 0 → i ≠ p.base + k → gs'[i]? = gs[i]?)
    {fn fn' : FuncId} {pos pos' : String} {Lk Gv : LH} {Tm Tw : Tree} (d : Nat)
    (hLk : ∀ b x, Lk b = some x → Ls (p.base + k) b = some x) (hGv : ∀ b x, Gv b = some x → Ls (p.base + k) b = some x) (hsp : ∀ b, Lk b = none ∨ Gv b = none)
    (hw : At p.P false p.Φ (AtDn p) Tw y' Lk) (hm : At p.P true p.Φ (p.ML fun i => R i ∨ i = k) Tm a' ((Ls 0).join Gv)) (sl : Option (Nat × Nat)) {cap : Nat} :
    ∃ μ', MLt (p.base + p.n + 1) μ' (meas p j ks st F kt kx mt) ∧ PInv p W0 S0 n0 μ' (crowd gs' ((w.at d).setChan p.C 0 #[] false (s + 1) (s + 1) false) sl)
      (t ++ #[{ g := p.base + k, fn, pos, act := .send p.C s }, { g := 0, fn := fn', pos := pos', act := .recv p.C s cap }, { g := p.base + k, fn, pos, act := .sendDone p.C s }, { g := 0, fn := fn', pos := pos', act := .recvDone p.C s }]) := by
  have hb := h.base1
  have hjn := h.jn
  have hks : ks = true ∧ j = p.n := by
    have := h.jm
    rcases hmt with e | e <;> rw [e] at this <;> exact ⟨this.2, this.1⟩
  obtain ⟨rfl, hjn'⟩ := hks
  have htag : tagOf kt mt = kt := by rcases hmt with e | e <;> rw [e] <;> rfl
  have hclo : closedAt kt kx = false := h.open_of (.inl ⟨k, hk, by omega⟩)
  generalize hU : (#[{ g := p.base + k, fn, pos, act := .send p.C s }, { g := 0, fn := fn', pos := pos', act := .recv p.C s cap }, { g := p.base + k, fn, pos, act := .sendDone p.C s }, { g := 0, fn := fn', pos := pos', act := .recvDone p.C s }] : Array MemOp) = U
  have hnt : ∀ op ∈ U, op.act.touch? = none ∧ ∀ m, op.act ≠ .mark m := by
    intro op ho
    rw [← hU] at ho
    simp only [List.mem_toArray, List.mem_cons, List.not_mem_nil, or_false] at ho
    rcases ho with rfl | rfl | rfl | rfl <;> exact ⟨rfl, by simp⟩
  have hkn : ∀ i, Knows t (p.base + k) i → Knows (t ++ U) 0 i := fun i hi => by
    rw [← hU]
    exact pass_knows ⟨rfl, rfl⟩ (by simp) (by simp) ⟨rfl, rfl⟩ hDk hD0 hi
  have hdf : ∀ i, Deaf (t ++ U) i = Deaf t i := Deaf_plain fun op ho => (hnt op ho).2
  have old : ∀ {idx : Nat} {a : Touch}, touchAt (t ++ U) idx = some a → touchAt t idx = some a := touch_old fun op ho => (hnt op ho).1
  have hClt : p.C < (w.at d).heap.size := (Array.getElem?_eq_some_iff.1 (show (w.at d).heap[p.C]? = _ from hC)).1
  have hheap : ∀ b, b ≠ p.C → ((w.at d).setChan p.C 0 #[] false (s + 1) (s + 1) false).heap[b]? = w.heap[b]? := fun b hb => heap_setChan (w.at d) p.C 0 #[] false (s + 1) (s + 1) false b hb
  have hheapC : ((w.at d).setChan p.C 0 #[] false (s + 1) (s + 1) false).heap[p.C]? = some (.chan 0 #[] false (s + 1) (s + 1) false) := heap_setChan_same (w.at d) hClt
  have hhsz : ((w.at d).setChan p.C 0 #[] false (s + 1) (s + 1) false).heap.size = w.heap.size := by simp [World.setChan, World.at]
  generalize hW' : (w.at d).setChan p.C 0 #[] false (s + 1) (s + 1) false = w' at hheap hheapC hhsz
  have hsame : Same W0 w' := by rw [← hW']; exact ⟨h.same.tape, h.same.os, h.same.out⟩
  have hst' : ∀ k', k' ≠ k → upd st k 10 k' = st k' := fun k' e => upd_ne _ _ e
  have hres : Res (upd (upd Ls (p.base + k) Lk) 0 ((Ls 0).join Gv)) Sh (fun b => b = p.W ∨ b = p.D) (fun i => i = 0 ∨ (p.base ≤ i ∧ i < gs.size)) w' (t ++ U) := by
    refine (h.res.mute ⟨hhsz, fun b hb => hheap b fun e => hb (e ▸ h.shC)⟩ fun op ho => (hnt op ho).1).hand (i := p.base + k) (j := 0) (by omega) (fun b o wr hb => ⟨wr, hLk b _ hb, id⟩) (fun b o wr hb => ?_) (fun b o hb => ?_) (fun b o hb => ?_) fun idx a b o wr ha hb hl hw => ?_
    · unfold LH.join at hb
      cases hx : Ls 0 b with
      | some x => rw [hx] at hb; exact .inl hb
      | none => rw [hx] at hb; exact .inr ⟨wr, hGv b _ hb, id⟩
    · have h1 := h.res.apart (p.base + k) 0 b o (by omega) (hLk b _ hb)
      unfold LH.join
      rw [h1]
      rcases hsp b with e | e
      · rw [e] at hb; cases hb
      · exact e
    · unfold LH.join at hb
      cases hx : Ls 0 b with
      | some x =>
        rw [hx] at hb
        simp only [Option.some.injEq] at hb
        subst hb
        have h1 := h.res.apart 0 (p.base + k) b o (by omega) hx
        cases hy : Lk b with
        | none => rfl
        | some y => rw [hLk b _ hy] at h1; cases h1
      | none =>
        rw [hx] at hb
        rcases hsp b with e | e
        · exact e
        · simp only at hb; rw [e] at hb; cases hb
    · exact hkn idx (h.res.know (p.base + k) idx a b o wr (old ha) hb hl hw)
  have hLs : ∀ i, i ≠ 0 → i ≠ p.base + k → upd (upd Ls (p.base + k) Lk) 0 ((Ls 0).join Gv) i = Ls i := fun i h1 h2 => by rw [upd_ne _ _ h1, upd_ne _ _ h2]
  have hFs : ∀ i, i ≠ 0 → i ≠ p.base + k → upd (upd F (p.base + k) Tw) 0 Tm i = F i := fun i h1 h2 => by rw [upd_ne _ _ h1, upd_ne _ _ h2]
  have hstg : stg (upd st k 10) = stg st := stg_same st k 10 (by omega)
  refine ⟨_, ?_, gs', w', sl, j, true, upd st k 10, upd (upd F (p.base + k) Tw) 0 Tm, cc, cv, q, kt, kx, .sel, fun i => R i ∨ i = k, upd (upd Ls (p.base + k) Lk) 0 ((Ls 0).join Gv), Sh, sv, mv, rfl, ?_, rfl⟩
  · refine Prod.Lex.left _ _ (Prod.Lex.left _ _ ?_)
    rw [hstg]
    have := wsum_upd (n := p.n) (s := 10) hk hjn (show 10 < st k by omega)
    have hmr : 1 ≤ mrank mt := by rcases hmt with e | e <;> rw [e] <;> simp [mrank]
    simp only [mrank]
    omega
  · refine { cast := ⟨fun i y h1 h2 _ hy => ?_, fun k' hk' _ => ?_, fun hks _ => ?_, fun _ => ⟨a', hg0, ?_⟩⟩, size := by rw [hsz]; exact h.size, base1 := hb, jn := hjn, nn := h.nn, jm := ⟨hjn', rfl⟩, kk := fun e => (by cases e), stages := fun k' hk' => ?_, above := fun i hi => ?_, res := by rw [hsz]; exact hres, shW := h.shW, shC := h.shC, shD := h.shD, sh0 := h.sh0, neC := h.neC, neD := h.neD, lib := fun k' hk' h7 => ?_, same := hsame, wg := h.wg.of_block (hheap _ h.neC),
             mode := by rw [hstg]; have := h.mode; rw [htag] at this; exact this, ch := ⟨s + 1, by rw [hheapC, hclo, Bool.and_false]⟩, cd := ?_, mpark := (fun e => by cases e), pk := (fun e => by cases e), rel := fun k' hk' hs => ?_, said := fun idx a ha hl hs => ⟨fun e => (by cases e), fun _ => ((h.said idx a (old ha) hl hs).2 rfl).app _⟩, acq := fun e => ?_, nr := fun k' hk' hR hkj => ?_, rr := fun k' hR => ?_, r0 := (fun e => nomatch e), trc := ?_ }
    · rw [hgo i (by omega) (by omega)] at hy
      rw [hdf, hFs i (by omega) (by omega)]
      exact h.cast.old i y h1 h2 (by have := h.size; omega) hy
    · by_cases e : k' = k
      · subst e
        refine ⟨y', hgk, ?_⟩
        rw [hdf, hDk, upd_same, upd_ne _ _ (by omega), upd_same, upd_ne _ _ (by omega), upd_same]
        exact .post hw
      · obtain ⟨y, hy, hs⟩ := h.cast.wk k' hk' (by have := h.lt_size hk'; omega)
        refine ⟨y, by rw [hgo _ (by omega) (by omega)]; exact hy, ?_⟩
        rw [hst' k' e, hdf, hLs _ (by omega) (by omega), hFs _ (by omega) (by omega)]
        exact hs.rely (fun h7 => hheap _ (h.lib k' hk' h7).2.2.1) (fun ⟨a, b, x⟩ => ⟨a, b, x.of_block (hheap _ h.neC)⟩) (h.stages k' hk')
    · obtain ⟨y, hy, hs⟩ := h.cast.cl rfl (by rw [h.size, hjn']; simp)
      refine ⟨y, by rw [hgo _ (by omega) (by omega)]; exact hy, ?_⟩
      rw [hdf, hLs _ (by omega) (by omega), hFs _ (by omega) (by omega)]
      exact hs
    · rw [hdf, hD0, upd_same, upd_same]
      exact .sel hm
    · by_cases e : k' = k
      · subst e; rw [upd_same]; omega
      · rw [hst' k' e]; exact h.stages k' hk'
    · rw [hdf]; exact h.above i (by rw [← hsz]; exact hi)
    · have hne : k' ≠ k := by intro e; subst e; rw [upd_same] at h7; omega
      rw [hst' k' hne] at h7
      obtain ⟨a1, a2, a3, a4, a5⟩ := h.lib k' hk' h7
      refine ⟨a1, a2, a3, a4, fun k'' hk'' hn h7' => ?_⟩
      have hne' : k'' ≠ k := by intro e; subst e; rw [upd_same] at h7'; omega
      rw [hst' k'' hne'] at h7'
      exact a5 k'' hk'' hn h7'
    · by_cases e : p.C = p.D
      · rw [← e]
        exact ⟨s + 1, by rw [hheapC, hclo]⟩
      · obtain ⟨s', hd⟩ := h.cd
        exact ⟨s', by rw [hheap _ (Ne.symm e)]; exact hd⟩
    · have hne : k' ≠ k := by intro e; subst e; rw [upd_same] at hs; omega
      rw [hst' k' hne] at hs
      obtain ⟨r, h1, h2⟩ := h.rel k' hk' hs
      exact ⟨r, h1, relBy_mute h2 fun op ho => (hnt op ho).1⟩
    · have := h.ret_all e hk
      omega
    · have hne : k' ≠ k := fun e => hR (.inr e)
      rw [hst' k' hne]
      exact h.nr k' hk' (fun x => hR (.inl x)) hkj
    · rcases hR with hR | rfl
      · obtain ⟨h1, h2⟩ := h.rr k' hR
        refine ⟨h1, ?_⟩
        by_cases e : k' = k
        · subst e; rw [upd_same]; omega
        · rw [hst' k' e]; exact h2
      · exact ⟨hk, by rw [upd_same]; omega⟩
    · rw [hsz]
      exact h.trc.mute (fun op ho => (hnt op ho).1) fun op ho => (hnt op ho).2 _
end Go.Mz


namespace Go.Mz
open Go.Conc Go.ConcN
open Go.ConcR (KK wgBlock WgAt stA smA rd wr Payload Aside2 DC0 Bk bk_of_mute)
variable {p : Pool} {W0 : World} {S0 : Nat → Prop} {n0 : Nat} {gs gs' : Array Goroutine} {w : World} {t : Trace} {j : Nat} {ks : Bool} {st : Nat → Nat} {F : Nat → Tree} {cc : Nat → Nat} {cv : Nat → Value} {q : Nat → Nat} {kt : CTag} {kx : Nat} {mt : MTag} {R : Nat → Prop}
  {Ls : Nat → LH} {Sh : Nat → Prop} {sv mv : Int}
theorem WSt.parkedAt {k s : Nat} {T : Tree} {cc : Nat} {v : Value} {d : Nat} {g : Goroutine} {L : LH} {w : World} (h : WSt p k s T cc v d g L w) (hs : s = 11) :
  ∃ g₀ v' z Lk Gv, g = parked g₀ #[scase p.C v' z] .send ∧ T = .leaf ∧ d = 0 ∧ (∀ b x, Lk b = some x → L b = some x) ∧ (∀ b x, Gv b = some x → L b = some x) ∧ (∀ b, Lk b = none ∨ Gv b = none) ∧ p.out k v' Gv ∧ Way p.P false p.Φ (AtDn p) (Go.Conc.served g₀ undef) Lk := by
 cases h with
 | own => omega
 | post => omega
 | park h1 h2 h3 h4 h5 => exact ⟨_, _, _, _, _, rfl, rfl, rfl, h1, h2, h3, h4, h5⟩
 | lib h => have := LSit.le7 h; omega
theorem Sit.who (hT : Takes p) (h : Sit p W0 S0 n0 gs w t j ks st F cc cv q kt kx mt R Ls Sh sv mv) {i : Nat} {g : Goroutine} (hi : gs[i]? = some g) :
  (g.status ≠ .blocked ∨ g.offers = none) ∨ (∃ k, k < j ∧ i = p.base + k ∧ st k = 11 ∧ ∃ g₀ v z, g = parked g₀ #[scase p.C v z] .send) ∨
  (i = 0 ∧ mt = .park ∧ ∃ g₀ g₂ cs shape kf kd zf zd, g = parked g₂ cs shape ∧ SelAt p R g₀ (Ls 0) g₂ cs shape kf kd zf zd) := by
 have hlt : i < gs.size := (Array.getElem?_eq_some_iff.1 hi).1
 have hsz := h.size
 have hb := h.base1
 rcases Nat.eq_zero_or_pos i with rfl | hp
 ·obtain ⟨a, ha, hs⟩ := h.cast.mn (by omega)
  rw [hi] at ha
  cases ha
  rcases hs.status (fun R g L x => (hT R g L x).1) with ⟨_, e⟩ | ⟨e, _, _, g₀, g₂, cs, shape, kf, kd, zf, zd, rfl, hsel⟩
  ·exact .inl (.inl (by rw [e]; simp))
  ·exact .inr (.inr ⟨rfl, e, g₀, g₂, cs, shape, kf, kd, zf, zd, rfl, hsel⟩)
 by_cases h1 : i < p.base
 ·obtain ⟨hq, _⟩ := h.cast.old i g hp h1 (by omega) hi
  exact .inl (.inl (by rcases hq.status with e | e <;> rw [e] <;> simp))
 by_cases h2 : i < p.base + j
 ·obtain ⟨y, hy, hs⟩ := h.cast.wk (i - p.base) (by omega) (by omega)
  rw [show p.base + (i - p.base) = i by omega] at hy hs
  rw [hi] at hy
  cases hy
  rcases hs.status with e | e | ⟨e, g₀, v, z, rfl⟩
  ·exact .inl (.inl (by rw [e]; simp))
  ·exact .inl (.inl (by rw [e]; simp))
  ·exact .inr (.inl ⟨i - p.base, by omega, by omega, e, g₀, v, z, rfl⟩)
 ·have hks : ks = true := by
   cases ks with
   | true => rfl
   | false => simp at hsz; omega
  subst hks
  have hjn := jm_n h.jm rfl
  simp only [Bool.toNat_true] at hsz
  obtain ⟨y, hy, hs⟩ := h.cast.cl rfl (by omega)
  rw [show p.base + p.n = i by omega] at hy hs
  rw [hi] at hy
  cases hy
  rcases hs.status with ⟨_, e | e⟩ | ⟨_, _, _, _, g₀, rfl, hk⟩
  ·exact .inl (.inl (by rw [e]; simp))
  ·exact .inl (.inl (by rw [e]; simp))
  ·exact .inl (.inr hk.2.1)
theorem offersAt_none {g : Goroutine} (h : g.status ≠ .blocked ∨ g.offers = none) (r : Nat) (b : Bool) : offersAt g r b = [] := by
 rcases h with h | h
 ·exact offersAt_of_not_blocked h r b
 ·unfold offersAt; rw [h]; cases g.status <;> rfl
theorem SelAt.recvs {R : Nat → Prop} {g g₂ : Goroutine} {L : LH} {cs : Array CommCase} {shape : CommShape} {kf kd : Nat} {zf zd : Value} (h : SelAt p R g L g₂ cs shape kf kd zf zd) : ∀ c ∈ cs, c.send = none := by
 intro c hc
 obtain ⟨m, hm⟩ := Array.mem_iff_getElem?.1 hc
 rcases h.no m c hm with rfl | rfl
 ·rw [h.f] at hm; cases hm; rfl
 ·rw [h.d] at hm; cases hm; rfl
theorem SelAt.only {R : Nat → Prop} {g g₂ : Goroutine} {L : LH} {cs : Array CommCase} {shape : CommShape} {kf kd : Nat} {zf zd : Value} (h : SelAt p R g L g₂ cs shape kf kd zf zd) : ∀ (m : Nat) (c : CommCase), m ≠ kf → cs[m]? = some c → p.C ≠ p.D ∧ m = kd ∧ c = rcase p.D zd := by
 intro m c hm hc
 rcases h.no m c hc with e | e
 ·exact absurd e hm
 ·subst e
  rw [h.d] at hc
  cases hc
  exact ⟨fun e => hm (h.one.1 e).symm, rfl, rfl⟩
theorem Sit.sendersD (hT : Takes p) (h : Sit p W0 S0 n0 gs w t j ks st F cc cv q kt kx mt R Ls Sh sv mv) (hne : p.C ≠ p.D) (i : Nat) : partners (gs.setIfInBounds i ph) p.D true = [] := by
 refine partners_nil fun m g hm => ?_
 rcases getElem?_stand gs i m g hm with ⟨_, rfl⟩ | ⟨_, hm⟩
 ·exact offersAt_ph _ _
 ·rcases h.who hT hm with h1 | ⟨k, _, _, _, g₀, v, z, rfl⟩ | ⟨_, _, g₀, g₂, cs, shape, kf, kd, zf, zd, rfl, hs⟩
  ·exact offersAt_none h1 _ _
  ·rw [offersAt_parked_send, if_neg hne]
  ·exact offersAt_parked_sends hs.recvs _
theorem Sit.sendersC (hT : Takes p) (h : Sit p W0 S0 n0 gs w t j ks st F cc cv q kt kx mt R Ls Sh sv mv) {m k' : Nat} (hm : (m, k') ∈ partners (gs.setIfInBounds 0 ph) p.C true) : k' = 0 ∧ m ≠ 0 ∧ ∃ gj vj zj shj, gs[m]? = some (parked gj #[scase p.C vj zj] shj) := by
 obtain ⟨g, hg, hk⟩ := mem_partners.1 hm
 rcases getElem?_stand gs 0 m g hg with ⟨_, rfl⟩ | ⟨hne, hg⟩
 ·rw [offersAt_ph] at hk; cases hk
 ·rcases h.who hT hg with h1 | ⟨k, _, e, _, g₀, v, z, rfl⟩ | ⟨e, _⟩
  ·rw [offersAt_none h1] at hk; cases hk
  ·rw [offersAt_parked_send, if_pos rfl] at hk
   simp at hk
   exact ⟨hk, hne, _, _, _, _, hg⟩
  ·exact absurd e hne
theorem Sit.noSenders (hT : Takes p) (h : Sit p W0 S0 n0 gs w t j ks st F cc cv q kt kx mt R Ls Sh sv mv) (hn : ∀ k, k < j → st k ≠ 11) (c i : Nat) : partners (gs.setIfInBounds i ph) c true = [] := by
 refine partners_nil fun m g hm => ?_
 rcases getElem?_stand gs i m g hm with ⟨_, rfl⟩ | ⟨_, hm⟩
 ·exact offersAt_ph _ _
 ·rcases h.who hT hm with h1 | ⟨k, hk, _, e, _⟩ | ⟨_, _, g₀, g₂, cs, shape, kf, kd, zf, zd, rfl, hs⟩
  ·exact offersAt_none h1 _ _
  ·exact absurd e (hn k hk)
  ·exact offersAt_parked_sends hs.recvs _
theorem Sit.cast_keep (h : Sit p W0 S0 n0 gs w t j ks st F cc cv q kt kx mt R Ls Sh sv mv) {x : Nat} (hx : x < gs.size) {y : Goroutine} : Cast p (gs.setIfInBounds x y) w t j ks st F cc cv q kt kx mt R Ls x := by
 have hjn := jm_n h.jm
 have hc := Cast.less (x := x) h.cast h.size h.base1 hjn
 have get : ∀ i, i ≠ x → (gs.setIfInBounds x y)[i]? = gs[i]? := fun i hi => Array.getElem?_setIfInBounds_ne (Ne.symm hi)
 exact ⟨fun i g h0 h1 h2 hg => hc.old i g h0 h1 h2 (by rw [← get i h2]; exact hg), fun k hk hne => by rw [get _ hne]; exact hc.wk k hk hne, fun hks hne => by rw [get _ hne]; exact hc.cl hks hne, fun hne => by rw [get _ hne]; exact hc.mn hne⟩
theorem Sit.sendStep (hT : Takes p) (h : Sit p W0 S0 n0 gs w t j ks st F cc cv q kt kx mt R Ls Sh sv mv) {k : Nat} (hk : k < j) {g : Goroutine} (sl : Option (Nat × Nat)) (hx : gs[p.base + k]? = some g) (hst : st k = 12) (hF : F (p.base + k) = .leaf) (hd : Deaf t (p.base + k) = 0)
  (hs : AtSend p k g (Ls (p.base + k))) :
  ∃ m' ops μ', runT p.P (crowd gs w sl) (p.base + k) = (.next m', ops) ∧ MLt (p.base + p.n + 1) μ' (meas p j ks st F kt kx mt) ∧ PInv p W0 S0 n0 μ' m' (t ++ ops) := by
 obtain ⟨_, v, z, g₂, Lk, Gv, hcomm, hLk, hGv, hsp, hout, hway⟩ := hs
 have hb := h.base1
 have hjn := h.jn
 have hx0 : (p.base + k == 0) = false := by simp; omega
 have hgo : stepG p.P (p.base + k == 0) g w = .comm g₂ #[scase p.C v z] true .send w #[] := by rw [hx0]; exact hcomm w (h.res.sub _)
 have hclo : closedAt kt kx = false := h.open_of (.inl ⟨k, hk, by omega⟩)
 obtain ⟨s, hC⟩ := h.ch
 rw [hclo, Bool.and_false] at hC
 have hxlt := h.lt_size hk
 have hRk : ¬ R k := fun e => by have := (h.rr k e).2; omega
 by_cases hp : mt = .park
 ·-- it meets the first one
  obtain ⟨a, ha, hm⟩ := h.cast.mn (by omega)
  rcases hm.status (fun R g L x => (hT R g L x).1) with ⟨e, _⟩ | ⟨_, hT0, hd0, g₀, ga, cs, shape, kf, kd, zf, zd, rfl, hsel⟩
  ·exact absurd hp e
  have hpart : partners (gs.setIfInBounds (p.base + k) ph) p.C false = [(0, kf)] := by
   have h0 : (gs.setIfInBounds (p.base + k) ph)[0]? = some (parked ga cs shape) := by rw [Array.getElem?_setIfInBounds_ne (by omega)]; exact ha
   rw [partners_one h0 fun m y hm hy => ?_]
   ·rw [offersAt_parked_at hsel.f fun m c hm hc => ?_]
    ·rfl
    ·obtain ⟨h1, _, h3⟩ := hsel.only m c hm hc
     rw [h3]
     simp [rcase]
     exact fun e => h1 e.symm
   ·rcases getElem?_stand gs (p.base + k) m y hy with ⟨_, rfl⟩ | ⟨_, hy⟩
    ·exact offersAt_ph _ _
    ·rcases h.who hT hy with h1 | ⟨_, _, _, _, g₀, v, z, rfl⟩ | ⟨e, _⟩
     ·exact offersAt_none h1 _ _
     ·exact offersAt_parked_send' _ _ _ _ _ _
     ·exact absurd e hm
  have hrun := crowd_send_meets_sel (P := p.P) (sl := sl) (j := 0) (k := kf) hx hgo hC (by omega) ha hsel.f hpart
  have hcap : ∀ b o, Gv b = some (o, true) → Ls 0 b = none := fun b o hb => h.res.apart (p.base + k) 0 b o (by omega) (hGv b _ hb)
  obtain ⟨Tw, hTw⟩ := hway.at
  obtain ⟨Tm, hTm⟩ := (hsel.take k v Gv (by omega) hRk hout hcap).at
  have h0s : 0 < gs.size := by omega
  obtain ⟨μ', h1, h2⟩ := h.pass (gs' := (gs.setIfInBounds 0 (ga.finishComm p.P cs shape kf v true)).setIfInBounds (p.base + k) (g₂.finishComm p.P #[scase p.C v z] .send 0 undef false)) hk (by omega) (.inr hp) hC hd0 hd (a' := ga.finishComm p.P cs shape kf v true) (y' := g₂.finishComm p.P #[scase p.C v z] .send 0 undef false) (by simp)
   (by rw [Array.getElem?_setIfInBounds_ne (by omega), Array.getElem?_setIfInBounds_self_of_lt h0s]) (by rw [Array.getElem?_setIfInBounds_self_of_lt (by simpa using hxlt)]) (fun i h1 h2 => by rw [Array.getElem?_setIfInBounds_ne (Ne.symm h2), Array.getElem?_setIfInBounds_ne (Ne.symm h1)])
   (fn := g₂.frame.fn) (fn' := ga.frame.fn) (pos := g₂.frame.place) (pos' := ga.frame.place) w.drawn hLk hGv hsp hTw hTm sl (cap := 0)
  refine ⟨_, _, μ', hrun, h1, ?_⟩
  have e : t ++ (MemOp.ofEvents (p.base + k) g.frame.fn g.frame.place #[] ++ #[{ g := p.base + k, fn := g₂.frame.fn, pos := g₂.frame.place, act := .send p.C s }, { g := 0, fn := ga.frame.fn, pos := ga.frame.place, act := .recv p.C s 0 }, { g := p.base + k, fn := g₂.frame.fn, pos := g₂.frame.place, act := .sendDone p.C s }, { g := 0, fn := ga.frame.fn, pos := ga.frame.place, act := .recvDone p.C s }]) =
    t ++ #[{ g := p.base + k, fn := g₂.frame.fn, pos := g₂.frame.place, act := .send p.C s }, { g := 0, fn := ga.frame.fn, pos := ga.frame.place, act := .recv p.C s 0 }, { g := p.base + k, fn := g₂.frame.fn, pos := g₂.frame.place, act := .sendDone p.C s }, { g := 0, fn := ga.frame.fn, pos := ga.frame.place, act := .recvDone p.C s }] := by
   rw [show MemOp.ofEvents (p.base + k) g.frame.fn g.frame.place #[] = #[] from rfl, Array.empty_append]
  rw [e]
  exact h2
 ·-- it waits
  have hpart : partners (gs.setIfInBounds (p.base + k) ph) p.C false = [] := by
   refine partners_nil fun m y hy => ?_
   rcases getElem?_stand gs (p.base + k) m y hy with ⟨_, rfl⟩ | ⟨_, hy⟩
   ·exact offersAt_ph _ _
   ·rcases h.who hT hy with h1 | ⟨_, _, _, _, g₀, v, z, rfl⟩ | ⟨_, e, _⟩
    ·exact offersAt_none h1 _ _
    ·exact offersAt_parked_send' _ _ _ _ _ _
    ·exact absurd e hp
  have hrun := crowd_waits (P := p.P) (sl := sl) hx hgo (fun c hc => by simp at hc; subst hc; exact ways_send_none hC (Nat.le_refl _) hpart)
  refine ⟨_, _, meas p j ks (upd st k 11) F kt kx mt, hrun, ?_, ?_⟩
  ·refine Prod.Lex.left _ _ (Prod.Lex.left _ _ ?_)
   rw [stg_same st k 11 (by omega)]
   have := wsum_upd (n := p.n) (s := 11) hk hjn (show 11 < st k by omega)
   omega
  ·have et : t ++ MemOp.ofEvents (p.base + k) g.frame.fn g.frame.place #[] = t := by rw [show MemOp.ofEvents (p.base + k) g.frame.fn g.frame.place #[] = #[] from rfl, Array.append_empty]
   rw [et]
   have hne : ∀ k', k' ≠ k → upd st k 11 k' = st k' := fun k' e => upd_ne _ _ e
   have hck := h.cast_keep hxlt (y := parked g₂ #[scase p.C v z] .send)
   have lt11 : ∀ k', upd st k 11 k' ≤ 7 → k' ≠ k := fun k' h7 e => by subst e; rw [upd_same] at h7; omega
   refine ⟨_, w, sl, j, ks, upd st k 11, F, cc, cv, q, kt, kx, mt, R, Ls, Sh, sv, mv, rfl, ?_, rfl⟩
   refine { h with cast := ⟨fun i y h1 h2 _ hy => hck.old i y h1 h2 (by omega) hy, fun k' hk' _ => ?_, fun hks _ => hck.cl hks (by omega), fun _ => hck.mn (by omega)⟩, size := (by simp [h.size]), stages := fun k' hk' => ?_, above := fun i hi => h.above i (by simpa using hi), res := (by simpa using h.res), lib := fun k' hk' h7 => ?_, mode := (by rw [stg_same st k 11 (by omega)]; exact h.mode), pk := fun e => absurd e hp, rel := fun k' hk' h6 => ?_, nr := fun k' hk' hR hkj => ?_, rr := fun k' hR => ?_, trc := (by simpa using h.trc) }
   ·by_cases e : k' = k
    ·subst e
     refine ⟨_, by rw [Array.getElem?_setIfInBounds_self_of_lt hxlt], ?_⟩
     rw [upd_same, hF, hd]
     exact .park hLk hGv hsp hout hway
    ·obtain ⟨y, hy, hs⟩ := hck.wk k' hk' (by omega)
     exact ⟨y, hy, by rw [hne k' e]; exact hs⟩
   ·by_cases e : k' = k
    ·subst e; rw [upd_same]; omega
    ·rw [hne k' e]; exact h.stages k' hk'
   ·have e := lt11 k' h7
    rw [hne k' e] at h7
    obtain ⟨a1, a2, a3, a4, a5⟩ := h.lib k' hk' h7
    refine ⟨a1, a2, a3, a4, fun k'' hk'' hn h7' => ?_⟩
    have e' := lt11 k'' h7'
    rw [hne k'' e'] at h7'
    exact a5 k'' hk'' hn h7'
   ·have e := lt11 k' (by omega)
    rw [hne k' e] at h6
    exact h.rel k' hk' h6
   ·by_cases e : k' = k
    ·subst e; rw [upd_same]; omega
    ·rw [hne k' e]; exact h.nr k' hk' hR hkj
   ·by_cases e : k' = k
    ·subst e; exact absurd hR hRk
    ·rw [hne k' e]; exact h.rr k' hR
end Go.Mz


namespace Go.Mz
open Go.Conc Go.ConcN
open Go.ConcR (KK wgBlock WgAt stA smA rd wr Payload Aside2 DC0 Bk bk_of_mute)
variable {p : Pool} {W0 : World} {S0 : Nat → Prop} {n0 : Nat} {gs gs' : Array Goroutine} {w : World} {t : Trace} {j : Nat} {ks : Bool} {st : Nat → Nat} {F : Nat → Tree} {cc : Nat → Nat} {cv : Nat → Value} {q : Nat → Nat} {kt : CTag} {kx : Nat} {mt : MTag} {R : Nat → Prop}
  {Ls : Nat → LH} {Sh : Nat → Prop} {sv mv : Int}
theorem parked_inj {g g' : Goroutine} {c : Nat} {v v' z z' : Value} {sh sh' : CommShape} (h : parked g #[scase c v z] sh = parked g' #[scase c v' z'] sh') : v = v' ∧ sh = sh' ∧ ∀ u, Go.Conc.served g u = Go.Conc.served g' u := by
 cases g; cases g'
 simp [parked, scase] at h
 obtain ⟨h1, h2, h3⟩ := h
 simp_all [Go.Conc.served]
def AtSel (p : Pool) (R : Nat → Prop) (g : Goroutine) (L : LH) : Prop :=
 p.ML R g L ∨ ∃ g₀ g₂ cs shape kf kd zf zd, g = { parked g₂ cs shape with status := .running } ∧ SelAt p R g₀ L g₂ cs shape kf kd zf zd
theorem AtSel.get (hT : Takes p) {g : Goroutine} {L : LH} (h : AtSel p R g L) : ∃ g₀ g₂ cs shape kf kd zf zd, SelAt p R g₀ L g₂ cs shape kf kd zf zd ∧ ∀ w, Sub L w → stepG p.P true g w = .comm g₂ cs true shape w #[] := by
 rcases h with h | ⟨g₀, g₂, cs, shape, kf, kd, zf, zd, rfl, hs⟩
 ·obtain ⟨_, g₂, cs, shape, kf, kd, zf, zd, hs⟩ := hT R g L h
  exact ⟨g, g₂, cs, shape, kf, kd, zf, zd, hs, hs.comm⟩
 ·exact ⟨g₀, g₂, cs, shape, kf, kd, zf, zd, hs, fun w hw => (stepG_tries true cs w).trans (hs.again w hw)⟩
theorem Sit.recvStep (hT : Takes p) (h : Sit p W0 S0 n0 gs w t j ks st F cc cv q kt kx .sel R Ls Sh sv mv) {g : Goroutine} (sl : Option (Nat × Nat)) (hx : gs[0]? = some g) (hF : F 0 = .leaf) (hd0 : Deaf t 0 = 0) (hs : AtSel p R g (Ls 0)) (hclo : closedAt kt kx = false) :
  ∃ m' ops μ', runT p.P (crowd gs w sl) 0 = (.next m', ops) ∧ MLt (p.base + p.n + 1) μ' (meas p j ks st F kt kx .sel) ∧ PInv p W0 S0 n0 μ' m' (t ++ ops) := by
 obtain ⟨g₀, g₂, cs, shape, kf, kd, zf, zd, hsel, hcomm⟩ := hs.get hT
 have hb := h.base1
 have hjn := h.jn
 have h0lt : 0 < gs.size := (Array.getElem?_eq_some_iff.1 hx).1
 have hgo : stepG p.P (0 == 0) g w = .comm g₂ cs true shape w #[] := hcomm w (h.res.sub 0)
 obtain ⟨s, hC⟩ := h.ch
 rw [hclo, Bool.and_false] at hC
 obtain ⟨s₂, hD⟩ := h.cd
 rw [hclo] at hD
 have hother : ∀ (m : Nat) (c' : CommCase), m ≠ kf → cs[m]? = some c' → NoWays w (gs.setIfInBounds 0 ph) c' := by
  intro m c' hm hc
  obtain ⟨h1, _, h3⟩ := hsel.only m c' hm hc
  rw [h3]
  exact ways_recv_none hD (h.sendersD hT h1 0)
 have eops : ∀ u : Array MemOp, t ++ (MemOp.ofEvents 0 g.frame.fn g.frame.place #[] ++ u) = t ++ u := fun u => by rw [show MemOp.ofEvents 0 g.frame.fn g.frame.place #[] = #[] from rfl, Array.empty_append]
 by_cases hp : partners (gs.setIfInBounds 0 ph) p.C true = []
 ·-- nobody is there: it waits
  have hno : ∀ k, k < j → st k ≠ 11 := by
   intro k hk e
   obtain ⟨y, hy, hw⟩ := h.cast.wk k hk (by have := h.lt_size hk; omega)
   obtain ⟨g₁, v', z, _, _, rfl, _⟩ := hw.parkedAt e
   have : (p.base + k, 0) ∈ partners (gs.setIfInBounds 0 ph) p.C true := mem_partners.2 ⟨_, by rw [Array.getElem?_setIfInBounds_ne (by omega)]; exact hy, by rw [offersAt_parked_send, if_pos rfl]; simp⟩
   rw [hp] at this
   cases this
  have hrun := crowd_waits (P := p.P) (sl := sl) hx hgo (fun c hc => by
   obtain ⟨m, hm⟩ := Array.mem_iff_getElem?.1 hc
   by_cases e : m = kf
   ·subst e
    rw [hsel.f] at hm
    cases hm
    exact ways_recv_none hC hp
   ·exact hother m c e hm)
  refine ⟨_, _, meas p j ks st F kt kx .park, hrun, ?_, ?_⟩
  ·refine Prod.Lex.left _ _ (Prod.Lex.left _ _ ?_)
   simp only [mrank]
   omega
  ·have et : t ++ MemOp.ofEvents 0 g.frame.fn g.frame.place #[] = t := by rw [show MemOp.ofEvents 0 g.frame.fn g.frame.place #[] = #[] from rfl, Array.append_empty]
   rw [et]
   have hck := h.cast_keep h0lt (y := parked g₂ cs shape)
   refine ⟨_, w, sl, j, ks, st, F, cc, cv, q, kt, kx, .park, R, Ls, Sh, sv, mv, rfl, ?_, rfl⟩
   exact { h with cast := ⟨fun i y h1 h2 _ hy => hck.old i y h1 h2 (by omega) hy, fun k' hk' _ => hck.wk k' hk' (by omega), fun hks _ => hck.cl hks (by omega), fun _ => ⟨_, by rw [Array.getElem?_setIfInBounds_self_of_lt h0lt], by rw [hF, hd0]; exact .park hsel⟩⟩, size := (by simp [h.size]), jm := h.jm, above := fun i hi => h.above i (by simpa using hi), res := (by simpa using h.res), mode := h.mode, mpark := fun _ => hclo, pk := fun _ => hno, trc := (by simpa using h.trc) }
 ·-- it meets one
  obtain ⟨m, gj, vj, zj, shj, d, hm0, hgj, hrun⟩ := sel_recv_meets_some (P := p.P) (sl := sl) hx hgo hsel.f hother hC hp (fun m k' hm => h.sendersC hT hm)
  rcases h.who hT hgj with h1 | ⟨k, hk, rfl, e, _⟩ | ⟨e, _⟩
  ·rcases h1 with h1 | h1
   ·exact absurd rfl h1
   ·cases h1
  ·obtain ⟨y, hy, hw⟩ := h.cast.wk k hk (by have := h.lt_size hk; omega)
   obtain ⟨g₁, v', z, Lk, Gv, rfl, _, hdk, hLk, hGv, hsp, hout, hway⟩ := hw.parkedAt e
   rw [hgj] at hy
   obtain ⟨rfl, rfl, hserv⟩ := parked_inj (Option.some.inj hy)
   have hcap : ∀ b o, Gv b = some (o, true) → Ls 0 b = none := fun b o hb => h.res.apart (p.base + k) 0 b o (by omega) (hGv b _ hb)
   have hRk : ¬ R k := fun e => by have := (h.rr k e).2; omega
   obtain ⟨Tw, hTw⟩ := hway.at
   obtain ⟨Tm, hTm⟩ := (hsel.take k vj Gv (by omega) hRk hout hcap).at
   have hxlt := h.lt_size hk
   obtain ⟨μ', h1, h2⟩ := h.pass (gs' := (gs.setIfInBounds (p.base + k) (gj.finishComm p.P #[scase p.C vj zj] .send 0 undef false)).setIfInBounds 0 (g₂.finishComm p.P cs shape kf vj true)) hk (by omega) (.inl rfl) hC hd0 hdk (a' := g₂.finishComm p.P cs shape kf vj true) (y' := gj.finishComm p.P #[scase p.C vj zj] .send 0 undef false) (by simp)
    (by rw [Array.getElem?_setIfInBounds_self_of_lt (by simpa using h0lt)]) (by rw [Array.getElem?_setIfInBounds_ne (by omega), Array.getElem?_setIfInBounds_self_of_lt hxlt]) (fun i h1 h2 => by rw [Array.getElem?_setIfInBounds_ne (Ne.symm h1), Array.getElem?_setIfInBounds_ne (Ne.symm h2)])
    (fn := gj.frame.fn) (fn' := g₂.frame.fn) (pos := gj.frame.place) (pos' := g₂.frame.place) d hLk hGv hsp (Tw := Tw) (by rw [finishComm_send, hserv]; exact hTw) hTm sl (cap := 0)
   exact ⟨_, _, μ', hrun, h1, by rw [eops]; exact h2⟩
  ·exact absurd e hm0
theorem Sit.closeStep (hT : Takes p) (h : Sit p W0 S0 n0 gs w t j ks st F cc cv q .ret 1 mt R Ls Sh sv mv) {g : Goroutine} (sl : Option (Nat × Nat)) (hx : gs[p.base + p.n]? = some g) (hd : Deaf t (p.base + p.n) = 0) {L : LH} (hs : KClose p g L) :
  ∃ m' ops μ', runT p.P (crowd gs w sl) (p.base + p.n) = (.next m', ops) ∧ MLt (p.base + p.n + 1) μ' (meas p j ks st F .ret 1 mt) ∧ PInv p W0 S0 n0 μ' m' (t ++ ops) := by
 obtain ⟨hrun, g', q', hmw, hrun', hgo, hq'⟩ := hs
 obtain ⟨rfl, hmt⟩ := h.tag_ks (by simp)
 have hb := h.base1
 have hjn := jm_n h.jm rfl
 have hsz := h.size
 simp only [Bool.toNat_true] at hsz
 have hx0 : (p.base + p.n == 0) = false := by simp; omega
 obtain ⟨s, hC⟩ := h.ch
 obtain ⟨s₂, hD⟩ := h.cd
 rw [show closedAt .ret 1 = false from rfl] at hC hD
 rw [Bool.and_false] at hC
 have hstep := runT_crowd_go (P := p.P) (sl := sl) (i := p.base + p.n) hx (by rw [hx0]; exact hgo w _ _ hD)
 have hDlt : p.D < w.heap.size := (Array.getElem?_eq_some_iff.1 hD).1
 have hheap : ∀ b, b ≠ p.D → (w.setChan p.D 0 #[] true s₂ s₂ false).heap[b]? = w.heap[b]? := fun b hb => heap_setChan w p.D 0 #[] true s₂ s₂ false b hb
 have hheapD : (w.setChan p.D 0 #[] true s₂ s₂ false).heap[p.D]? = some (.chan 0 #[] true s₂ s₂ false) := heap_setChan_same w hDlt
 have hhsz : (w.setChan p.D 0 #[] true s₂ s₂ false).heap.size = w.heap.size := by simp [World.setChan]
 have hsame : Same W0 (w.setChan p.D 0 #[] true s₂ s₂ false) := ⟨h.same.tape, h.same.os, h.same.out⟩
 generalize w.setChan p.D 0 #[] true s₂ s₂ false = w' at hstep hheap hheapD hhsz hsame
 have hU : MemOp.ofEvents (p.base + p.n) g.frame.fn g.frame.place (closeEvents p.D) = #[{ g := p.base + p.n, fn := g.frame.fn, pos := g.frame.place, act := .access ⟨.obj p.D, false, true⟩ }, { g := p.base + p.n, fn := g.frame.fn, pos := g.frame.place, act := .close p.D }] := by
  rw [ofEvents_eq]; simp [closeEvents, MemAct.ofEvent]
 rw [hU] at hstep
 generalize hX : ({ g := p.base + p.n, fn := g.frame.fn, pos := g.frame.place, act := .access ⟨.obj p.D, false, true⟩ } : MemOp) = X at hstep
 generalize hY : ({ g := p.base + p.n, fn := g.frame.fn, pos := g.frame.place, act := .close p.D } : MemOp) = Y at hstep
 have hXa : X.g = p.base + p.n ∧ X.act = .access ⟨.obj p.D, false, true⟩ := by rw [← hX]; exact ⟨rfl, rfl⟩
 have hYa : Y.g = p.base + p.n ∧ Y.act = .close p.D := by rw [← hY]; exact ⟨rfl, rfl⟩
 have hop : ∀ op ∈ (#[X, Y] : Array MemOp), op.g = p.base + p.n ∧ (∀ m, op.act ≠ .mark m) ∧ ∀ x, op.act.touch? = some x → x.kind = .atomic ∧ blkOf x.loc = some p.D := by
  intro op ho
  simp only [List.mem_toArray, List.mem_cons, List.not_mem_nil, or_false] at ho
  rcases ho with rfl | rfl
  ·refine ⟨hXa.1, by rw [hXa.2]; simp, fun x hx => ?_⟩
   rw [hXa.2] at hx
   simp only [MemAct.touch?, Option.some.injEq] at hx
   subst hx
   exact ⟨rfl, rfl⟩
  ·refine ⟨hYa.1, by rw [hYa.2]; simp, fun x hx => ?_⟩
   rw [hYa.2] at hx
   simp [MemAct.touch?] at hx
 have hdf : ∀ i, Deaf (t ++ #[X, Y]) i = Deaf t i := Deaf_plain fun op ho => (hop op ho).2.1
 have hall : ∀ k, k < j → st k = 1 := fun k hk => h.ret_all rfl hk
 have hxlt : p.base + p.n < gs.size := by omega
 have hML : ∀ R g L, p.ML R g L → g.status = .running := fun R g L x => (hT R g L x).1
 have get : ∀ i, i ≠ p.base + p.n → ((gs.map (woken p.P g g' w')).setIfInBounds (p.base + p.n) g')[i]? = (gs[i]?).map (woken p.P g g' w') := fun i hi => by
  rw [Array.getElem?_setIfInBounds_ne (Ne.symm hi), Array.getElem?_map]
 have hself : ((gs.map (woken p.P g g' w')).setIfInBounds (p.base + p.n) g')[p.base + p.n]? = some g' := by rw [Array.getElem?_setIfInBounds_self_of_lt (by simpa using hxlt)]
 have hgsz : ((gs.map (woken p.P g g' w')).setIfInBounds (p.base + p.n) g').size = gs.size := by simp
 have hres : Res Ls Sh (fun b => b = p.W ∨ b = p.D) (fun i => i = 0 ∨ (p.base ≤ i ∧ i < gs.size)) w' (t ++ #[X, Y]) := by
  refine h.res.sync (i := p.base + p.n) ⟨hhsz, fun b hb => hheap b fun e => hb (e ▸ h.shD)⟩ (.inr ⟨by omega, hxlt⟩) (fun op ho => (hop op ho).1) fun op ho x hx => ?_
  obtain ⟨h1, h2⟩ := (hop op ho).2.2 x hx
  exact ⟨by rw [h1]; simp, ⟨_, h2, .inr rfl⟩, fun h3 => by rw [h1] at h3; cases h3⟩
 have hmain : ∃ a', ((gs.map (woken p.P g g' w')).setIfInBounds (p.base + p.n) g')[0]? = some a' ∧ MSt p .sel R (F 0) (Deaf t 0) a' (Ls 0) := by
  obtain ⟨a, ha, hm⟩ := h.cast.mn (by omega)
  rcases hm.status hML with ⟨hne, e⟩ | ⟨e, hT0, hd0, g₀, g₂, cs, shape, kf, kd, zf, zd, rfl, hsel⟩
  ·have : mt = .sel := hmt.resolve_right hne
   rw [this] at hm
   exact ⟨a, by rw [get 0 (by omega), ha, Option.map_some, woken_awake (.inl e)], hm⟩
  ·have hw : woken p.P g g' w' (parked g₂ cs shape) = { parked g₂ cs shape with status := .running } := by
    unfold Go.Conc.woken
    rw [if_pos (by simp [hmw, hrun'])]
    exact again_some_closed hsel.d hheapD
   exact ⟨_, by rw [get 0 (by omega), ha, Option.map_some, hw], by rw [hT0, hd0]; exact .again hsel⟩
 have htag : tagOf .ret mt = .ret := by rcases hmt with e | e <;> rw [e] <;> rfl
 have hmo := h.mode
 rw [htag] at hmo
 obtain ⟨qp, hacq, _⟩ := h.acq rfl
 have hacq' : AcqK p n0 (t ++ #[X, Y]) qp := hacq.app fun k r hk hr => hr.appOther (fun op ho => (hop op ho).1) (by omega)
 refine ⟨_, _, meas p j true st (upd F (p.base + p.n) (Tree.num q')) .ret 0 .sel, hstep, ?_, ?_⟩
 ·refine Prod.Lex.left _ _ (Prod.Lex.left _ _ ?_)
  have hmr : 1 ≤ mrank mt := by rcases hmt with e | e <;> rw [e] <;> simp [mrank]
  simp only [mrank, krank]
  omega
 ·refine ⟨_, w', sl, j, true, st, upd F (p.base + p.n) (Tree.num q'), cc, cv, q, .ret, 0, .sel, R, Ls, Sh, sv, mv, rfl, ?_, rfl⟩
  refine { h with cast := ⟨fun i y h1 h2 _ hy => ?_, fun k hk _ => ?_, fun _ _ => ⟨g', hself, ?_⟩, fun _ => ?_⟩, size := hgsz.trans h.size, jm := ⟨hjn, rfl⟩, kk := (fun e => nomatch e), above := fun i hi => ?_, res := (by rw [hgsz]; exact hres), same := hsame, wg := h.wg.of_block (hheap _ h.neD), mode := hmo, ch := ?_, cd := ⟨s₂, hheapD⟩, mpark := (fun e => nomatch e), pk := (fun e => nomatch e), rel := fun k hk hs => ?_, said := fun idx a ha hl hs => ?_, acq := fun _ => ⟨qp, hacq', fun _ => ?_⟩, trc := ?_ }
  ·rw [get i (by omega)] at hy
   obtain ⟨z, hz, rfl⟩ := Option.map_eq_some_iff.1 hy
   obtain ⟨h1', h2'⟩ := h.cast.old i z h1 h2 (by omega) hz
   rw [woken_quitsD h1', hdf, upd_ne _ _ (by omega)]
   exact ⟨h1', h2'⟩
  ·obtain ⟨y, hy, hs⟩ := h.cast.wk k hk (by have := h.lt_size hk; omega)
   have e1 := hall k hk
   refine ⟨y, by rw [get _ (by omega), hy, Option.map_some, hs.woken (s₁ := 0) (r₁ := 0) fun e => by omega], ?_⟩
   rw [hdf, upd_ne _ _ (by omega)]
   exact hs.rely (fun h7 => hheap _ (h.lib k hk h7).2.2.2.1) (fun ⟨a, b, x⟩ => ⟨a, b, x.of_block (hheap _ h.neD)⟩) (h.stages k hk)
  ·rw [hdf, hd, upd_same]
   exact .quit hq'
  ·rw [hdf, upd_ne _ _ (by omega)]
   exact hmain
  ·rw [hdf]; exact h.above i (by rw [← hgsz]; exact hi)
  ·by_cases e : p.C = p.D
   ·refine ⟨s₂, ?_⟩
    rw [e, hheapD]; simp [closedAt]
   ·refine ⟨s, ?_⟩
    rw [hheap _ e, hC]; simp [e]
  ·obtain ⟨r, h1, h2⟩ := h.rel k hk hs
   exact ⟨r, h1, h2.appOther (fun op ho => (hop op ho).1) (by omega)⟩
  ·obtain ⟨z, hz, hza⟩ := touch_of ha
   rcases getElem?_append_cases hz with ⟨_, hz'⟩ | ⟨_, hzu⟩
   ·obtain ⟨h1, h2⟩ := h.said idx a (by rw [touchAt_of hz']; exact hza) hl hs
    exact ⟨fun e => (by cases e), fun e => (h2 e).app _⟩
   ·have := ((hop z hzu).2.2 a hza).1
    rw [this] at hs; cases hs
  ·have hYp : (t ++ #[X, Y])[t.size + 1]? = some Y := by rw [Array.getElem?_append_right (by omega)]; simp
   have hXp : (t ++ #[X, Y])[t.size]? = some X := by rw [Array.getElem?_append_right (Nat.le_refl _)]; simp
   refine ⟨t.size + 1, by rw [act?_of hYp, hYa.2], by rw [Trace.g?, hYp]; simp [hYa.1], ⟨p.base + p.n, by rw [Trace.g?, hYp]; simp [hYa.1], ?_⟩, ?_, fun i op ho hg ht => ?_⟩
   ·rw [deaf_succ hXp, deaf_old (Nat.le_refl _)]
    simp only [deafStep, hXa.2]
    exact hd
   ·have := lt_of_act? hacq.1
    omega
   ·rcases getElem?_append_cases ho with ⟨hi, _⟩ | ⟨hi, hou⟩
    ·omega
    ·by_cases e : i = t.size + 1
     ·subst e
      rw [hYp] at ho
      cases ho
      rw [hYa.2] at ht
      exact absurd rfl ht
     ·have := lt_size_of_getElem? ho
      simp at this
      omega
  ·rw [hgsz]
   refine h.trc.app (x := p.base + p.n) (fun op ho => (hop op ho).1) (.inl (.inr ⟨by omega, hxlt⟩)) (fun op ho => (hop op ho).2.1 _) fun op ho x hx _ => ?_
   obtain ⟨_, h2⟩ := (hop op ho).2.2 x hx
   exact ⟨_, h2, .inr rfl⟩
end Go.Mz


namespace Go.Mz
open Go.Conc Go.ConcN
open Go.ConcR (KK wgBlock WgAt stA smA rd wr Payload Aside2 DC0 Bk bk_of_mute)
variable {p : Pool} {W0 : World} {Post : Value → World → Prop} {S0 : Nat → Prop} {n0 : Nat} {gs gs' : Array Goroutine} {w : World} {t : Trace} {j : Nat} {ks : Bool} {st : Nat → Nat} {F : Nat → Tree} {cc : Nat → Nat} {cv : Nat → Value} {q : Nat → Nat} {kt : CTag} {kx : Nat} {mt : MTag} {R : Nat → Prop}
  {Ls : Nat → LH} {Sh : Nat → Prop} {sv mv : Int}
theorem Sit.at (h : Sit p W0 S0 n0 gs w t j ks st F cc cv q kt kx mt R Ls Sh sv mv) (d : Nat) : Sit p W0 S0 n0 gs (w.at d) t j ks st F cc cv q kt kx mt R Ls Sh sv mv :=
  { h with
    cast := ⟨h.cast.old, fun k hk hne => let ⟨g, hg, hs⟩ := h.cast.wk k hk hne; ⟨g, hg, hs.rely (fun _ => rfl) (fun ⟨a, b, x⟩ => ⟨a, b, x⟩) (h.stages k hk)⟩, h.cast.cl, h.cast.mn⟩
    res := ⟨h.res.sub, h.res.apart, h.res.sh, h.res.shlt, h.res.know, h.res.seen, h.res.clean, h.res.amsh, h.res.atomic⟩
    same := h.same.at d
    wg := h.wg
    ch := h.ch
    cd := h.cd }
theorem Sit.awake (hT : Takes p) (h : Sit p W0 S0 n0 gs w t j ks st F cc cv q kt kx mt R Ls Sh sv mv) : ∀ g ∈ gs, Go.Conc.awake g := by
 intro g hg tm
 obtain ⟨i, hi⟩ := Array.mem_iff_getElem?.1 hg
 have hlt : i < gs.size := (Array.getElem?_eq_some_iff.1 hi).1
 have hsz := h.size
 have hb := h.base1
 rcases Nat.eq_zero_or_pos i with rfl | hp
 ·obtain ⟨a, ha, hs⟩ := h.cast.mn (by omega)
  rw [hi] at ha
  cases ha
  rcases hs.status (fun R g L x => (hT R g L x).1) with ⟨_, e⟩ | ⟨e, _, _, g₀, g₂, cs, shape, kf, kd, zf, zd, rfl, hsel⟩
  ·rw [e]; simp
  ·simp [parked]
 by_cases h1 : i < p.base
 ·obtain ⟨hq, _⟩ := h.cast.old i g hp h1 (by omega) hi
  rcases hq.status with e | e <;> rw [e] <;> simp
 by_cases h2 : i < p.base + j
 ·obtain ⟨y, hy, hs⟩ := h.cast.wk (i - p.base) (by omega) (by omega)
  rw [show p.base + (i - p.base) = i by omega] at hy hs
  rw [hi] at hy
  cases hy
  rcases hs.status with e | e | ⟨e, g₀, v, z, rfl⟩
  ·rw [e]; simp
  ·rw [e]; simp
  ·simp [parked]
 ·have hks : ks = true := by
   cases ks with
   | true => rfl
   | false => simp at hsz; omega
  subst hks
  have hjn := jm_n h.jm rfl
  simp only [Bool.toNat_true] at hsz
  obtain ⟨y, hy, hs⟩ := h.cast.cl rfl (by omega)
  rw [show p.base + p.n = i by omega] at hy hs
  rw [hi] at hy
  cases hy
  rcases hs.status with ⟨_, e | e⟩ | ⟨_, _, _, _, g₀, rfl, hk⟩
  ·rw [e]; simp
  ·rw [e]; simp
  ·simp
theorem WSt.runs {k s : Nat} {T : Tree} {cc : Nat} {v : Value} {d : Nat} {g : Goroutine} {L : LH} {w : World} (h : WSt p k s T cc v d g L w) (h1 : s ≠ 1) (h11 : s ≠ 11) : g.status = .running := by
 cases h with
 | own h => exact h.running fun _ _ x => x.run
 | park => exact absurd rfl h11
 | post h => exact h.running fun _ _ x => x.1
 | lib h => exact WSit.running_of h h1
theorem Sit.someone (hT : Takes p) (h : Sit p W0 S0 n0 gs w t j ks st F cc cv q kt kx mt R Ls Sh sv mv) : ∃ (i : Nat) (g : Goroutine), gs[i]? = some g ∧ g.status = .running := by
 have hb := h.base1
 have hsz := h.size
 obtain ⟨a, ha, hs⟩ := h.cast.mn (by omega)
 rcases hs.status (fun R g L x => (hT R g L x).1) with ⟨_, e⟩ | ⟨e, _⟩
 ·exact ⟨0, a, ha, e⟩
 ·-- the first one waits
  by_cases hall : ∃ k, k < j ∧ st k ≠ 1
  ·obtain ⟨k, hk, h1⟩ := hall
   obtain ⟨y, hy, hw⟩ := h.cast.wk k hk (by have := h.lt_size hk; omega)
   exact ⟨_, y, hy, hw.runs h1 (h.pk e k hk)⟩
  ·have hall : ∀ k, k < j → st k = 1 := fun k hk => Classical.byContradiction fun hn => hall ⟨k, hk, hn⟩
   have hks : ks = true := by have := h.jm; rw [e] at this; exact this.2
   subst hks
   simp only [Bool.toNat_true] at hsz
   have hjn := jm_n h.jm rfl
   obtain ⟨y, hy, hk⟩ := h.cast.cl rfl (by omega)
   have hclo := h.mpark e
   have hm := h.mode
   rw [show tagOf kt mt = kt by rw [e]; rfl] at hm
   generalize hTr : F (p.base + p.n) = T0 at hk
   generalize hde : Deaf t (p.base + p.n) = d0 at hk
   cases hk with
   | blk hs =>
    exfalso
    cases hm with
    | opn h1 => exact h1.elim
    | reg h1 h2 h3 =>
     obtain ⟨i, hi, h5⟩ := exists_counted h3
     simp only [stg, hall i hi] at h5
     omega
    | last L h1 h2 h3 h4 => simp only [stg, hall L h2] at h3; omega
    | fin h1 => exact h1.elim
   | quit hq => cases hclo
   | _ hat => exact ⟨_, y, hy, hat.running fun _ _ x => x.1⟩
theorem AtDn.lib {g : Goroutine} {L : LH} (h : AtDn p g L) (hs : Sub L w) (hw : WgLive p.ty p.W w) : ∃ cc v m o, L cc = some (o, true) ∧ LSit p.P p.ty p.W cc v 7 m 0 g w := by
 obtain ⟨_, m, cc, v, c, e, fz, h1, h2, h3⟩ := h
 refine ⟨cc, v, m, _, h1, .r0 (h3 w hw ?_)⟩
 exact hs.cell (by unfold LH.cell?; rw [h1]; exact h2)
theorem Sit.workerStep (hT : Takes p) (h : Sit p W0 S0 n0 gs w t j ks st F cc cv q kt kx mt R Ls Sh sv mv) {k : Nat} (hk : k < j) {g : Goroutine} (sl : Option (Nat × Nat)) (hx : gs[p.base + k]? = some g) (hrun : g.status = .running) :
  ∃ m' ops μ', runT p.P (crowd gs w sl) (p.base + k) = (.next m', ops) ∧ MLt (p.base + p.n + 1) μ' (meas p j ks st F kt kx mt) ∧ PInv p W0 S0 n0 μ' m' (t ++ ops) := by
 have hb := h.base1
 have hx0 : (p.base + k == 0) = false := by simp; omega
 have hsub := h.res.sub (p.base + k)
 have hxlt := h.lt_size hk
 obtain ⟨y, hy, hw⟩ := h.cast.wk k hk (by omega)
 rw [hx] at hy
 cases hy
 have own : ∀ {S : Goroutine → LH → Prop}, 10 ≤ st k → (∀ T' g' L' w', At p.P false p.Φ S T' g' L' → WSt p k (st k) T' (cc k) (cv k) (Deaf t (p.base + k)) g' L' w') →
   (∀ w, Sub (Ls (p.base + k)) w → p.Φ w → ∃ g' w' es L' T', stepG p.P false g w = .go g' w' es ∧ Tr (Ls (p.base + k)) L' w w' es ∧ At p.P false p.Φ S T' g' L' ∧ Tree.sub T' (F (p.base + k))) →
   ∃ m' ops μ', runT p.P (crowd gs w sl) (p.base + k) = (.next m', ops) ∧ MLt (p.base + p.n + 1) μ' (meas p j ks st F kt kx mt) ∧ PInv p W0 S0 n0 μ' m' (t ++ ops) := by
  intro S h10 hK hst
  obtain ⟨g', w', es, L', T', h1, h2, h3, h4⟩ := hst w hsub ⟨_, _, h.wg⟩
  have hjn := h.jn
  exact h.ownStep hT sl hx (.inr ⟨by omega, hxlt⟩) (by rw [hx0]; exact h1) h2 h4 (fun e => by omega) (fun k' hk' e => by
   obtain rfl : k' = k := by omega
   exact ⟨h10, hK _ _ _ _ h3⟩) (fun _ e => by omega) (fun _ e => by omega) (fun e => by omega)
 generalize hst : st k = s at hw
 generalize hTr : F (p.base + k) = T0 at hw
 generalize hde : Deaf t (p.base + k) = d0 at hw
 generalize hL : Ls (p.base + k) = L0 at hw
 generalize hcc : cc k = c0 at hw
 generalize hcv : cv k = v0 at hw
 cases hw with
 | own hat =>
  rcases hat.cases with ⟨hs | ⟨hmu, hs⟩, hl⟩ | ⟨_, hstp⟩
  ·exact h.sendStep hT hk sl hx hst (hTr.trans hl) hde (by rw [hL]; exact hs)
  ·obtain ⟨c, v, m, o, h1, h2⟩ := hs.lib (hL ▸ hsub) ⟨_, _, h.wg⟩
   exact h.libStep hT hk sl hx hrun (by rw [hde]; exact h2) (.inr ⟨rfl, by omega, by omega, fun _ => hmu, o, by rw [hL]; exact h1⟩)
  ·exact own (by omega) (fun _ _ _ _ x => by rw [hst, hde]; exact .own x) (by rw [hTr, hL]; exact hstp)
 | park => cases hrun
 | post hat =>
  rcases hat.cases with ⟨hs, hl⟩ | ⟨_, hstp⟩
  ·obtain ⟨c, v, m, o, h1, h2⟩ := hs.lib (hL ▸ hsub) ⟨_, _, h.wg⟩
   exact h.libStep hT hk sl hx hrun (by rw [hde]; exact h2) (.inr ⟨rfl, by omega, by omega, fun e => by omega, o, by rw [hL]; exact h1⟩)
  ·exact own (by omega) (fun _ _ _ _ x => by rw [hst, hde]; exact .post x) (by rw [hTr, hL]; exact hstp)
 | lib hl => exact h.libStep hT hk sl hx hrun (by rw [hde]; exact hl) (.inl ⟨hst.symm, hcc.symm, hTr⟩)
theorem Sit.endStep (hT : Takes p) (hFin : ∀ g L, p.Fin g L → FGo p.P Post W0 g L) (h : Sit p W0 S0 n0 gs w t j ks st F cc cv q kt kx .sel R Ls Sh sv mv) {g : Goroutine} (sl : Option (Nat × Nat)) (hx : gs[0]? = some g) (hd0 : Deaf t 0 = 0) (hs : AtSel p R g (Ls 0)) (hclo : closedAt kt kx = true) :
  ∃ m' ops, runT p.P (crowd gs w sl) 0 = (.next m', ops) ∧ RunsGood p.P Post m' (t ++ ops) := by
 obtain ⟨rfl, rfl⟩ := closed_iff hclo
 obtain ⟨g₀, g₂, cs, shape, kf, kd, zf, zd, hsel, hcomm⟩ := hs.get hT
 obtain ⟨rfl, _⟩ := h.tag_ks (by simp)
 have hb := h.base1
 have hjn := jm_n h.jm rfl
 have hsz := h.size
 simp only [Bool.toNat_true] at hsz
 have h0lt : 0 < gs.size := (Array.getElem?_eq_some_iff.1 hx).1
 have hall : ∀ k, k < j → st k = 1 := fun k hk => h.ret_all rfl hk
 have hgo : stepG p.P (0 == 0) g w = .comm g₂ cs true shape w #[] := hcomm w (h.res.sub 0)
 obtain ⟨s, hC⟩ := h.ch
 obtain ⟨s₂, hD⟩ := h.cd
 rw [hclo] at hC hD
 have hns := h.noSenders hT (fun k hk => by have := hall k hk; omega)
 have hrun := crowd_sel_recv_closed (P := p.P) (sl := sl) hx hgo hsel.d (fun m c' hm hc => by
  rcases hsel.no m c' hc with e | e
  ·subst e
   rw [hsel.f] at hc
   cases hc
   have hne : p.C ≠ p.D := fun e => hm (hsel.one.1 e)
   rw [show decide (p.C = p.D) = false by simp [hne], Bool.false_and] at hC
   exact ways_recv_none hC (hns _ _)
  ·exact absurd e hm) hD (hns _ _)
 refine ⟨_, _, hrun, ?_⟩
 rw [show MemOp.ofEvents 0 g.frame.fn g.frame.place #[] = #[] from rfl, Array.empty_append]
 generalize hY : ({ g := 0, fn := g₂.frame.fn, pos := g₂.frame.place, act := .recvClosed p.D } : MemOp) = Y
 have hYa : Y.g = 0 ∧ Y.act = .recvClosed p.D := by rw [← hY]; exact ⟨rfl, rfl⟩
 have hnt : ∀ op ∈ (#[Y] : Array MemOp), op.act.touch? = none ∧ ∀ m, op.act ≠ .mark m := by
  intro op ho
  simp only [List.mem_toArray, List.mem_cons, List.not_mem_nil, or_false] at ho
  subst ho
  rw [hYa.2]
  exact ⟨rfl, by simp⟩
 have hdf : ∀ i, Deaf (t ++ #[Y]) i = Deaf t i := Deaf_plain fun op ho => (hnt op ho).2
 have old : ∀ {idx : Nat} {a : Touch}, touchAt (t ++ #[Y]) idx = some a → touchAt t idx = some a := touch_old fun op ho => (hnt op ho).1
 have hYp : (t ++ #[Y])[t.size]? = some Y := by rw [Array.getElem?_append_right (Nat.le_refl _)]; simp
 obtain ⟨qp, hacq, hcls⟩ := h.acq rfl
 obtain ⟨q1, q2, q3, q4⟩ := hacq
 obtain ⟨c, c1, c2, c3, c4, c5⟩ := hcls rfl
 have hqt := lt_of_act? q1
 have hct := lt_of_act? c1
 -- close happens before the receive
 have hcR : HappensBefore (t ++ #[Y]) c t.size := .single (.inr ⟨.closed (c := p.D) (by rw [act?_old hct]; exact c1) (by rw [act?_of hYp, hYa.2]), (heard_old hct).2 c3, ⟨0, by rw [Trace.g?, hYp]; simp [hYa.1], by rw [deaf_old (Nat.le_refl _)]; exact hd0⟩⟩)
 have hqR : HappensBefore (t ++ #[Y]) qp t.size := .trans (.single (.inl ⟨c4, p.base + p.n, by rw [g?_old hqt]; exact q2, by rw [g?_old hct]; exact c2⟩)) hcR
 have hrR : ∀ k r, k < p.n → n0 ≤ r → RelBy (stA p.W) t (p.base + k) r → r < qp → HappensBefore (t ++ #[Y]) r t.size := by
  intro k r hk hn hr hrq
  have hrt := lt_of_act? hr.act
  refine .trans (.single (.inr ⟨.marked hrq (.inr (by rw [act?_old hrt]; exact hr.act)) (by rw [act?_old hqt]; exact q1) (fun i hi1 hi2 => ?_), (heard_old hrt).2 hr.heard, (heard_old hqt).2 q3⟩)) hqR
  rw [act?_old (by omega)]
  exact h.trc.norel i (by omega)
 -- whatever a member did that counts, or touched not atomically, happens before the receive
 have hmem : ∀ i op, n0 ≤ i → t[i]? = some op → op.g ≠ 0 → op.act.touch? ≠ none → HappensBefore (t ++ #[Y]) i t.size ∨ (¬ t.counts i) := by
  intro i op hi ho hne ht
  have hit := lt_size_of_getElem? ho
  have hgi : t.g? i = some op.g := by simp [Trace.g?, ho]
  rcases h.trc.who i op hi ho ht with e | ⟨e1, e2⟩
  ·exact absurd e hne
  ·by_cases e3 : op.g = p.base + p.n
   ·left
    have := c5 i op ho e3 ht
    exact .trans (.single (.inl ⟨this, p.base + p.n, by rw [g?_old hit, hgi, e3], by rw [g?_old hct]; exact c2⟩)) hcR
   ·have hk : op.g - p.base < p.n := by omega
    obtain ⟨r, hn, hr, hrq⟩ := q4 (op.g - p.base) hk
    rw [show p.base + (op.g - p.base) = op.g by omega] at hr
    have hrt := lt_of_act? hr.act
    rcases Nat.lt_trichotomy i r with hlt | rfl | hgt
    ·left
     exact .trans (.single (.inl ⟨hlt, op.g, by rw [g?_old hit]; exact hgi, by rw [g?_old hrt]; exact hr.g⟩)) (hrR (op.g - p.base) r hk hn (by rw [show p.base + (op.g - p.base) = op.g by omega]; exact hr) hrq)
    ·left
     exact hrR (op.g - p.base) i hk hn (by rw [show p.base + (op.g - p.base) = op.g by omega]; exact hr) hrq
    ·right
     exact hr.after i hgt hgi
 have hLv : ∀ i, ∃ n, ∀ y, 0 < i → gs[i]? = some y → QuitsD p.P n (Deaf (t ++ #[Y]) i) y := by
  intro i
  by_cases hi : 0 < i ∧ i < gs.size
  ·by_cases h1 : i < p.base
   ·exact ⟨q i, fun y _ hy => by rw [hdf]; exact (h.cast.old i y hi.1 h1 (by omega) hy).1⟩
   ·by_cases h2 : i < p.base + j
    ·obtain ⟨y, hy, hw⟩ := h.cast.wk (i - p.base) (by omega) (by omega)
     rw [show p.base + (i - p.base) = i by omega] at hy hw
     have e1 := hall (i - p.base) (by omega)
     rw [e1] at hw
     generalize hTr : F i = T0 at hw
     generalize hde : Deaf t i = d0 at hw
     generalize hL : Ls i = L0 at hw
     generalize cc (i - p.base) = c0 at hw
     generalize cv (i - p.base) = v0 at hw
     cases hw with
     | lib hl =>
      cases hl with
      | quit hq => exact ⟨_, fun y' _ hy' => by rw [hy] at hy'; cases hy'; rw [hdf, hde]; exact hq⟩
    ·obtain ⟨y, hy, hk⟩ := h.cast.cl rfl (by omega)
     rw [show p.base + p.n = i by omega] at hy hk
     generalize hTr : F i = T0 at hk
     generalize hde : Deaf t i = d0 at hk
     cases hk with
     | quit hq => exact ⟨_, fun y' _ hy' => by rw [hy] at hy'; cases hy'; rw [hdf, hde]; exact hq⟩
  ·exact ⟨0, fun y h0 hy => absurd ⟨h0, (Array.getElem?_eq_some_iff.1 hy).1⟩ hi⟩
 have get : ∀ i, i ≠ 0 → (gs.setIfInBounds 0 (g₂.finishComm p.P cs shape kd zd false))[i]? = gs[i]? := fun i hi => Array.getElem?_setIfInBounds_ne (Ne.symm hi)
 have hSS : ∀ b, (S0 b ∨ b = p.W ∨ b = p.D) → Sh b := fun b hb => hb.elim (h.sh0 b) fun hb => hb.elim (fun e => e ▸ h.shW) (fun e => e ▸ h.shD)
 refine hFin _ _ (hsel.fin fun k hk => ?_) _ w sl _ (fun i => (hLv i).choose) (fun b => S0 b ∨ b = p.W ∨ b = p.D) (by rw [Array.getElem?_setIfInBounds_self_of_lt h0lt]) (h.res.sub 0) h.same ⟨fun i y hi hy => ?_, fun i hi => ?_⟩ ⟨fun said => noRace_mute (h.res.clean said) fun op ho => (hnt op ho).1, fun i a b ha hbk => ?_, fun i gg hg hne hc => ?_, by rw [hdf]; exact hd0, fun i a b ha hbk => h.res.seen i a b (old ha) hbk⟩ fun b hb => ⟨h.res.shlt b (hSS b hb), h.res.sh 0 b (hSS b hb)⟩
 ·by_cases hR : R k
  ·exact .inl hR
  ·rcases h.nr k hk hR (by omega) with e | e
   ·have := hall k (by omega); omega
   ·exact .inr e.2
 ·rw [get i (by omega)] at hy
  exact (hLv i).choose_spec y hi hy
 ·rw [hdf]
  exact h.above i (by simpa using hi)
 ·have ha' := old ha
  obtain ⟨op, ho, hoa⟩ := touch_of ha'
  have hit := lt_size_of_getElem? ho
  by_cases hi : i < n0
  ·exact (h.trc.known i a b hi ha' hbk).imp (·.app _) fun x => ⟨.inl x.1, x.2⟩
  ·by_cases hg0 : op.g = 0
   ·left
    have := knows_own (t := t ++ #[Y]) (i := i) (z := op) (by rw [getElem?_append_old hit]; exact ho)
    rw [hg0] at this
    exact this
   ·rcases hmem i op (by omega) ho hg0 (by rw [hoa]; simp) with hh | hh
    ·exact .inl ⟨t.size, Y, hYp, hYa.1, .inr hh⟩
    ·right
     have hkind : a.kind = .atomic := Classical.byContradiction fun hk => hh ⟨a, ha', by cases hl : a.loc <;> rw [hl] at hbk <;> simp [blkOf] at hbk <;> rfl, .inl hk⟩
     exact ⟨.inr (h.trc.atm i a b (by omega) ha' (by rw [hkind]; simp) hbk), hkind⟩
 ·have hc' : (t ++ #[Y]).counts i := hc
  obtain ⟨x, hx', hm', hk'⟩ := hc'
  have ha' := old (idx := i) (a := x) hx'
  obtain ⟨op, ho, hoa⟩ := touch_of ha'
  have hit := lt_size_of_getElem? ho
  have hct' : t.counts i := (counts_old hit).1 hc
  rw [g?_old hit] at hg
  have hgo' : op.g = gg := by simpa [Trace.g?, ho] using hg
  by_cases hi : i < n0
  ·obtain ⟨j', hj', hb'⟩ := h.trc.over i gg hi hg hne hct'
   have hjl : j' < t.size := by
    unfold Trace.g? at hj'
    obtain ⟨z, hz, _⟩ := Option.map_eq_some_iff.1 hj'
    exact lt_size_of_getElem? hz
   exact ⟨j', by rw [g?_old hjl]; exact hj', hb_app _ hb'⟩
  ·rcases hmem i op (by omega) ho (by rw [hgo']; exact hne) (by rw [hoa]; simp) with hh | hh
   ·exact ⟨t.size, by rw [Trace.g?, hYp]; simp [hYa.1], hh⟩
   ·exact absurd hct' hh
theorem pool_good (hT : Takes p) (hA : ∀ g L, p.Anch g L → Way p.P false p.Φ (KLd p) g L) (hFin : ∀ g L, p.Fin g L → FGo p.P Post W0 g L) : ∀ μ m t, PInv p W0 S0 n0 μ m t → RunsGood p.P Post m t := by
 intro μ
 induction μ using (MLt.wf (p.base + p.n + 1)).induction with
 | _ μ ih =>
 intro m t hI
 obtain ⟨gs, w, sl, j, ks, st, F, cc, cv, q, kt, kx, mt, R, Ls, Sh, sv, mv, rfl, h, rfl⟩ := hI
 obtain ⟨i, g, d, sl', hi, hg, hst⟩ := crowd_pick (P := p.P) (w := w) (sl := sl) (h.awake hT) (h.someone hT)
 have h := h.at d
 have done : (∃ m' ops μ', runT p.P (crowd gs (w.at d) sl') i = (.next m', ops) ∧ MLt (p.base + p.n + 1) μ' (meas p j ks st F kt kx mt) ∧ PInv p W0 S0 n0 μ' m' (t ++ ops)) → RunsGood p.P Post (crowd gs w sl) t := by
  rintro ⟨m', ops, μ', h1, h2, h3⟩
  exact RunsGood.next (hst.trans h1) (ih μ' h2 m' _ h3)
 have hlt : i < gs.size := (Array.getElem?_eq_some_iff.1 hi).1
 have hsz := h.size
 have hb := h.base1
 rcases Nat.eq_zero_or_pos i with rfl | hp
 ·obtain ⟨a, ha, hm⟩ := h.cast.mn (by omega)
  rw [hi] at ha
  cases ha
  rcases h.mStep hT sl' hi hm hg with hd | ⟨r, rfl, hd0, hs⟩ | ⟨rfl, hd0, hs⟩ | ⟨rfl, hF, hd0, hs⟩
  ·exact done hd
  ·exact done (h.goStep sl' hi hd0 hs)
  ·exact done (h.gokStep (h.r0 h.jm.2) sl' hi hd0 hs)
  ·cases hclo : closedAt kt kx with
   | false => exact done (h.recvStep hT sl' hi hF hd0 hs hclo)
   | true =>
    obtain ⟨m', ops, h1, h2⟩ := h.endStep hT hFin sl' hi hd0 hs hclo
    exact RunsGood.next (hst.trans h1) h2
 by_cases h1 : i < p.base
 ·exact done (h.oldStep hT hp h1 sl' hi hg)
 by_cases h2 : i < p.base + j
 ·have := h.workerStep hT (k := i - p.base) (by omega) sl' (by rw [show p.base + (i - p.base) = i by omega]; exact hi) hg
  rw [show p.base + (i - p.base) = i by omega] at this
  exact done this
 ·have hks : ks = true := by
   cases ks with
   | true => rfl
   | false => simp at hsz; omega
  subst hks
  have hjn := jm_n h.jm rfl
  simp only [Bool.toNat_true] at hsz
  obtain rfl : i = p.base + p.n := by omega
  obtain ⟨y, hy, hk⟩ := h.cast.cl rfl (by omega)
  rw [hi] at hy
  cases hy
  by_cases hc : kt = .ret ∧ kx = 1 ∧ KClose p g (Ls (p.base + p.n)) ∧ F (p.base + p.n) = .leaf
  ·obtain ⟨rfl, rfl, hc, hF⟩ := hc
   have hd : Deaf t (p.base + p.n) = 0 := by
    generalize hde : Deaf t (p.base + p.n) = d0 at hk
    generalize F (p.base + p.n) = T0 at hk
    cases hk
    rfl
   exact done (h.closeStep hT sl' hi hd hc)
  ·exact done (h.kStep hT hA rfl sl' hi hg hk fun T hn => hc ⟨hn.1, hn.2.1, hn.2.2.1, by rw [hn.2.2.2.2]; exact hn.2.2.2.1⟩)
end Go.Mz


namespace Go.Mz
open Go.Conc Go.ConcN
open Go.ConcR (KK wgBlock WgAt stA smA rd wr Payload Aside2 DC0 Bk bk_of_mute)
def LH.without (L : LH) (W C D : Nat) : LH := fun b => if b = W ∨ b = C ∨ b = D then none else L b
theorem FGo.pool {Post : Value → World → Prop} {W0 : World} {g : Goroutine} {L : LH} (p : Pool) (hn : p.n < 2147483647) (hne : p.W ≠ p.C ∧ p.W ≠ p.D)
  (hW : L p.W = some (wgBlock p.ty 0 0, true)) (hC : L p.C = some (.chan 0 #[] false 0 0 false, true)) (hD : L p.D = some (.chan 0 #[] false 0 0 false, true))
  (hT : ∀ b, Takes { p with base := b }) (hA : ∀ b g L, p.Anch g L → Way p.P false p.Φ (KLd { p with base := b }) g L) (hFin : ∀ g L, p.Fin g L → FGo p.P Post W0 g L)
  (hM : ∀ b, MSp { p with base := b } p.n g (L.without p.W p.C p.D)) : FGo p.P Post W0 g L := by
 intro gs w sl t q S h0 hs hS hLv hP hSh
 have h0lt : 0 < gs.size := (Array.getElem?_eq_some_iff.1 h0).1
 have hnS : ∀ b, L b ≠ none → ¬ S b := fun b hb hs => hb (hSh b hs).2
 have hkn : ∀ i a b, touchAt t i = some a → blkOf a.loc = some b → L b ≠ none → Knows t 0 i := fun i a b ha hb hl => (hP.known i a b ha hb).resolve_right fun x => hnS b hl x.1
 obtain ⟨mt, T, hmt, hjm, hmo, hnp⟩ : ∃ mt T, MSt { p with base := gs.size } mt (fun _ => False) T 0 g (L.without p.W p.C p.D) ∧ jOk p.n 0 false mt ∧ ConcN.Mode 0 (stg fun _ => 0) (tagOf .kd mt) 0 0 ∧ mt ≠ .park := by
  have hm := hM gs.size
  have mode : ∀ tg, isOpen tg → pend tg = 0 → (∀ vs, tg ≠ .w2 vs) → ConcN.Mode 0 (stg fun _ => 0) tg 0 0 := fun tg h1 h2 h3 => by
   have := ConcN.Mode.opn (tag := tg) (j := 0) (D := stg fun _ => 0) h1 (fun a ha => absurd ha (Nat.not_lt_zero _)) (fun vs e => absurd e (h3 vs))
   rw [h2] at this
   simpa [Vc, sumTo] using this
  obtain ⟨n, hn'⟩ : ∃ n, p.n = n := ⟨_, rfl⟩
  have hm' : MSp { p with base := gs.size } n g (L.without p.W p.C p.D) := by rw [← hn']; exact hm
  clear hm
  cases n with
  | zero =>
   obtain ⟨T, hT'⟩ := Way.at (show Way p.P true p.Φ (MGoK { p with base := gs.size }) g _ from hm')
   exact ⟨.gok, T, .gok hT', ⟨hn'.symm, rfl⟩, mode _ trivial rfl (by simp [tagOf]), by simp⟩
  | succ r =>
   obtain ⟨T, hT'⟩ := Way.at (show Way p.P true p.Φ (MKd { p with base := gs.size } (p.n - (r + 1)) (MSp { p with base := gs.size } r)) g _ from hm')
   exact ⟨.kd r, T, .kd hT', ⟨by omega, rfl⟩, mode _ trivial rfl (by simp [tagOf]), by simp⟩
 have hLw : ∀ b o wr, L.without p.W p.C p.D b = some (o, wr) → L b = some (o, wr) ∧ b ≠ p.W ∧ b ≠ p.C ∧ b ≠ p.D := by
  intro b o wr hb
  unfold LH.without at hb
  split at hb
  ·cases hb
  ·rename_i hh
   exact ⟨hb, fun e => hh (.inl e), fun e => hh (.inr (.inl e)), fun e => hh (.inr (.inr e))⟩
 have hsub : Sub (L.without p.W p.C p.D) w := fun b o wr hb => hs b o wr (hLw b o wr hb).1
 have hlt : ∀ b, L b ≠ none → b < w.heap.size := fun b hb => hs.lt hb
 refine pool_good (p := { p with base := gs.size }) (W0 := W0) (S0 := S) (n0 := t.size) (hT gs.size) (hA gs.size) hFin _ _ t ⟨gs, w, sl, 0, false, fun _ => 0, fun i => if i = 0 then T else Tree.num (q i), fun _ => 0, fun _ => undef, q, .kd, 0, mt, fun _ => False, upd (fun _ => LH.nil) 0 (L.without p.W p.C p.D), fun b => b = p.W ∨ b = p.C ∨ b = p.D ∨ S b, 0, 0, rfl, ?_, rfl⟩
 refine { cast := ⟨fun i y h1 h2 _ hy => ⟨hLv.old i y h1 hy, by rw [if_neg (by omega)]⟩, fun k hk => absurd hk (Nat.not_lt_zero _), fun e => (by cases e), fun _ => ⟨g, h0, ?_⟩⟩, size := (by simp), base1 := h0lt, jn := Nat.zero_le _, nn := hn, jm := hjm, kk := fun _ => ⟨rfl, rfl⟩, stages := fun k hk => absurd hk (Nat.not_lt_zero _), above := hLv.above, res := ?_, shW := .inl rfl, shC := .inr (.inl rfl), shD := .inr (.inr (.inl rfl)), sh0 := fun b hb => .inr (.inr (.inr hb)), neC := hne.1, neD := hne.2, lib := fun k hk => absurd hk (Nat.not_lt_zero _), same := hS, wg := hs _ _ _ hW, mode := hmo, ch := ⟨0, ?_⟩, cd := ⟨0, hs _ _ _ hD⟩, mpark := (fun e => absurd e hnp), pk := (fun e => absurd e hnp), rel := fun k hk => absurd hk (Nat.not_lt_zero _), said := fun idx a ha hl _ => ⟨fun _ => ?_, fun e => (by cases e)⟩, acq := (fun e => nomatch e), nr := fun k _ _ hk => absurd hk (Nat.not_lt_zero _), rr := fun k hk => hk.elim, r0 := fun _ _ hk => hk, trc := ?_ }
 ·rw [if_pos rfl, upd_same, hP.hears]
  exact hmt
 ·refine ⟨fun i => ?_, fun i j b o hij hb => ?_, fun i b hb => ?_, fun b hb => ?_, fun i idx a b o wr ha hb hl hw => ?_, hP.seen, hP.clean, fun b hb => ?_, fun idx a b ha hb hA hp i hi => ?_⟩
  ·by_cases e : i = 0
   ·subst e; rw [upd_same]; exact hsub
   ·rw [upd_ne _ _ e]; intro b o wr hb; cases hb
  ·by_cases e : i = 0
   ·subst e; rw [upd_ne _ _ (Ne.symm hij)]; rfl
   ·rw [upd_ne _ _ e] at hb; cases hb
  ·by_cases e : i = 0
   ·subst e
    rw [upd_same]
    unfold LH.without
    split
    ·rfl
    ·rename_i hh
     rcases hb with e | e | e | e
     ·exact absurd (.inl e) hh
     ·exact absurd (.inr (.inl e)) hh
     ·exact absurd (.inr (.inr e)) hh
     ·exact (hSh b e).2
   ·rw [upd_ne _ _ e]; rfl
  ·rcases hb with e | e | e | e
   ·subst e; exact hlt _ (by rw [hW]; simp)
   ·subst e; exact hlt _ (by rw [hC]; simp)
   ·subst e; exact hlt _ (by rw [hD]; simp)
   ·exact (hSh b e).1
  ·by_cases e : i = 0
   ·subst e
    rw [upd_same] at hl
    exact hkn idx a b ha hb (by rw [(hLw b o wr hl).1]; simp)
   ·rw [upd_ne _ _ e] at hl; cases hl
  ·rcases hb with e | e
   ·exact .inl e
   ·exact .inr (.inr (.inl e))
  ·have hi0 : i = 0 := by
    rcases hi with e | e
    ·exact e
    ·simp only at e; omega
   subst hi0
   refine hkn idx a b ha hb ?_
   rcases hA with e | e
   ·simp only at e; subst e; rw [hW]; simp
   ·simp only at e; subst e; rw [hD]; simp
 ·have := hs _ _ _ hC
  simp only [closedAt, Bool.and_false]
  exact this
 ·refine hkn idx a p.W ha (by rw [hl]; rfl) (by rw [hW]; simp)
 ·exact ⟨Nat.le_refl _, fun i a b _ ha hb => hP.known i a b ha hb, fun i g _ hg hne hc => hP.over i g hg hne hc, fun i op hi ho => by have := lt_size_of_getElem? ho; omega, fun i hi ha => by have := lt_of_act? ha; omega, fun i a b hi ha => by
   obtain ⟨x, hx, _⟩ := touch_of ha
   have := lt_size_of_getElem? hx
   omega⟩
end Go.Mz


namespace Go.Mz
open Go.Conc
section
variable {α β : Type} {P : Program} {Q : α → LH → Prop} {H : Value → LH → Prop} {L : LH}
theorem wpS_mono {Q' : α → LH → Prop} {H' : Value → LH → Prop} (hq : ∀ a L, Q a L → Q' a L) (hh : ∀ v L, H v L → H' v L) : ∀ (s : Sem α) (L : LH), wpS P Q H s L → wpS P Q' H' s L := by
 intro s
 induction s with
 | pure a => intro L h; exact hq _ _ h
 | load m a k ih =>
  intro L h; unfold wpS at h ⊢
  cases m with
  | atomic => exact h
  | plain => cases hc : L.cell? a with
   | none => rw [hc] at h; exact h
   | some v => rw [hc] at h; exact ih _ _ h
 | store m a v k ih => intro L h; exact ⟨h.1, ih _ h.2⟩
 | new o k ih => intro L h b hb; exact ih _ _ (h b hb)
 | shape r k ih =>
  intro L h; unfold wpS at h ⊢
  cases hx : L r with
  | none => rw [hx] at h; exact h
  | some x => obtain ⟨o, wr⟩ := x; rw [hx] at h; cases o <;> exact ih _ _ h
 | freeze a n k ih => intro L h; exact h
 | frozen a k ih =>
  intro L h; unfold wpS at h ⊢
  cases hx : L a.block with
  | none => rw [hx] at h; exact h
  | some x => obtain ⟨o, wr⟩ := x; rw [hx] at h; cases o <;> exact ih _ _ h
 | getObj r k ih =>
  intro L h; unfold wpS at h ⊢
  cases hx : L r with
  | none => rw [hx] at h; exact h
  | some x =>
   obtain ⟨o, wr⟩ := x
   rw [hx] at h
   simp only at h ⊢
   split <;> rename_i hs
   ·rw [if_pos hs] at h; exact h
   ·rw [if_neg hs] at h; exact ih _ _ h
 | setObj r o k ih =>
  intro L h; unfold wpS at h ⊢
  cases hx : L r with
  | none => rw [hx] at h; exact h
  | some x =>
   obtain ⟨o', wr⟩ := x
   rw [hx] at h
   cases wr with
   | false => exact h
   | true =>
    simp only at h ⊢
    split <;> rename_i hs
    ·rw [if_pos hs] at h; exact h
    ·rw [if_neg hs] at h; exact ih _ h
 | choose q k ih => intro L h n hn; exact ih _ _ (h n hn)
 | sys c k ih => intro L h; exact h
 | program k ih => intro L h; exact ih _ _ h
 | mark m k ih => intro L h; exact ⟨h.1, ih _ h.2⟩
 | halt hh => intro L h; cases hh <;> first | exact h | exact (‹∀ v L, H v L → H' v L› _ _ h)
theorem wpS_bind' (f : β → Sem α) : ∀ (x : Sem β) (L : LH), wpS P Q H (x.bind f) L ↔ wpS P (fun b L' => wpS P Q H (f b) L') H x L := by
 intro x
 induction x with
 | pure a => intro L; rfl
 | load m a k ih =>
  intro L; simp only [Sem.bind]; unfold wpS
  cases m with
  | atomic => rfl
  | plain => cases hc : L.cell? a with
   | none => rfl
   | some v => exact ih _ _
 | store m a v k ih => intro L; simp only [Sem.bind]; unfold wpS; rw [ih]
 | new o k ih => intro L; simp only [Sem.bind]; unfold wpS; simp only [ih]
 | shape r k ih =>
  intro L; simp only [Sem.bind]; unfold wpS
  cases hx : L r with
  | none => rfl
  | some x => obtain ⟨o, wr⟩ := x; cases o <;> exact ih _ _
 | freeze a n k ih => intro L; rfl
 | frozen a k ih =>
  intro L; simp only [Sem.bind]; unfold wpS
  cases hx : L a.block with
  | none => rfl
  | some x => obtain ⟨o, wr⟩ := x; cases o <;> exact ih _ _
 | getObj r k ih =>
  intro L; simp only [Sem.bind]; unfold wpS
  cases hx : L r with
  | none => rfl
  | some x => obtain ⟨o, wr⟩ := x; simp only [ih]
 | setObj r o k ih =>
  intro L; simp only [Sem.bind]; unfold wpS
  cases hx : L r with
  | none => rfl
  | some x => obtain ⟨o', wr⟩ := x; cases wr <;> simp only [ih]
 | choose q k ih => intro L; simp only [Sem.bind]; unfold wpS; simp only [ih]
 | sys c k ih => intro L; rfl
 | program k ih => intro L; exact ih _ _
 | mark m k ih => intro L; simp only [Sem.bind]; unfold wpS; rw [ih]
 | halt hh => intro L; cases hh <;> rfl
theorem wpS_bind (x : Sem β) (f : β → Sem α) : wpS P Q H (x >>= f) L = wpS P (fun b L' => wpS P Q H (f b) L') H x L := propext (wpS_bind' f x L)
theorem wpS_pure (a : α) : wpS P Q H (pure a) L = Q a L := rfl
theorem wpS_program {Q : Program → LH → Prop} : wpS P Q H program L = Q P L := rfl
end
section
variable {P : Program} {H : Value → LH → Prop} {L : LH}
theorem wpS_underlying {t : TypeId} {d : TypeDesc} (h : P.underlying t = some d) {Q : TypeDesc → LH → Prop} : wpS P Q H (underlying t) L = Q d L := by
 unfold underlying
 rw [wpS_bind, wpS_program]
 simp only [h]
 rfl
theorem wpS_typeInfo {t : TypeId} {i : TypeInfo} (h : P.info? t = some i) {Q : TypeInfo → LH → Prop} : wpS P Q H (typeInfo t) L = Q i L := by
 unfold typeInfo
 rw [wpS_bind, wpS_program]
 simp only [h]
 rfl
theorem wpS_zeroValue {t : TypeId} {z : Value} (h : (P.info? t).bind (·.zero) = some z) {Q : Value → LH → Prop} : wpS P Q H (zeroValue t) L = Q z L := by
 cases hi : P.info? t with
 | none => rw [hi] at h; cases h
 | some i =>
  rw [hi] at h
  simp only [Option.bind_some] at h
  unfold zeroValue
  rw [wpS_bind, wpS_typeInfo hi]
  simp only [h]
  rfl
theorem wpS_sizeOf {t : TypeId} {n : Nat} (h : (P.info? t).map (·.size) = some n) {Q : Nat → LH → Prop} : wpS P Q H (sizeOf t) L = Q n L := by
 cases hi : P.info? t with
 | none => rw [hi] at h; cases h
 | some i =>
  rw [hi] at h
  simp only [Option.map_some, Option.some.injEq] at h
  unfold sizeOf
  rw [wpS_bind, wpS_typeInfo hi, wpS_pure, h]
def aggD : TypeDesc → Bool
 | .struct _ | .array _ _ => true
 | _ => false
def aggB (P : Program) (t : TypeId) : Option Bool := (P.underlying t).map aggD
theorem wpS_isAgg {t : TypeId} {b : Bool} (h : aggB P t = some b) {Q : Bool → LH → Prop} : wpS P Q H (isAgg t) L = Q b L := by
 unfold aggB at h
 cases hu : P.underlying t with
 | none => rw [hu] at h; cases h
 | some d =>
  rw [hu] at h
  simp only [Option.map_some, Option.some.injEq] at h
  unfold isAgg
  rw [wpS_bind, wpS_underlying hu]
  subst h
  cases d <;> rfl
theorem wpS_load {a : Addr} {v : Value} (h : L.cell? a = some v) {Q : Value → LH → Prop} : wpS P Q H (load a) L = Q v L := by
 show wpS P Q H (.load .plain a .pure) L = _
 unfold wpS
 rw [h]
 rfl
def cellsAt (L : LH) (a : Addr) (n : Nat) (vs : List Value) : Prop := vs.length = n ∧ ∀ i v, vs[i]? = some v → L.cell? (a.add i) = some v
theorem wpS_loadCellsFrom {a : Addr} {Q : Array Value → LH → Prop} : ∀ (vs : List Value) (i : Nat) (acc : Array Value), (∀ j v, vs[j]? = some v → L.cell? (a.add (i + j)) = some v) →
  wpS P Q H (loadCellsFrom a i vs.length acc) L = Q (acc ++ vs.toArray) L := by
 intro vs
 induction vs with
 | nil => intro i acc _; simp [loadCellsFrom, wpS_pure]
 | cons v vs ih =>
  intro i acc h
  simp only [List.length_cons, loadCellsFrom]
  have h0 := h 0 v rfl
  rw [Nat.add_zero] at h0
  rw [wpS_bind, wpS_load h0, ih (i + 1) (acc.push v) (fun j u hj => by rw [Nat.add_assoc, Nat.add_comm 1 j]; exact h (j + 1) u hj)]
  congr 1
  simp
theorem wpS_loadCells {a : Addr} {n : Nat} {vs : List Value} (h : cellsAt L a n vs) {Q : Array Value → LH → Prop} : wpS P Q H (loadCells a n) L = Q vs.toArray L := by
 obtain ⟨rfl, h⟩ := h
 unfold loadCells
 rw [wpS_loadCellsFrom vs 0 #[] (fun j v hj => by rw [Nat.zero_add]; exact h j v hj)]
 simp
theorem wpS_loadVar1 {t : TypeId} {a : Addr} {v : Value} (ha : aggB P t = some false) (h : L.cell? a = some v) {Q : Value → LH → Prop} : wpS P Q H (loadVar t a) L = Q v L := by
 unfold loadVar
 rw [wpS_bind, wpS_isAgg ha]
 exact wpS_load h
theorem wpS_loadVarN {t : TypeId} {a : Addr} {n : Nat} {vs : List Value} (ha : aggB P t = some true) (hn : (P.info? t).map (·.size) = some n) (h : cellsAt L a n vs) {Q : Value → LH → Prop} :
  wpS P Q H (loadVar t a) L = Q (.agg vs.toArray) L := by
 unfold loadVar
 rw [wpS_bind, wpS_isAgg ha]
 simp only [if_true]
 rw [wpS_bind, wpS_sizeOf hn, wpS_bind, wpS_loadCells h, wpS_pure]
theorem wpS_newRow {t : TypeId} {c : Array Value} {Q : Addr → LH → Prop} : wpS P Q H (newRow t c) L = ∀ b, L b = none → Q ⟨b, 0, none⟩ (L.put b (.cells c t)) := by
 unfold newRow
 rw [wpS_bind]
 rfl
end
def Le (L L' : LH) : Prop := ∀ b x, L b = some x → L' b = some x
theorem Le.refl (L : LH) : Le L L := fun _ _ h => h
theorem Le.trans {L L₁ L₂ : LH} (h : Le L L₁) (h' : Le L₁ L₂) : Le L L₂ := fun b x hx => h' b x (h b x hx)
theorem Le.put {L : LH} {b : Nat} (h : L b = none) (o : Obj) : Le L (L.put b o) := fun b' x hx => by
 have : b' ≠ b := fun e => by subst e; rw [h] at hx; cases hx
 rw [put_ne _ _ this]; exact hx
theorem Le.cell {L L' : LH} (h : Le L L') {a : Addr} {v : Value} (hc : L.cell? a = some v) : L'.cell? a = some v := by
 unfold LH.cell? at hc ⊢
 cases hx : L a.block with
 | none => rw [hx] at hc; cases hc
 | some x => rw [h _ _ hx, ← hx]; exact hc
theorem Le.cellsAt {L L' : LH} (h : Le L L') {a : Addr} {n : Nat} {vs : List Value} (hc : cellsAt L a n vs) : cellsAt L' a n vs := ⟨hc.1, fun i v hi => h.cell (hc.2 i v hi)⟩
theorem cell_of {L : LH} {b off : Nat} {c : Array Value} {e : TypeId} {fz : Nat × Nat} {wr : Bool} {v : Value} (h : L b = some (.cells c e fz, wr)) (hv : c[off]? = some v) : L.cell? ⟨b, off, none⟩ = some v := by
 unfold LH.cell?
 simp only [h]
 exact hv
structure Upd (T T' : Array Value) (d : Nat) (v : Value) : Prop where
 size : T'.size = T.size
 same : T'.getD d undef = v
 other : ∀ j, (j == d) = false → T'.getD j undef = T.getD j undef
theorem upd_set {T : Array Value} {d : Nat} (v : Value) (h : d < T.size) : Upd T (T.setIfInBounds d v) d v where
 size := by simp
 same := by simp [Array.getD, h]
 other := fun j hj => by
  have hne : j ≠ d := by simpa using hj
  by_cases hlt : j < T.size
  ·simp [Array.getD, hlt, Array.getElem_setIfInBounds, Ne.symm hne]
  ·simp [Array.getD, hlt]
section
variable {P : Program} (X : Logic P)
variable {f : FuncId} {T : Array Value} {k : List Item} {ds : List Deferred} {kd : CallKind} {ro : Option Nat} {cs : List Frame} {L : LH} {ops : Array Oper} {i : Nat} {rest : List Nat}
theorem finish_some {o : Oper} {d : Nat} (ho : ops[i]? = some o) (hd : o.dst = some d) (v : Value) :
  (Fr f T (.inRegion ops (i :: rest) :: k) ds .run kd ro).finish v = Fr f (T.setIfInBounds d v) (.inRegion ops rest :: k) ds .run kd ro := by
 simp [Frame.finish, Fr, ho, hd]
theorem finish_none {o : Oper} (ho : ops[i]? = some o) (hd : o.dst = none) (v : Value) :
  (Fr f T (.inRegion ops (i :: rest) :: k) ds .run kd ro).finish v = Fr f T (.inRegion ops rest :: k) ds .run kd ro := by
 simp [Frame.finish, Fr, ho, hd]
end
end Go.Mz


namespace Go.Mz
open Go.Conc
def Val (P : Program) (op : Op) (ty : TypeId) (T : Array Value) (L : LH) (v : Value) : Prop :=
 ∀ (dst : Option Tmp) (pos : String) (af : Array Edge) (gd : Option (Nat × Bool)) (Q : Next → LH → Prop) (H : Value → LH → Prop), Q (.value v) L → wpS P Q H (execOp (ev T) ⟨dst, op, ty, pos, af, gd⟩) L
def isDefer : Op → Bool
 | .defer _ => true
 | _ => false
section
variable {P : Program} (X : Logic P)
variable {f : FuncId} {T : Array Value} {k : List Item} {ds : List Deferred} {kd : CallKind} {ro : Option Nat} {cs : List Frame} {L : LH} {ops : Array Oper} {i : Nat} {rest : List Nat}
variable {op : Op} {ty : TypeId} {pos : String} {af : Array Edge} {gd : Option (Nat × Bool)} {d : Nat} {v : Value}
end
section
variable {P : Program} {T : Array Value} {L : LH} {ty t t2 : TypeId} {x y c : Operand} {v u : Value} {a b : Int} {k : IntKind}
theorem Val.move (h : ev T x = v) : Val P (.move x) ty T L v := by
 intro dst pos af gd Q H hq; subst h; exact hq
theorem Val.assign (h : ev T x = v) : Val P (.assign x) ty T L v := by
 intro dst pos af gd Q H hq; subst h; exact hq
theorem Val.pickT (hc : ev T c = .bool true) (h : ev T x = v) : Val P (.pick c x y) ty T L v := by
 intro dst pos af gd Q H hq
 simp only [execOp, hc, asBool, wpS_bind, wpS_pure, if_true, h]
 exact hq
theorem Val.pickF (hc : ev T c = .bool false) (h : ev T y = v) : Val P (.pick c x y) ty T L v := by
 intro dst pos af gd Q H hq
 simp only [execOp, hc, asBool, wpS_bind, wpS_pure, Bool.false_eq_true, if_false, h]
 exact hq
def intRes : BinOp → IntKind → Int → Int → Option Value
 | .add, k, a, b => some (.int k (k.wrap (a + b)))
 | .sub, k, a, b => some (.int k (k.wrap (a - b)))
 | .mul, k, a, b => some (.int k (k.wrap (a * b)))
 | .eql, _, a, b => some (.bool (a == b))
 | .neq, _, a, b => some (.bool (a != b))
 | .lss, _, a, b => some (.bool (decide (a < b)))
 | .leq, _, a, b => some (.bool (decide (a ≤ b)))
 | .gtr, _, a, b => some (.bool (decide (b < a)))
 | .geq, _, a, b => some (.bool (decide (b ≤ a)))
 | .and, k, a, b => some (.int k (k.wrap (BitVec.ofInt k.bits a &&& BitVec.ofInt k.bits b).toNat))
 | .or, k, a, b => some (.int k (k.wrap (BitVec.ofInt k.bits a ||| BitVec.ofInt k.bits b).toNat))
 | .xor, k, a, b => some (.int k (k.wrap (BitVec.ofInt k.bits a ^^^ BitVec.ofInt k.bits b).toNat))
 | .quo, k, a, b => if b = 0 then none else some (.int k (k.wrap (a.tdiv b)))
 | .rem, k, a, b => if b = 0 then none else some (.int k (a.tmod b))
 | _, _, _, _ => none
theorem Val.bin {op : BinOp} (hx : ev T x = .int k a) (hy : ev T y = .int k b) (h : intRes op k a b = some v) : Val P (.binOp op t x y t2) ty T L v := by
 intro dst pos af gd Q H hq
 have e : ∀ (Q' : Value → LH → Prop), Q' v L → wpS P Q' H (do eqGuard op t x y (.int k a) (.int k b); binOp op t (.int k a) (.int k b)) L := by
  intro Q' hq'
  rw [wpS_bind]
  have hg : ∀ Q'' : Unit → LH → Prop, wpS P Q'' H (eqGuard op t x y (.int k a) (.int k b)) L = Q'' () L := by
   intro Q''; cases op <;> rfl
  rw [hg]
  cases op <;> simp only [intRes, Option.some.injEq, reduceCtorEq] at h <;> first
   | (subst h; simp only [binOp, ne_eq, not_true_eq_false, if_false, Op.intArith, Op.intCmp, Op.intBits]; exact hq')
   | skip
  all_goals
   split at h
   ·cases h
   ·rename_i hb
    simp only [Option.some.injEq] at h
    subst h
    simp only [binOp, ne_eq, not_true_eq_false, if_false, Op.intDiv, if_neg hb]
    exact hq'
 simp only [execOp, hx, hy]
 rw [wpS_bind]
 exact e _ hq
theorem Val.shl {yk : IntKind} (hx : ev T x = .int k a) (hy : ev T y = .int yk b) (hb : 0 ≤ b) : Val P (.binOp .shl t x y t2) ty T L (.int k (k.wrap (a * 2 ^ min b.toNat k.bits))) := by
 intro dst pos af gd Q H hq
 have hn : ¬ b < 0 := by omega
 simp only [execOp, hx, hy, wpS_bind, eqGuard, binOp, Op.shift, if_neg hn]
 exact hq
theorem Val.shr {yk : IntKind} (hx : ev T x = .int k a) (hy : ev T y = .int yk b) (hb : 0 ≤ b) : Val P (.binOp .shr t x y t2) ty T L (.int k (a.fdiv (2 ^ min b.toNat k.bits))) := by
 intro dst pos af gd Q H hq
 have hn : ¬ b < 0 := by omega
 simp only [execOp, hx, hy, wpS_bind, eqGuard, binOp, Op.shift, if_neg hn]
 exact hq
theorem Val.not {p : Bool} (hx : ev T x = .bool p) : Val P (.unOp .not t x) ty T L (.bool (!p)) := by
 intro dst pos af gd Q H hq
 simp only [execOp, hx, wpS_bind, Op.unary, wpS_pure]
 exact hq
theorem Val.neg (hx : ev T x = .int k a) : Val P (.unOp .neg t x) ty T L (.int k (k.wrap (0 - a))) := by
 intro dst pos af gd Q H hq
 simp only [execOp, hx, wpS_bind, Op.unary, Op.intArith, wpS_pure]
 exact hq
theorem Val.conv {d1 : TypeDesc} {k' : IntKind} (h1 : P.underlying t = some d1) (h2 : P.underlying t2 = some (.int k')) (hx : ev T x = .int k a) : Val P (.convert t t2 x) ty T L (.int k' (k'.wrap a)) := by
 intro dst pos af gd Q H hq
 simp only [execOp, hx]
 rw [wpS_bind]
 unfold convert
 rw [wpS_bind, wpS_underlying h1, wpS_bind, wpS_underlying h2]
 cases d1 <;> exact hq
theorem Val.load1 {ad : Addr} (ht : aggB P t = some false) (hp : ev T x = .pointer (some ad)) (hc : L.cell? ad = some v) : Val P (.load t x) ty T L v := by
 intro dst pos af gd Q H hq
 simp only [execOp, hp]
 rw [wpS_bind]
 unfold Instr.loadAt
 rw [wpS_bind]
 simp only [Instr.sureAddr, wpS_pure]
 rw [wpS_loadVar1 ht hc]
 exact hq
theorem Val.loadN {ad : Addr} {n : Nat} {vs : List Value} (ht : aggB P t = some true) (hn : (P.info? t).map (·.size) = some n) (hp : ev T x = .pointer (some ad)) (hc : cellsAt L ad n vs) : Val P (.load t x) ty T L (.agg vs.toArray) := by
 intro dst pos af gd Q H hq
 simp only [execOp, hp]
 rw [wpS_bind]
 unfold Instr.loadAt
 rw [wpS_bind]
 simp only [Instr.sureAddr, wpS_pure]
 rw [wpS_loadVarN ht hn hc]
 exact hq
theorem wpS_fieldPlace {ad : Addr} {fl : Field} {n : Nat} (hn : (P.info? fl.type).map (·.size) = some n) (h0 : n ≠ 0) {Q : Addr → LH → Prop} {H : Value → LH → Prop} : wpS P Q H (fieldPlace ad fl) L = Q (ad.add fl.offset) L := by
 unfold fieldPlace
 rw [wpS_bind, wpS_sizeOf hn]
 simp only [if_neg h0, wpS_pure]
theorem Val.field {ad ad' : Addr} {fs : Array Field} {fl : Field} {fi n : Nat} (hu : P.underlying t = some (.struct fs)) (hf : fs[fi]? = some fl) (hn : (P.info? fl.type).map (·.size) = some n) (h0 : n ≠ 0) (hp : ev T x = .pointer (some ad)) (ha : ad.add fl.offset = ad') :
  Val P (.fieldAddr t x fi) ty T L (.pointer (some ad')) := by
 intro dst pos af gd Q H hq
 simp only [execOp, hp]
 rw [wpS_bind]
 unfold Instr.fieldAt
 rw [wpS_bind, wpS_underlying hu]
 simp only [hf]
 rw [wpS_bind]
 simp only [Instr.sureAddr, wpS_pure]
 rw [wpS_bind, wpS_fieldPlace hn h0, wpS_pure, ha]
 exact hq
theorem Val.nilCheckP {ad : Addr} (hx : ev T x = .pointer (some ad)) : Val P (.nilCheck x) ty T L (.pointer (some ad)) := by
 intro dst pos af gd Q H hq
 simp only [execOp, hx]
 exact hq
theorem Val.nilCheckF {g : FuncId} {f1 f2 : Array Value} (hx : ev T x = .func (.func g) f1 f2) : Val P (.nilCheck x) ty T L (.func (.func g) f1 f2) := by
 intro dst pos af gd Q H hq
 simp only [execOp, hx]
 exact hq
theorem Val.nilCheckY {l : Nat} {f1 f2 : Array Value} (hx : ev T x = .func (.yield l) f1 f2) : Val P (.nilCheck x) ty T L (.func (.yield l) f1 f2) := by
 intro dst pos af gd Q H hq
 simp only [execOp, hx]
 exact hq
theorem Val.indexSlice {e : TypeId} {ad : Addr} {len cap n i : Nat} (hu : P.underlying t = some (.slice e)) (hn : (P.info? e).map (·.size) = some n) (hx : ev T x = .slice (some ad) len cap) (hy : ev T y = .int k (i : Int)) (hi : i < len) :
  Val P (.indexAddr t x y) ty T L (.pointer (some (ad.add (i * n)))) := by
 intro dst pos af gd Q H hq
 simp only [execOp, hx, hy]
 rw [wpS_bind]
 unfold Instr.indexAt
 simp only [asIntOf, wpS_bind, wpS_pure]
 rw [wpS_underlying hu]
 simp only [wpS_bind, wpS_pure]
 rw [wpS_underlying hu]
 have hlt : (0 : Int) ≤ (i : Int) ∧ (i : Int) < (len : Int) := ⟨by omega, by omega⟩
 simp only [hlt, and_self, if_true]
 rw [wpS_bind, wpS_sizeOf hn, wpS_pure]
 exact hq
theorem Val.indexArr {e : TypeId} {ad : Addr} {len n i : Nat} (hu : P.underlying t = some (.array len e)) (hn : (P.info? e).map (·.size) = some n) (hx : ev T x = .pointer (some ad)) (hy : ev T y = .int k (i : Int)) (hi : i < len) :
  Val P (.indexAddr t x y) ty T L (.pointer (some (ad.add (i * n)))) := by
 intro dst pos af gd Q H hq
 simp only [execOp, hx, hy]
 rw [wpS_bind]
 unfold Instr.indexAt
 simp only [asIntOf, wpS_bind, wpS_pure]
 rw [wpS_underlying hu]
 simp only [Instr.sureAddr, wpS_bind, wpS_pure]
 rw [wpS_underlying hu]
 have hlt : (0 : Int) ≤ (i : Int) ∧ (i : Int) < (len : Int) := ⟨by omega, by omega⟩
 simp only [hlt, and_self, if_true]
 rw [wpS_bind, wpS_sizeOf hn, wpS_pure]
 exact hq
theorem Val.extract {vs : Array Value} {n : Nat} (hx : ev T x = .tuple vs) (h : vs[n]? = some v) : Val P (.extract x n) ty T L v := by
 intro dst pos af gd Q H hq
 simp only [execOp, hx, wpS_bind, Instr.extract, h, wpS_pure]
 exact hq
theorem Val.makeFunc {g : Go.Fn} {f1 f2 : Array Operand} {v1 v2 : Array Value} (h1 : f1.map (ev T) = v1) (h2 : f2.map (ev T) = v2) : Val P (.makeFunc g f1 f2) ty T L (.func g v1 v2) := by
 intro dst pos af gd Q H hq
 simp only [execOp, wpS_bind, Instr.makeFunc, wpS_pure, h1, h2]
 exact hq
theorem Val.makeIface {d1 : TypeDesc} (hu : P.underlying t = some d1) (hn : ∀ ms, d1 ≠ .interface ms) (h : ev T x = v) : Val P (.makeInterface t x) ty T L (.iface t v) := by
 intro dst pos af gd Q H hq
 simp only [execOp, h]
 rw [wpS_bind]
 unfold Instr.makeInterface
 rw [wpS_bind, wpS_underlying hu]
 cases d1 <;> first | exact absurd rfl (hn _) | exact hq
theorem Val.build {fs : Array Field} {parts : Array (Nat × Operand)} {z : Value} {pv : List (Nat × Value)} {pl : Array (Nat × Nat)} {cells : Array Value} (hz : (P.info? t).bind (·.zero) = some z) (hu : P.underlying t = some (.struct fs))
  (hp : (parts.map fun (i, x) => (i, ev T x)).toList = pv) (hpl : ∀ (Q : Array (Nat × Nat) → LH → Prop) (H : Value → LH → Prop), wpS P Q H (fs.mapM fun f => do pure (f.offset, ← sizeOf f.type)) L = Q pl L) (hc : Instr.fill (pl[·]?) z.cells pv = some cells) :
  Val P (.build t parts) ty T L (.agg cells) := by
 intro dst pos af gd Q H hq
 simp only [execOp]
 rw [wpS_bind]
 unfold Instr.build
 rw [wpS_bind, wpS_zeroValue hz, wpS_bind, wpS_underlying hu]
 simp only
 rw [wpS_bind, hpl, hp]
 simp only [hc]
 exact hq
theorem Val.lenSlice {ad : Option Addr} {len cap : Nat} {e t0 : TypeId} (hu : P.underlying t0 = some (.slice e)) (hx : ev T x = .slice ad len cap) : Val P (.call { callee := .builtin .len, args := #[x], argTypes := #[t0] }) ty T L (.int .i64 len) := by
 intro dst pos af gd Q H hq
 simp only [execOp, resolve, List.map_toArray, List.map_cons, List.map_nil, hx, pure, Sem.bind, bind, invoke, builtin, Builtin.len_]
 simp only [List.getElem?_toArray, List.getElem?_cons_zero]
 show wpS P Q H ((_ >>= _) >>= _) L
 rw [wpS_bind, wpS_bind, wpS_underlying hu]
 exact hq
theorem Val.lenArr {n : Nat} {e t0 : TypeId} (hu : P.underlying t0 = some (.array n e)) : Val P (.call { callee := .builtin .len, args := #[x], argTypes := #[t0] }) ty T L (.int .i64 n) := by
 intro dst pos af gd Q H hq
 simp only [execOp, resolve, List.map_toArray, List.map_cons, List.map_nil, pure, Sem.bind, bind, invoke, builtin, Builtin.len_]
 simp only [List.getElem?_toArray, List.getElem?_cons_zero]
 show wpS P Q H ((_ >>= _) >>= _) L
 rw [wpS_bind, wpS_bind, wpS_underlying hu]
 exact hq
theorem Val.min {t0 : Array TypeId} (hx : ev T x = .int k a) (hy : ev T y = .int k b) : Val P (.call { callee := .builtin .min, args := #[x, y], argTypes := t0 }) ty T L (.int k (if b < a then b else a)) := by
 intro dst pos af gd Q H hq
 simp only [execOp, resolve, List.map_toArray, List.map_cons, List.map_nil, hx, hy, pure, Sem.bind, bind, invoke, builtin, Builtin.min_, List.foldlM_cons, List.foldlM_nil, Builtin.min2]
 exact hq
theorem Val.max {t0 : Array TypeId} (hx : ev T x = .int k a) (hy : ev T y = .int k b) : Val P (.call { callee := .builtin .max, args := #[x, y], argTypes := t0 }) ty T L (.int k (if b > a then b else a)) := by
 intro dst pos af gd Q H hq
 simp only [execOp, resolve, List.map_toArray, List.map_cons, List.map_nil, hx, hy, pure, Sem.bind, bind, invoke, builtin, Builtin.max_, List.foldlM_cons, List.foldlM_nil, Builtin.max2]
 exact hq
end
end Go.Mz

