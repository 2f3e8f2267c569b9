/- Lemmas on which the claim leans. -/
import Derived.Test.YtfnjganjlkoehaaGreatDoorMzAl
import Derived.Conc.AtomicLaws2
import Derived.Conc.MarkLaws
namespace Go.Mz
open Go.Conc Go.ConcN
open Go.ConcR (KK wgBlock WgAt stA smA rd wr mk)
abbrev Cx.to {P : Program} (C : Cx P) (Y : Logic P) : Cx P := ⟨Y, C.f, C.kd, C.ro, C.cs, C.L0, C.R0⟩
structure RtX {P : Program} (C : Cx P) (fn : Func) (Q : Logic P → Value → LH → Prop) : Prop where
 fn : P.funcs[C.f]? = some fn
 ro : C.ro = none
 kd : C.kd = .normal ∨ C.kd = .wrapped
 cs : ∃ c cs, C.cs = c :: cs ∧ ∀ Y v R' L', Q Y v L' → Post C.L0 C.R0 L' R' → Y.Go (G (c.finish v) cs) R'
def SpX {P : Program} (X : Logic P) (f : FuncId) (args : List Value) (L : LH) (Q : Logic P → Value → LH → Prop) : Prop :=
 Callable P f ∧ ∀ R, Le L R → ∀ (kd : CallKind) (c : Frame) (cs : List Frame), (kd = .normal ∨ kd = .wrapped) → (∀ Y v R' L', Q Y v L' → Post L R L' R' → Y.Go (G (c.finish v) cs) R') → X.Go (G (Frame.enter P f args.toArray kd) (c :: cs)) R
theorem act_ev (T : Array Value) (ds : List Deferred) : (⟨T, ds⟩ : Act).eval = ev T := funext fun x => by cases x <;> rfl
def bF (f : FuncId) (kd : CallKind) : Frame := { (default : Frame) with fn := f, kind := kd }
theorem at_Fr (f : FuncId) (T : Array Value) (k : List Item) (ds : List Deferred) (kd : CallKind) : Fr f T k ds .run kd none = (bF f kd).at ⟨T, ds⟩ k := rfl
section
variable {P : Program} {n : Nat} {ds : List Deferred} {k : List Item} {E : Env} {B : List (Option Bx)} {L : LH} {ops : Array Oper} {i : Nat} {rest : List Nat}
theorem RtX.to {C : Cx P} {fn : Func} {Q : Logic P → Value → LH → Prop} (r : RtX C fn Q) (Y : Logic P) : RtX (C.to Y) fn Q := ⟨r.fn, r.ro, r.kd, r.cs⟩
theorem SpX.enter {X : Logic P} {f : FuncId} {fn : Func} {body : Code} {args : List Value} {Q : Logic P → Value → LH → Prop} (hf : P.funcs[f]? = some fn) (hb : fn.body = some body) (hn : (fn.name == "runtime.NumGoroutine") = false) (hz : fn.ntmps = n) (hle : Nat.ble args.length n = true)
  (h : ∀ C : Cx P, C.X = X → C.f = f → C.L0 = L → RtX C fn Q → W C n [] [.code body] (argEnv 0 args) [] L) : SpX X f args L Q := by
 refine ⟨⟨fn, hf, hn, by rw [hb]; rfl⟩, fun R hR kd c cs hk h1 => ?_⟩
 rw [enter_Fr hf hb]
 have hsz : (args.toArray ++ Array.replicate (fn.ntmps - args.toArray.size) undef : Array Value).size = n := by
  have := Nat.le_of_ble_eq_true hle
  simp; omega
 refine h ⟨X, f, kd, none, c :: cs, L, R⟩ rfl rfl rfl ⟨hf, rfl, hk, c, cs, rfl, fun Y v R' L' hq hp => h1 Y v R' L' hq hp⟩ _ R nm0 hsz ?_ ⟨(fun _ _ _ h => by cases h), (fun _ _ h => by cases h), (fun _ _ h => by cases h), (fun k b x hk => by cases hk), hR, fun b x _ h => h, fun b hb => .inl hb, fun b hb => hb⟩
 intro s x hx
 obtain ⟨_, v, h3, rfl⟩ := argEnv_get hx
 have hs : args[s]? = some v := by simpa using h3
 have hlt : s < args.length := by
  rcases Nat.lt_or_ge s args.length with h | h
  ·exact h
  ·rw [List.getElem?_eq_none h] at hs; cases hs
 rw [den]
 congr 1
 rw [Array.getD_eq_getD_getElem?, Array.getElem?_append_left (by simpa using hlt), List.getElem?_toArray, hs]; rfl
theorem HeapOk.all (R : LH) : HeapOk R R nm0 [] R R :=
 ⟨(fun _ _ _ h => by cases h), (fun _ _ h => by cases h), (fun _ _ h => by cases h), (fun k b x hk => by cases hk), Le.refl _, (fun b x h1 h2 => absurd (h1.symm.trans h2) (by simp)), fun b hb => .inl hb, fun b hb => hb⟩
theorem W.start {X : Logic P} {f : FuncId} {fn : Func} {body : Code} {args : List Value} {kd : CallKind} {cs : List Frame} {R : LH} (hf : P.funcs[f]? = some fn) (hb : fn.body = some body) (hz : fn.ntmps = n) (hle : Nat.ble args.length n = true)
  (w : W ⟨X, f, kd, none, cs, R, R⟩ n [] [.code body] (argEnv 0 args) [] R) : X.Go (G (Frame.enter P f args.toArray kd) cs) R := by
 rw [enter_Fr hf hb]
 have hsz : (args.toArray ++ Array.replicate (fn.ntmps - args.toArray.size) undef : Array Value).size = n := by
  have := Nat.le_of_ble_eq_true hle
  simp; omega
 refine w _ R nm0 hsz ?_ (HeapOk.all R)
 intro s x hx
 obtain ⟨_, v, h3, rfl⟩ := argEnv_get hx
 have hs : args[s]? = some v := by simpa using h3
 have hlt : s < args.length := by
  rcases Nat.lt_or_ge s args.length with h | h
  ·exact h
  ·rw [List.getElem?_eq_none h] at hs; cases hs
 rw [den]
 congr 1
 rw [Array.getD_eq_getD_getElem?, Array.getElem?_append_left (by simpa using hlt), List.getElem?_toArray, hs]; rfl
variable {C : Cx P}
theorem W.behind {Y : Logic P} {o : Oper} {d : Option Nat} {T : Array Value} {R : LH} {β : Nm} {v : Value} (ho : nth ops.toList i = some o) (hd : o.dst = d) (hz : (d.all fun d => Nat.blt d n) = true) (hT : T.size = n) (hE : EnvOk β (get E) T) (hH : HeapOk C.L0 C.R0 β B L R)
  (w : W (C.to Y) n ds (.inRegion ops rest :: k) ((d.toList.map fun d => (d, SV.v v)) ++ E) B L) : Y.Go (G ((Fr C.f T (.inRegion ops (i :: rest) :: k) ds .run C.kd C.ro).finish v) C.cs) R := by
 cases d with
 | none => exact W.fin_none (C := C.to Y) ho hd hT hE hH w
 | some d => exact W.fin_some (C := C.to Y) (sv := .v v) ho hd (lt_of_blt hz) hT hE hH rfl w
theorem W.callX {d : Option Nat} {g : FuncId} {args : List Value} {xs : Array Operand} {ts : Array TypeId} {ty : TypeId} {pos : String} {af : Array Edge} {gd : Option (Nat × Bool)} {Q : Logic P → Value → LH → Prop} (ho : nth ops.toList i = some ⟨d, .call { callee := .value (.func g), args := xs, argTypes := ts }, ty, pos, af, gd⟩) (hg : guardOk (get E) ops.toList gd = some true) (hz : (d.all fun d => Nat.blt d n) = true)
  (ha : denA (get E) xs.toList = some args) (hs : SpX C.X g args L Q) (w : ∀ Y v L', Q Y v L' → W (C.to Y) n ds (.inRegion ops rest :: k) ((d.toList.map fun d => (d, SV.v v)) ++ E) B L') : W C n ds (.inRegion ops (i :: rest) :: k) E B L := by
 refine W.oper ho hg rfl fun T R β hT hE hH => ?_
 have hx : xs.map (ev T) = args.toArray := by rw [← denA_ok hE ha, ← List.map_toArray]
 obtain ⟨⟨fn, h1, h2, h3⟩, hf⟩ := hs
 refine Cal.func h1 h2 h3 hx _ _ _ _ _ _ (hf R hH.le .normal _ _ (.inl rfl) fun Y v R' L' hq hp => ?_)
 exact W.behind (C := C) ho rfl hz hT hE (hH.call hp) (w Y v L' hq)
theorem W.retX [S : Seat P] {fn : Func} {Q : Logic P → Value → LH → Prop} {svs : List SV} {vs : List Value} (r : RtX C fn Q) (hk : k = [] ∨ ∃ k', k = .code .ret :: k') (hs : resS S.τ (get E) B fn.results.toList = some svs) (hv : denL nm0 svs = some vs) (hq : Q C.X (retV vs) L) : W C n [] k E B L := by
 obtain ⟨hf, hro, hkd, c, cs, hcs, h1⟩ := r
 exact W.retT (H := fun _ _ => False) (Q := fun v L' => Q C.X v L') S.ok ⟨hf, hro, hkd, c, cs, hcs, fun v R' L' hq hp => h1 _ v R' L' hq hp, fun _ _ _ (h : False) _ => h.elim⟩ hk hs hv hq
theorem W.deferF {g : FuncId} {args : List Value} {xs : Array Operand} {ts : Array TypeId} {ty : TypeId} {pos : String} {af : Array Edge} {gd : Option (Nat × Bool)} (hro : C.ro = none) (ho : nth ops.toList i = some ⟨none, .defer { callee := .value (.func g), args := xs, argTypes := ts }, ty, pos, af, gd⟩) (hg : guardOk (get E) ops.toList gd = some true) (ha : denA (get E) xs.toList = some args)
  (w : W C n (dcall g args.toArray :: ds) (.inRegion ops rest :: k) E B L) : W C n ds (.inRegion ops (i :: rest) :: k) E B L := by
 intro T R β hT hE hH
 have ho' := ho
 rw [nth_eq, Array.getElem?_toList] at ho
 refine C.X.op ho (guardOk_wanted hE hg) (.inl hro) ?_
 have hx : xs.map (ev T) = args.toArray := by rw [← denA_ok hE ha, ← List.map_toArray]
 simp only [execOp, resolve, ev, Deferred.ofValue, wpS_bind, wpS_pure, nextOut, hx, Array.empty_append]
 exact W.fin_none (ds := dcall g args.toArray :: ds) ho' rfl hT hE hH w
theorem W.inLoopI {c : Code} (w : W C n ds (.code c :: .inLoop c :: k) E B L) : W C n ds (.inLoop c :: k) E B L := fun T R β hT hE hH => C.X.inLoop (w T R β hT hE hH)
theorem W.loopI {c : Code} (w : W C n ds (.code c :: .inLoop c :: k) E B L) : W C n ds (.code (.loop c) :: k) E B L := fun T R β hT hE hH => C.X.loop (w T R β hT hE hH)
theorem EnvOk.sub0 {β : Nm} {E E' : Env} {T : Array Value} (h : EnvOk β (get E) T) (hs : SubE E E') (h0 : scE 0 E' = true) : EnvOk nm0 (get E') T := fun s x hx => by
 have h1 := sc_den (scE_get h0 s x hx) (h s x (hs.get s x hx))
 exact den_mono (fun k b hk => absurd (Nm.upto_some hk).1 (Nat.not_lt_zero _)) h1
theorem EnvOk.sub00 {β : Nm} {E : Env} {T : Array Value} (h : EnvOk β (get E) T) (h0 : scE 0 E = true) : EnvOk nm0 (get E) T := fun s x hx => by
 have h1 := sc_den (scE_get h0 s x hx) (h s x hx)
 exact den_mono (fun k b hk => absurd (Nm.upto_some hk).1 (Nat.not_lt_zero _)) h1
theorem W.spawnO {mn : Bool} {Φ : World → Prop} {S1 : Goroutine → LH → Prop} {x : Operand} {sv : SV} {g : FuncId} {f1 f2 : Array Value} {ts : Array TypeId} {ty : TypeId} {pos : String} {af : Array Edge} {gd : Option (Nat × Bool)} (hX : C.X = LWay P mn Φ S1) (hro : C.ro = none) (hkd : C.kd ≠ .early) (ho : nth ops.toList i = some ⟨none, .go { callee := .value x, args := #[], argTypes := ts }, ty, pos, af, gd⟩) (hg : guardOk (get E) ops.toList gd = some true) (hx : evS (get E) x = some sv) (hv : den nm0 sv = some (.func (.func g) f1 f2)) (h0 : scE 0 E = true)
  (h : ∀ (R : LH) (g0 g' : Goroutine), g0.status = .running → (∀ w, stepG P mn g0 w = .spawn g' (Go.Conc.born P ⟨.fn (.func g) f2, f1⟩) w #[]) → Le L R → (∀ (Y : Logic P) (Lm : LH), W ⟨Y, C.f, C.kd, none, C.cs, Lm, Lm⟩ n ds (.inRegion ops rest :: k) E [] Lm → Y.Go g' Lm) → S1 g0 R) : W C n ds (.inRegion ops (i :: rest) :: k) E B L := by
 intro T R β hT hE hH
 have ho' := ho
 rw [nth_eq, Array.getElem?_toList] at ho'
 have ex : (⟨T, ds⟩ : Act).eval x = .func (.func g) f1 f2 := (congrFun (act_ev T ds) x).trans (Option.some.inj ((hE.val hx).symm.trans (den_nil hv β)))
 rw [hX, hro]
 refine Way.stop (h R _ (G (Fr C.f T (.inRegion ops rest :: k) ds .run C.kd none) C.cs) rfl (fun w => ?_) hH.le fun Y Lm w => ?_)
 ·have e1 : execOp (⟨T, ds⟩ : Act).eval ⟨none, .go { callee := .value x, args := #[], argTypes := ts }, ty, pos, af, gd⟩ = pure (.spawn ⟨.fn (.func g) f2, f1⟩) := by
   simp only [execOp, resolve, ex, Deferred.ofValue, Array.map_empty, Array.append_empty]; rfl
  rw [at_Fr]
  refine (stepG_spawn (w' := w) (d := ⟨.fn (.func g) f2, f1⟩) ho' (guardOk_wanted hE hg) hkd (by rw [e1]; rfl) rfl).trans ?_
  have : listed P (bF C.f C.kd).fn ⟨T, ds⟩ ⟨none, .go { callee := .value x, args := #[], argTypes := ts }, ty, pos, af, gd⟩ w = #[] := by
   unfold listed; rw [e1]; rfl
  rw [this]; rfl
 ·exact w T Lm nm0 hT (hE.sub00 h0) (HeapOk.all Lm)
variable {mn : Bool} {Φ : World → Prop} {S1 S2 : Goroutine → LH → Prop}
theorem W.stop (hX : C.X = LWay P mn Φ S1) (h : ∀ (T : Array Value) (R : LH) (β : Nm), T.size = n → EnvOk β (get E) T → HeapOk C.L0 C.R0 β B L R → S1 (G (Fr C.f T k ds .run C.kd C.ro) C.cs) R) : W C n ds k E B L := by
 intro T R β hT hE hH
 rw [hX]
 exact Way.stop (h T R β hT hE hH)
section
variable {f : FuncId} {kd : CallKind} {cs : List Frame} {T : Array Value} {o : Oper}
theorem fin_at (f : FuncId) (T : Array Value) (ops : Array Oper) (i : Nat) (rest : List Nat) (k : List Item) (ds : List Deferred) (kd : CallKind) (v : Value) :
  (Fr f T (.inRegion ops (i :: rest) :: k) ds .run kd none).finish v = (bF f kd).at ((⟨T, ds⟩ : Act).put ((ops[i]?).bind (·.dst)) v) (.inRegion ops rest :: k) := by
 rw [at_Fr, Frame.finish_at]
end
theorem W.mark0 {d : Option Nat} {g : FuncId} {fn : Func} {xs : Array Operand} {ts : Array TypeId} {ty : TypeId} {pos : String} {af : Array Edge} {gd : Option (Nat × Bool)} (m : Mark) (hm : ∀ g, m ≠ .extern g) (hf : P.funcs[g]? = some fn) (hname : (fn.name == "runtime.NumGoroutine") = false) (hb : fn.body.isNone = true) (hn : Extern.findNext fn = none)
  (he : Extern.find fn = some (fun _ => do mark m; pure Extern.Race.none_)) (hX : C.X = LWay P mn Φ S1) (hro : C.ro = none) (hkd : C.kd ≠ .early)
  (hst : ∀ g g' L, g.status = .running → (∀ w, stepG P mn g w = .go g' w #[mk m]) → Way P mn Φ S2 g' L → S1 g L)
  (ho : nth ops.toList i = some ⟨d, .call { callee := .value (.func g), args := xs, argTypes := ts }, ty, pos, af, gd⟩) (hg : guardOk (get E) ops.toList gd = some true) (hz : (d.all fun d => Nat.blt d n) = true)
  (w : W (C.to (LWay P mn Φ S2)) n ds (.inRegion ops rest :: k) ((d.toList.map fun d => (d, SV.v (.tuple #[]))) ++ E) B L) : W C n ds (.inRegion ops (i :: rest) :: k) E B L := by
 refine W.stop hX fun T R β hT hE hH => ?_
 have ho' := ho
 rw [nth_eq, Array.getElem?_toList] at ho'
 refine hst _ _ _ rfl (fun w' => ?_) (W.behind (C := C) (Y := LWay P mn Φ S2) ho rfl hz hT hE hH w)
 rw [hro, fin_at, at_Fr]
 rw [show (ops[i]?).bind (·.dst) = d by rw [ho']; rfl]
 exact stepG_mark0 m hm ho' (guardOk_wanted hE hg) hkd rfl hf hname hb hn he
theorem W.markA {d : Option Nat} {g : FuncId} {fn : Func} {x : Operand} {ts : Array TypeId} {ty : TypeId} {pos : String} {af : Array Edge} {gd : Option (Nat × Bool)} {ad : Addr} (m : Addr → Mark) (hm : ∀ a g, m a ≠ .extern g) (hf : P.funcs[g]? = some fn) (hname : (fn.name == "runtime.NumGoroutine") = false) (hb : fn.body.isNone = true) (hn : Extern.findNext fn = none)
  (he : Extern.find fn = some (Extern.Race.marked m)) (hX : C.X = LWay P mn Φ S1) (hro : C.ro = none) (hkd : C.kd ≠ .early)
  (hst : ∀ g g' L, g.status = .running → (∀ w, stepG P mn g w = .go g' w #[mk (m ad)]) → Way P mn Φ S2 g' L → S1 g L)
  (ho : nth ops.toList i = some ⟨d, .call { callee := .value (.func g), args := #[x], argTypes := ts }, ty, pos, af, gd⟩) (hg : guardOk (get E) ops.toList gd = some true) (hz : (d.all fun d => Nat.blt d n) = true) (hx : evS (get E) x = some (.v (.pointer (some ad))))
  (w : W (C.to (LWay P mn Φ S2)) n ds (.inRegion ops rest :: k) ((d.toList.map fun d => (d, SV.v (.tuple #[]))) ++ E) B L) : W C n ds (.inRegion ops (i :: rest) :: k) E B L := by
 refine W.stop hX fun T R β hT hE hH => ?_
 have ho' := ho
 rw [nth_eq, Array.getElem?_toList] at ho'
 have ex : ev T x = .pointer (some ad) := (Option.some.inj (hE.val hx)).symm
 refine hst _ _ _ rfl (fun w' => ?_) (W.behind (C := C) (Y := LWay P mn Φ S2) ho rfl hz hT hE hH w)
 rw [hro, fin_at, at_Fr]
 rw [show (ops[i]?).bind (·.dst) = d by rw [ho']; rfl]
 exact stepG_markAt m hm ho' (guardOk_wanted hE hg) hkd rfl hf hname hb hn he (ad := ad) (by simp [act_ev, ex])
theorem W.stepΦ {d : Nat} {o : Oper} {v : Value} (hX : C.X = LWay P mn Φ S1) (hro : C.ro = none) (hkd : C.kd ≠ .early) (ho : nth ops.toList i = some o) (hd : o.dst = some d) (hz : Nat.blt d n = true) (hg : guardOk (get E) ops.toList o.guard = some true) (hdf : isDefer o.op = false)
  (hr : ∀ (T : Array Value) (w : World), (∀ x sv u, evS (get E) x = some sv → den nm0 sv = some u → ev T x = u) → Φ w → (execOp (ev T) o).run P w = .ok (.value v) w ∧ (execOp (ev T) o).events P w #[] = #[])
  (w : W C n ds (.inRegion ops rest :: k) ((d, .v v) :: E) B L) : W C n ds (.inRegion ops (i :: rest) :: k) E B L := by
 intro T R β hT hE hH
 have ho' := ho
 rw [nth_eq, Array.getElem?_toList] at ho'
 have h1 : ∀ x sv u, evS (get E) x = some sv → den nm0 sv = some u → ev T x = u := fun x sv u hx hu => Option.some.inj ((hE.val hx).symm.trans (den_nil hu β))
 rw [hX]
 refine Way.stepΦ _ _ rfl fun w' hw => ⟨(G ((Fr C.f T (.inRegion ops (i :: rest) :: k) ds .run C.kd C.ro).finish v) C.cs), w', #[], R, ?_, Tr.refl hw.1, ?_⟩
 ·obtain ⟨hrun, hev⟩ := hr T w' h1 hw.2
  rw [hro, at_Fr, stepG_oper ho' (guardOk_wanted hE hg), act_ev]
  have hk' : ((bF C.f C.kd).kind == CallKind.early) = false := by simpa [bF] using hkd
  simp [stepG.apply, hrun, hev, G, GStep.after, seen, hk', Frame.at, Fr, bF]
 ·have := W.fin_some (C := C) (sv := .v v) ho hd (lt_of_blt hz) hT hE hH rfl w
  rw [hX] at this
  exact this
theorem W.convU {d : Nat} {src dst t : TypeId} {x : Operand} {ty : TypeId} {pos : String} {af : Array Edge} {gd : Option (Nat × Bool)} {ad : Addr} (hX : C.X = LWay P mn Φ S1) (hro : C.ro = none) (hkd : C.kd ≠ .early) (hs : P.underlying src = some (.pointer t)) (hd : P.underlying dst = some .unsafePointer) (hsz : (P.info? t).map (fun i => decide (i.size = 0)) = some false) (hc : ∀ w, Φ w → ∃ v, w.cell? ad = some v)
  (ho : nth ops.toList i = some ⟨some d, .convert src dst x, ty, pos, af, gd⟩) (hz : Nat.blt d n = true) (hg : guardOk (get E) ops.toList gd = some true) (hx : evS (get E) x = some (.v (.pointer (some ad))))
  (w : W C n ds (.inRegion ops rest :: k) ((d, .v (.pointer (some ad))) :: E) B L) : W C n ds (.inRegion ops (i :: rest) :: k) E B L := by
 refine W.stepΦ hX hro hkd ho rfl hz hg rfl (fun T w' h1 h2 => ?_) w
 obtain ⟨u, hu⟩ := hc w' h2
 have ex := h1 x _ _ hx rfl
 have e1 := run_convert_to_unsafe (P := P) hs hd hsz hu
 have e2 := events_convert_to_unsafe (P := P) (w := w') hs hd hsz hu #[]
 simp only [execOp, ex]
 simp [go_sem, e1, e2]
theorem W.atom {d : Nat} {o : Oper} (hX : C.X = LWay P mn Φ S1) (hro : C.ro = none) (ho : nth ops.toList i = some o) (hd : o.dst = some d) (hz : Nat.blt d n = true) (hg : guardOk (get E) ops.toList o.guard = some true)
  (h : ∀ (T : Array Value) (R : LH) (g : Goroutine) (fin : Value → Goroutine), (∀ x sv u, evS (get E) x = some sv → den nm0 sv = some u → (⟨T, ds⟩ : Act).eval x = u) → Region.wanted o (yielded ops (⟨T, ds⟩ : Act).tmps) = true → ops[i]? = some o →
   g = G ((bF C.f C.kd).at ⟨T, ds⟩ (.inRegion ops (i :: rest) :: k)) C.cs → (∀ v, fin v = G ((bF C.f C.kd).at ((⟨T, ds⟩ : Act).put o.dst v) (.inRegion ops rest :: k)) C.cs) → g.status = .running →
   (∀ (Y : Logic P) v, W (C.to Y) n ds (.inRegion ops rest :: k) ((d, .v v) :: E) B L → Y.Go (fin v) R) → S1 g R) : W C n ds (.inRegion ops (i :: rest) :: k) E B L := by
 refine W.stop hX fun T R β hT hE hH => ?_
 have ho' := ho
 rw [nth_eq, Array.getElem?_toList] at ho'
 rw [hro]
 refine h T R _ (fun v => G ((Fr C.f T (.inRegion ops (i :: rest) :: k) ds .run C.kd C.ro).finish v) C.cs) (fun x sv u hx hu => (congrFun (act_ev T ds) x).trans (Option.some.inj ((hE.val hx).symm.trans (den_nil hu β)))) (guardOk_wanted hE hg) ho' rfl (fun v => ?_) rfl
  fun Y v w => W.fin_some (C := C.to Y) (sv := .v v) ho hd (lt_of_blt hz) hT hE hH rfl w
 rw [hro, fin_at, ho']; rfl
theorem W.commO {d : Option Nat} {o : Oper} (hX : C.X = LWay P mn Φ S1) (hro : C.ro = none) (ho : nth ops.toList i = some o) (hd : o.dst = d) (hz : (d.all fun d => Nat.blt d n) = true) (hg : guardOk (get E) ops.toList o.guard = some true)
  (h : ∀ (T : Array Value) (R : LH) (g : Goroutine), (∀ x sv u, evS (get E) x = some sv → den nm0 sv = some u → (⟨T, ds⟩ : Act).eval x = u) → Region.wanted o (yielded ops (⟨T, ds⟩ : Act).tmps) = true → ops[i]? = some o →
   g = G ((bF C.f C.kd).at ⟨T, ds⟩ (.inRegion ops (i :: rest) :: k)) C.cs → g.status = .running → g.offers = none → Le L R →
   (∀ (Y : Logic P) v, W (C.to Y) n ds (.inRegion ops rest :: k) ((d.toList.map fun d => (d, SV.v v)) ++ E) B L → Y.Go (Go.Conc.served g v) R) → S1 g R) : W C n ds (.inRegion ops (i :: rest) :: k) E B L := by
 refine W.stop hX fun T R β hT hE hH => ?_
 have ho' := ho
 rw [nth_eq, Array.getElem?_toList] at ho'
 rw [hro]
 refine h T R _ (fun x sv u hx hu => (congrFun (act_ev T ds) x).trans (Option.some.inj ((hE.val hx).symm.trans (den_nil hu β)))) (guardOk_wanted hE hg) ho' rfl rfl rfl hH.le
  fun Y v w => ?_
 have := W.behind (C := C) (Y := Y) (v := v) ho hd hz hT hE hH w
 rw [hro] at this
 exact this
theorem WM.mark0 {g : FuncId} {fn : Func} {args : Array Value} (m : Mark) (hm : ∀ g, m ≠ .extern g) (hf : P.funcs[g]? = some fn) (hname : (fn.name == "runtime.NumGoroutine") = false) (hb : fn.body.isNone = true) (hn : Extern.findNext fn = none)
  (he : Extern.find fn = some (fun _ => do mark m; pure Extern.Race.none_)) (hX : C.X = LWay P mn Φ S1) (hro : C.ro = none)
  (hst : ∀ g g' L, g.status = .running → (∀ w, stepG P mn g w = .go g' w #[mk m]) → Way P mn Φ S2 g' L → S1 g L)
  (w : WM (C.to (LWay P mn Φ S2)) n ds .returning E B L) : WM C n (dcall g args :: ds) .returning E B L := by
 intro T R β k hT hE hH
 rw [hX]
 refine Way.stop (hst _ _ _ rfl (fun w' => ?_) (w T R β k hT hE hH))
 rw [hro]
 have := stepG_unwind_entry (P := P) (main := mn) (b := bF C.f C.kd) (a := ⟨T, dcall g args :: ds⟩) (todo := k) (cs := C.cs) (w := w') (w' := w') (v := .tuple #[]) (evs := #[mk m]) rfl hf hname hb hn he (by simp [Extern.Race.none_]) (by simp [Go.ConcR.mk]) (by simp [Go.ConcR.mk]; intro g; exact hm g)
 exact this
theorem WM.retX [S : Seat P] {fn : Func} {Q : Logic P → Value → LH → Prop} {svs : List SV} {vs : List Value} (r : RtX C fn Q) (hs : resS S.τ (get E) B fn.results.toList = some svs) (hv : denL nm0 svs = some vs) (hq : Q C.X (retV vs) L) : WM C n [] .returning E B L := by
 obtain ⟨hf, hro, hkd, c, cs, hcs, h1⟩ := r
 exact WM.ret (H := fun _ _ => False) (Q := fun v L' => Q C.X v L') ⟨hf, hro, hkd, c, cs, hcs, fun v R' L' hq hp => h1 _ v R' L' hq hp, fun _ _ _ (h : False) _ => h.elim⟩ hs hv hq
end
end Go.Mz

