/- Lemmas on which the claim leans. -/
import Derived.Test.YtjhpkghkgaekcaaGreatDoorMzAm
import Derived.Conc.AtomicLaws2
import Derived.Conc.MarkLaws
namespace Go.Mz
open Go.Conc Go.ConcN
open Go.ConcR (KK wgBlock WgAt stA smA rd wr mk)
structure RtX {P : Program} (C : Cx P) (fn : Func) (Q : Logic P → Value → LH → Prop) : Prop where
 fn : P.funcs[C.f]? = some fn
 ro : C.ro = none
 kd : C.kd = .normal ∨ C.kd = .wrapped
 cs : ∃ c cs, C.cs = c :: cs ∧ ∀ Y v R' L', Q Y v L' → Post C.L0 C.R0 L' R' → Y.Go (G (c.finish v) cs) R'
def SpX {P : Program} (X : Logic P) (f : FuncId) (args : List Value) (L : LH) (Q : Logic P → Value → LH → Prop) : Prop :=
 Callable P f ∧ ∀ R, Le L R → ∀ (kd : CallKind) (c : Frame) (cs : List Frame), (kd = .normal ∨ kd = .wrapped) → (∀ Y v R' L', Q Y v L' → Post L R L' R' → Y.Go (G (c.finish v) cs) R') → X.Go (G (Frame.enter P f args.toArray kd) (c :: cs)) R
section
variable {P : Program} {n : Nat} {ds : List Deferred} {k : List Item} {E : Env} {B : List (Option Bx)} {L : LH} {ops : Array Oper} {i : Nat} {rest : List Nat}
theorem SpX.enter {X : Logic P} {f : FuncId} {fn : Func} {body : Code} {args : List Value} {Q : Logic P → Value → LH → Prop} (hf : P.funcs[f]? = some fn) (hb : fn.body = some body) (hn : (fn.name == "runtime.NumGoroutine") = false) (hz : fn.ntmps = n) (hle : Nat.ble args.length n = true)
  (h : ∀ C : Cx P, C.X = X → C.f = f → C.L0 = L → RtX C fn Q → W C n [] [.code body] (argEnv 0 args) [] L) : SpX X f args L Q := by
 refine ⟨⟨fn, hf, hn, by rw [hb]; rfl⟩, fun R hR kd c cs hk h1 => ?_⟩
 rw [enter_Fr hf hb]
 have hsz : (args.toArray ++ Array.replicate (fn.ntmps - args.toArray.size) undef : Array Value).size = n := by
  have := Nat.le_of_ble_eq_true hle
  simp; omega
 refine h ⟨X, f, kd, none, c :: cs, L, R⟩ rfl rfl rfl ⟨hf, rfl, hk, c, cs, rfl, fun Y v R' L' hq hp => h1 Y v R' L' hq hp⟩ _ R nm0 hsz ?_ ⟨(fun _ _ _ h => by cases h), (fun _ _ h => by cases h), (fun _ _ h => by cases h), (fun k b x hk => by cases hk), hR, fun b x _ h => h, fun b hb => .inl hb, fun b hb => hb⟩
 intro s x hx
 obtain ⟨_, v, h3, rfl⟩ := argEnv_get hx
 have hs : args[s]? = some v := by simpa using h3
 have hlt : s < args.length := by
  rcases Nat.lt_or_ge s args.length with h | h
  ·exact h
  ·rw [List.getElem?_eq_none h] at hs; cases hs
 rw [den]
 congr 1
 rw [Array.getD_eq_getD_getElem?, Array.getElem?_append_left (by simpa using hlt), List.getElem?_toArray, hs]; rfl
theorem HeapOk.all (R : LH) : HeapOk R R nm0 [] R R :=
 ⟨(fun _ _ _ h => by cases h), (fun _ _ h => by cases h), (fun _ _ h => by cases h), (fun k b x hk => by cases hk), Le.refl _, (fun b x h1 h2 => absurd (h1.symm.trans h2) (by simp)), fun b hb => .inl hb, fun b hb => hb⟩
theorem W.start {X : Logic P} {f : FuncId} {fn : Func} {body : Code} {args : List Value} {kd : CallKind} {cs : List Frame} {R : LH} (hf : P.funcs[f]? = some fn) (hb : fn.body = some body) (hz : fn.ntmps = n) (hle : Nat.ble args.length n = true)
  (w : W ⟨X, f, kd, none, cs, R, R⟩ n [] [.code body] (argEnv 0 args) [] R) : X.Go (G (Frame.enter P f args.toArray kd) cs) R := by
 rw [enter_Fr hf hb]
 have hsz : (args.toArray ++ Array.replicate (fn.ntmps - args.toArray.size) undef : Array Value).size = n := by
  have := Nat.le_of_ble_eq_true hle
  simp; omega
 refine w _ R nm0 hsz ?_ (HeapOk.all R)
 intro s x hx
 obtain ⟨_, v, h3, rfl⟩ := argEnv_get hx
 have hs : args[s]? = some v := by simpa using h3
 have hlt : s < args.length := by
  rcases Nat.lt_or_ge s args.length with h | h
  ·exact h
  ·rw [List.getElem?_eq_none h] at hs; cases hs
 rw [den]
 congr 1
 rw [Array.getD_eq_getD_getElem?, Array.getElem?_append_left (by simpa using hlt), List.getElem?_toArray, hs]; rfl
variable {C : Cx P}
theorem W.inLoopI {c : Code} (w : W C n ds (.code c :: .inLoop c :: k) E B L) : W C n ds (.inLoop c :: k) E B L := fun T R β hT hE hH => C.X.inLoop (w T R β hT hE hH)
theorem W.loopI {c : Code} (w : W C n ds (.code c :: .inLoop c :: k) E B L) : W C n ds (.code (.loop c) :: k) E B L := fun T R β hT hE hH => C.X.loop (w T R β hT hE hH)
variable {mn : Bool} {Φ : World → Prop} {S1 S2 : Goroutine → LH → Prop}
section
variable {f : FuncId} {kd : CallKind} {cs : List Frame} {T : Array Value} {o : Oper}
end
end
end Go.Mz


set_option maxRecDepth 100000
namespace Go.Mz
open Go.Conc Go.ConcN
section
variable {P : Program} {n : Nat} {k : List Item} {E : Env} {B : List (Option Bx)} {L : LH}
structure RtO (C : Cx P) (fn : Func) (s : Nat) (Q : Value → LH → Prop) : Prop where
 ro : C.ro = none
 go : ∀ (T : Array Value) (k : List Item) (v : Value) (R L' : LH), T.getD s undef = v → Q v L' → Post C.L0 C.R0 L' R → C.X.Go (G (Fr C.f T k [] .returning C.kd none) C.cs) R
theorem W.retO {C : Cx P} {fn : Func} {s : Nat} {Q : Value → LH → Prop} {v : Value} (r : RtO C fn s Q) (hs : get E s = some (.v v)) (hq : Q v L) : W C n [] (.code .ret :: k) E B L := by
 intro T R β hT hE hH
 obtain ⟨hro, go⟩ := r
 rw [hro]
 exact C.X.ret (go _ _ v R L (Option.some.inj (hE s _ hs)).symm hq hH.post)
theorem FGo.leave1 {Post : Value → World → Prop} {W0 : World} {f : FuncId} {fn : Func} {s : Nat} {T : Array Value} (hf : P.funcs[f]? = some fn) (hr : fn.results = #[.tmp s]) (hin : P.inits.idxOf? f = none) (h : ∀ w, Sub L w → Same W0 w → Post (T.getD s undef) w) :
  FGo P Post W0 (G (Fr f T k [] .returning .normal none) []) L := by
 refine FGo.done rfl fun w hs hw => ⟨T.getD s undef, #[], ?_, fun e he => by simp at he, h w hs hw⟩
 simp [G, Fr, stepG, unwind, hf, doReturn, results, hr, hin, GStep.after, seen_none]
theorem root_enter {Post : Value → World → Prop} {W0 : World} {f : FuncId} {fn : Func} {body : Code} {args : List Value} {s : Nat} {Q : Value → LH → Prop} (hf : P.funcs[f]? = some fn) (hb : fn.body = some body) (hr : fn.results = #[.tmp s]) (hin : P.inits.idxOf? f = none) (hz : fn.ntmps = n) (hle : Nat.ble args.length n = true)
  (hQ : ∀ v L' w, Q v L' → Sub L' w → Same W0 w → Post v w)
  (h : ∀ C : Cx P, C.X = LFGo P Post W0 → C.f = f → C.L0 = L → RtO C fn s Q → W C n [] [.code body] (argEnv 0 args) [] L) : FGo P Post W0 (G (Frame.enter P f args.toArray .normal) []) L := by
 refine W.start (X := LFGo P Post W0) hf hb hz hle (h _ rfl rfl rfl ⟨rfl, fun T k v R L' hv hq hp => ?_⟩)
 refine FGo.leave1 hf hr hin fun w hs hw => ?_
 rw [hv]
 exact hQ v L' w hq (fun b o wr hb => hs b o wr (hp.le _ _ hb)) hw
end
end Go.Mz

