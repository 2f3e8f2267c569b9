/- Lemmas on which the claim leans. -/
import Derived.Test.YtfnjganjlkoehaaGreatDoorMzAk
import Derived.Conc.DeferLaws
namespace Go.Mz
open Go.Conc
def behindM : FrameMode → FrameMode
 | .panicking (e :: older) => if e.recovered then (match older.dropWhile (!·.goexit) with | [] => .returning | rest => .panicking rest) else .panicking (e :: older)
 | m => m
section
variable {P : Program} (X : Logic P) {f : FuncId} {T : Array Value} {k : List Item} {ds : List Deferred} {cs : List Frame} {L : LH}
end
def FnD {P : Program} (X : Logic P) (f : FuncId) (args : Array Value) (md : FrameMode) (L : LH) (Q : FrameMode → LH → Prop) : Prop :=
 ∀ (c : Frame) (cs : List Frame), c.mode = md → (∀ md' L', Q md' L' → X.Go (G { c with mode := md' } cs) L') → X.Go (G (Frame.enter P f args .deferred) (c :: cs)) L
def SpD {P : Program} (X : Logic P) (f : FuncId) (args : List Value) (md : FrameMode) (L : LH) (Q : FrameMode → LH → Prop) : Prop :=
 Callable P f ∧ ∀ R, Le L R → FnD X f args.toArray md R (fun md' R' => ∃ L', Q md' L' ∧ Post L R L' R')
structure RtD {P : Program} (C : Cx P) (fn : Func) (md : FrameMode) (Q : FrameMode → LH → Prop) : Prop where
 fn : P.funcs[C.f]? = some fn
 ro : C.ro = none
 kd : C.kd = .deferred
 cs : ∃ c cs, C.cs = c :: cs ∧ c.mode = md ∧ ∀ md' R' L', Q md' L' → Post C.L0 C.R0 L' R' → C.X.Go (G { c with mode := md' } cs) R'
section
variable {P : Program} {n : Nat} {ds : List Deferred} {k : List Item} {E : Env} {B : List (Option Bx)} {L : LH} {ops : Array Oper} {i : Nat} {rest : List Nat}
theorem SpD.enter {X : Logic P} {f : FuncId} {fn : Func} {body : Code} {args : List Value} {md : FrameMode} {Q : FrameMode → LH → Prop} (hf : P.funcs[f]? = some fn) (hb : fn.body = some body) (hn : (fn.name == "runtime.NumGoroutine") = false) (hz : fn.ntmps = n) (hle : Nat.ble args.length n = true)
  (h : ∀ C : Cx P, C.X = X → C.f = f → C.L0 = L → RtD C fn md Q → W C n [] [.code body] (argEnv 0 args) [] L) : SpD X f args md L Q := by
 refine ⟨⟨fn, hf, hn, by rw [hb]; rfl⟩, fun R hR c cs hc h1 => ?_⟩
 rw [enter_Fr hf hb]
 have hT : (args.toArray ++ Array.replicate (fn.ntmps - args.toArray.size) undef : Array Value) = args.toArray ++ Array.replicate (fn.ntmps - args.toArray.size) undef := rfl
 have hsz : (args.toArray ++ Array.replicate (fn.ntmps - args.toArray.size) undef : Array Value).size = n := by
  have := Nat.le_of_ble_eq_true hle
  simp; omega
 refine h ⟨X, f, .deferred, none, c :: cs, L, R⟩ rfl rfl rfl ⟨hf, rfl, rfl, c, cs, rfl, hc, fun md' R' L' hq hp => h1 md' R' ⟨L', hq, hp⟩⟩ _ R nm0 hsz ?_ ⟨(fun _ _ _ h => by cases h), (fun _ _ h => by cases h), (fun _ _ h => by cases h), (fun k b x hk => by cases hk), hR, fun b x _ h => h, fun b hb => .inl hb, fun b hb => hb⟩
 intro s x hx
 obtain ⟨_, v, h3, rfl⟩ := argEnv_get hx
 have hs : args[s]? = some v := by simpa using h3
 have hlt : s < args.length := by
  rcases Nat.lt_or_ge s args.length with h | h
  ·exact h
  ·rw [List.getElem?_eq_none h] at hs; cases hs
 rw [den]
 congr 1
 rw [Array.getD_eq_getD_getElem?, Array.getElem?_append_left (by simpa using hlt), List.getElem?_toArray, hs]; rfl
variable {C : Cx P}
theorem WM.deferred {g : FuncId} {f1 f2 : Array Value} {md : FrameMode} {Q : FrameMode → LH → Prop} {args : List Value} (hm : leaving md = true) (ha : f1 ++ f2 = args.toArray) (hs : SpD C.X g args md L Q) (w : ∀ md' L', Q md' L' → WM C n ds md' E B L') : WM C n (⟨.fn (.func g) f2, f1⟩ :: ds) md E B L := by
 intro T R β k hT hE hH
 obtain ⟨⟨fn, g1, g2, g3⟩, hF⟩ := hs
 have h1 := hF R hH.le (Fr C.f T k ds md C.kd C.ro) C.cs rfl (fun md' R' ⟨L', hq, hp⟩ => w md' L' hq T R' β k hT hE (hH.call hp))
 obtain ⟨bd, hbd⟩ : ∃ bd, fn.body = some bd := by
  cases hb : fn.body with
  | none => rw [hb] at g3; cases g3
  | some bd => exact ⟨bd, rfl⟩
 have h4 : ¬ fn.name = "runtime.NumGoroutine" := by simpa using g2
 refine C.X.quiet rfl (fun w' => ?_) h1
 cases md with
 | run => cases hm
 | returning => simp [G, Fr, stepG, unwind, callDeferred, invoke, ha, callFunc, g1, h4, hbd, GStep.after, seen_none]
 | panicking ch => simp [G, Fr, stepG, unwind, callDeferred, invoke, ha, callFunc, g1, h4, hbd, GStep.after, seen_none]
end
end Go.Mz

