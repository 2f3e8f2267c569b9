/- Lemmas on which the claim leans. -/
import Derived.Test.YtjhpkghkgaekcaaGreatDoorMzAh
import Derived.Conc.DeferLaws
namespace Go.Mz
open Go.Conc
def behindM : FrameMode → FrameMode
 | .panicking (e :: older) => if e.recovered then (match older.dropWhile (!·.goexit) with | [] => .returning | rest => .panicking rest) else .panicking (e :: older)
 | m => m
section
variable {P : Program} (X : Logic P) {f : FuncId} {T : Array Value} {k : List Item} {ds : List Deferred} {cs : List Frame} {L : LH}
theorem Logic.leaveD {fn : Func} {c : Frame} (hf : P.funcs[f]? = some fn)
  (h : wpS P (fun _ L' => X.Go (G { c with mode := behindM c.mode } cs) L') (fun _ _ => False) (results fn T) L) : X.Go (G (Fr f T k [] .returning .deferred none) (c :: cs)) L :=
 X.step _ L rfl fun w hs => by
  have hout := wpS_sound _ L h w #[] hs
  have he : ∃ r es₀, (results fn T).runT P w #[] = (r, es₀) := ⟨_, _, rfl⟩
  obtain ⟨r, es₀, he⟩ := he
  rw [he] at hout
  cases r with
  | halt hh w' => cases hh <;> first | exact hout.elim | (obtain ⟨_, _, _, _, h3⟩ := hout; exact h3.elim)
  | ok v w' =>
   obtain ⟨L', us, h1, h2, h3⟩ := hout
   rw [Array.empty_append] at h1
   subst h1
   refine ⟨_, w', seen P f es₀, L', ?_, h2.fewer (seen_sub _ _ _), h3⟩
   have key : (match c.mode with
    | .panicking ({ recovered := true, .. } :: older) =>
     match older.dropWhile (!·.goexit) with
     | [] => { c with mode := .returning }
     | rest => { c with mode := .panicking rest }
    | _ => c) = { c with mode := behindM c.mode } := by
    obtain ⟨cf, ct, ctd, cd, cm, ck, cr⟩ := c
    cases cm with
    | run => rfl
    | returning => rfl
    | panicking l =>
     cases l with
     | nil => rfl
     | cons e older =>
      obtain ⟨ev, er, eg⟩ := e
      cases er with
      | false => rfl
      | true =>
       simp only [behindM, if_true]
       cases older.dropWhile (!·.goexit) <;> rfl
   simp only [G, Fr, stepG, unwind, hf, he, doReturn, after_go, Array.append_empty]
   exact congrArg (fun fr => GStep.go (G fr cs) w' (seen P f es₀)) key
end
def FnD {P : Program} (X : Logic P) (f : FuncId) (args : Array Value) (md : FrameMode) (L : LH) (Q : FrameMode → LH → Prop) : Prop :=
 ∀ (c : Frame) (cs : List Frame), c.mode = md → (∀ md' L', Q md' L' → X.Go (G { c with mode := md' } cs) L') → X.Go (G (Frame.enter P f args .deferred) (c :: cs)) L
def SpD {P : Program} (X : Logic P) (f : FuncId) (args : List Value) (md : FrameMode) (L : LH) (Q : FrameMode → LH → Prop) : Prop :=
 Callable P f ∧ ∀ R, Le L R → FnD X f args.toArray md R (fun md' R' => ∃ L', Q md' L' ∧ Post L R L' R')
structure RtD {P : Program} (C : Cx P) (fn : Func) (md : FrameMode) (Q : FrameMode → LH → Prop) : Prop where
 fn : P.funcs[C.f]? = some fn
 ro : C.ro = none
 kd : C.kd = .deferred
 cs : ∃ c cs, C.cs = c :: cs ∧ c.mode = md ∧ ∀ md' R' L', Q md' L' → Post C.L0 C.R0 L' R' → C.X.Go (G { c with mode := md' } cs) R'
section
variable {P : Program} {n : Nat} {ds : List Deferred} {k : List Item} {E : Env} {B : List (Option Bx)} {L : LH} {ops : Array Oper} {i : Nat} {rest : List Nat}
theorem SpD.enter {X : Logic P} {f : FuncId} {fn : Func} {body : Code} {args : List Value} {md : FrameMode} {Q : FrameMode → LH → Prop} (hf : P.funcs[f]? = some fn) (hb : fn.body = some body) (hn : (fn.name == "runtime.NumGoroutine") = false) (hz : fn.ntmps = n) (hle : Nat.ble args.length n = true)
  (h : ∀ C : Cx P, C.X = X → C.f = f → C.L0 = L → RtD C fn md Q → W C n [] [.code body] (argEnv 0 args) [] L) : SpD X f args md L Q := by
 refine ⟨⟨fn, hf, hn, by rw [hb]; rfl⟩, fun R hR c cs hc h1 => ?_⟩
 rw [enter_Fr hf hb]
 have hT : (args.toArray ++ Array.replicate (fn.ntmps - args.toArray.size) undef : Array Value) = args.toArray ++ Array.replicate (fn.ntmps - args.toArray.size) undef := rfl
 have hsz : (args.toArray ++ Array.replicate (fn.ntmps - args.toArray.size) undef : Array Value).size = n := by
  have := Nat.le_of_ble_eq_true hle
  simp; omega
 refine h ⟨X, f, .deferred, none, c :: cs, L, R⟩ rfl rfl rfl ⟨hf, rfl, rfl, c, cs, rfl, hc, fun md' R' L' hq hp => h1 md' R' ⟨L', hq, hp⟩⟩ _ R nm0 hsz ?_ ⟨(fun _ _ _ h => by cases h), (fun _ _ h => by cases h), (fun _ _ h => by cases h), (fun k b x hk => by cases hk), hR, fun b x _ h => h, fun b hb => .inl hb, fun b hb => hb⟩
 intro s x hx
 obtain ⟨_, v, h3, rfl⟩ := argEnv_get hx
 have hs : args[s]? = some v := by simpa using h3
 have hlt : s < args.length := by
  rcases Nat.lt_or_ge s args.length with h | h
  ·exact h
  ·rw [List.getElem?_eq_none h] at hs; cases hs
 rw [den]
 congr 1
 rw [Array.getD_eq_getD_getElem?, Array.getElem?_append_left (by simpa using hlt), List.getElem?_toArray, hs]; rfl
variable {C : Cx P}
theorem wpS_recover {T : Array Value} {R : LH} {ts : Array TypeId} {dst : Option Tmp} {ty : TypeId} {pos : String} {af : Array Edge} {gd : Option (Nat × Bool)} {Q : Next → LH → Prop} {H : Value → LH → Prop} (h : Q .recover R) :
  wpS P Q H (execOp (ev T) ⟨dst, .call { callee := .builtin .recover, args := #[], argTypes := ts }, ty, pos, af, gd⟩) R := by
 simp only [execOp, resolve, wpS_bind, wpS_pure, invoke]
 exact h
theorem W.recoverP {fn : Func} {v : Value} {older : List PanicEntry} {Q : FrameMode → LH → Prop} {d : Nat} {ts : Array TypeId} {ty : TypeId} {pos : String} {af : Array Edge} {gd : Option (Nat × Bool)} {sv : SV} (r : RtD C fn (.panicking (pe1 v :: older)) Q) (ho : nth ops.toList i = some ⟨some d, .call { callee := .builtin .recover, args := #[], argTypes := ts }, ty, pos, af, gd⟩) (hg : guardOk (get E) ops.toList gd = some true) (hz : Nat.blt d n = true) (hv : den nm0 sv = some v)
  (w : ∀ C' : Cx P, C'.X = C.X → C'.f = C.f → C'.L0 = C.L0 → C'.R0 = C.R0 → RtD C' fn (.panicking ({ v := v, recovered := true } :: older)) Q → W C' n ds (.inRegion ops rest :: k) ((d, sv) :: E) B L) : W C n ds (.inRegion ops (i :: rest) :: k) E B L := by
 obtain ⟨hf, hro, hkd, c, cs, hcs, hm, hc⟩ := r
 refine W.oper ho hg rfl fun T R β hT hE hH => ?_
 refine wpS_recover ?_
 rw [hro, hkd, hcs]
 have ht : tryRecover (Fr C.f T (.inRegion ops (i :: rest) :: k) ds .run .deferred none) (c :: cs) = some (v, { c with mode := .panicking ({ v := v, recovered := true } :: older) } :: cs) := by
  simp only [tryRecover, Fr, hm, pe1]
 simp only [nextOut]
 rw [show (Fr C.f T (.inRegion ops (i :: rest) :: k) ds .run .deferred none).roundOf = none from rfl]
 simp only [ht]
 have := W.fin_some (C := ⟨C.X, C.f, .deferred, none, { c with mode := .panicking ({ v := v, recovered := true } :: older) } :: cs, C.L0, C.R0⟩) (n := n) (ds := ds) (k := k) (E := E) (B := B) (L := L) ho rfl (lt_of_blt hz) hT hE hH (den_nil hv β)
  (w ⟨C.X, C.f, .deferred, none, { c with mode := .panicking ({ v := v, recovered := true } :: older) } :: cs, C.L0, C.R0⟩ rfl rfl rfl rfl ⟨hf, rfl, rfl, _, cs, rfl, rfl, fun md' R' L' hq hp => hc md' R' L' hq hp⟩)
 exact this
theorem W.recoverN {fn : Func} {Q : FrameMode → LH → Prop} {d : Nat} {ts : Array TypeId} {ty : TypeId} {pos : String} {af : Array Edge} {gd : Option (Nat × Bool)} (r : RtD C fn .returning Q) (ho : nth ops.toList i = some ⟨some d, .call { callee := .builtin .recover, args := #[], argTypes := ts }, ty, pos, af, gd⟩) (hg : guardOk (get E) ops.toList gd = some true) (hz : Nat.blt d n = true)
  (w : W C n ds (.inRegion ops rest :: k) ((d, .v .nilIface) :: E) B L) : W C n ds (.inRegion ops (i :: rest) :: k) E B L := by
 obtain ⟨hf, hro, hkd, c, cs, hcs, hm, hc⟩ := r
 refine W.oper ho hg rfl fun T R β hT hE hH => ?_
 refine wpS_recover ?_
 have ht : tryRecover (Fr C.f T (.inRegion ops (i :: rest) :: k) ds .run C.kd C.ro) C.cs = none := by
  rw [hkd, hcs]
  simp only [tryRecover, Fr, hm]
 simp only [nextOut]
 rw [show (Fr C.f T (.inRegion ops (i :: rest) :: k) ds .run C.kd C.ro).roundOf = none from hro]
 simp only [ht]
 exact W.fin_some ho rfl (lt_of_blt hz) hT hE hH rfl w
theorem W.retD {fn : Func} {md : FrameMode} {Q : FrameMode → LH → Prop} (r : RtD C fn md Q) (hr : fn.results = #[]) (hk : k = [] ∨ ∃ k', k = .code .ret :: k') (hq : Q (behindM md) L) : W C n [] k E B L := by
 intro T R β hT hE hH
 obtain ⟨hf, hro, hkd, c, cs, hcs, hm, hc⟩ := r
 rw [hro, hcs, hkd]
 have key : ∀ k, C.X.Go (G (Fr C.f T k [] .returning .deferred none) (c :: cs)) R := fun k => by
  refine C.X.leaveD hf ?_
  unfold results
  rw [hr]
  simp only [wpS_bind, Array.mapM_eq_mapM_toList, wpS_pure]
  rw [hm]
  exact hc _ _ _ hq hH.post
 rcases hk with rfl | ⟨k', rfl⟩
 ·exact C.X.quiet (g' := G (Fr C.f T [] [] .returning .deferred none) (c :: cs)) rfl (fun w => by simp [G, Fr, stepG, stepG.exec]) (key _)
 ·exact C.X.quiet (g' := G (Fr C.f T (.code .ret :: k') [] .returning .deferred none) (c :: cs)) rfl (fun w => by simp [G, Fr, stepG, stepG.exec]) (key _)
theorem W.deferV {x : Operand} {sv : SV} {g : FuncId} {f1 f2 : Array Value} {ts : Array TypeId} {ty : TypeId} {pos : String} {af : Array Edge} {gd : Option (Nat × Bool)} (hro : C.ro = none) (ho : nth ops.toList i = some ⟨none, .defer { callee := .value x, args := #[], argTypes := ts }, ty, pos, af, gd⟩) (hg : guardOk (get E) ops.toList gd = some true) (hx : evS (get E) x = some sv) (hv : den nm0 sv = some (.func (.func g) f1 f2))
  (w : W C n (⟨.fn (.func g) f2, f1⟩ :: ds) (.inRegion ops rest :: k) E B L) : W C n ds (.inRegion ops (i :: rest) :: k) E B L := by
 intro T R β hT hE hH
 have ho' := ho
 rw [nth_eq, Array.getElem?_toList] at ho
 refine C.X.op ho (guardOk_wanted hE hg) (.inl hro) ?_
 have ex : ev T x = .func (.func g) f1 f2 := Option.some.inj ((hE.val hx).symm.trans (den_nil hv β))
 simp only [execOp, resolve, ex, Deferred.ofValue, wpS_bind, wpS_pure, nextOut, Array.map_empty, Array.append_empty]
 exact W.fin_none (ds := ⟨.fn (.func g) f2, f1⟩ :: ds) ho' rfl hT hE hH w
theorem WM.deferred {g : FuncId} {f1 f2 : Array Value} {md : FrameMode} {Q : FrameMode → LH → Prop} {args : List Value} (hm : leaving md = true) (ha : f1 ++ f2 = args.toArray) (hs : SpD C.X g args md L Q) (w : ∀ md' L', Q md' L' → WM C n ds md' E B L') : WM C n (⟨.fn (.func g) f2, f1⟩ :: ds) md E B L := by
 intro T R β k hT hE hH
 obtain ⟨⟨fn, g1, g2, g3⟩, hF⟩ := hs
 have h1 := hF R hH.le (Fr C.f T k ds md C.kd C.ro) C.cs rfl (fun md' R' ⟨L', hq, hp⟩ => w md' L' hq T R' β k hT hE (hH.call hp))
 obtain ⟨bd, hbd⟩ : ∃ bd, fn.body = some bd := by
  cases hb : fn.body with
  | none => rw [hb] at g3; cases g3
  | some bd => exact ⟨bd, rfl⟩
 have h4 : ¬ fn.name = "runtime.NumGoroutine" := by simpa using g2
 refine C.X.quiet rfl (fun w' => ?_) h1
 cases md with
 | run => cases hm
 | returning => simp [G, Fr, stepG, unwind, callDeferred, invoke, ha, callFunc, g1, h4, hbd, GStep.after, seen_none]
 | panicking ch => simp [G, Fr, stepG, unwind, callDeferred, invoke, ha, callFunc, g1, h4, hbd, GStep.after, seen_none]
end
end Go.Mz

