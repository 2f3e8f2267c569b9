/- Lemmas on which the claim leans. -/
import Derived.Test.YtfnjganjlkoehaaGreatDoorMzAj
namespace Go.Mz
open Go.Conc
class Seat (P : Program) where
 τ : TT
 ok : τ.Ok P
def Vf (P : Program) (op : Op) (E : Look) (B : List (Option Bx)) (L : LH) (sv : SV) : Prop := ∀ (T : Array Value) (R : LH) (β : Nm), EnvOk β E T → Boxes β B R → Le L R → Vld P β op T R sv
def Ef {P : Program} (C : Cx P) (o : Oper) (E : Look) (B : List (Option Bx)) (L : LH) (Q : SV → List (Option Bx) → LH → Prop) : Prop :=
 ∀ (T : Array Value) (R : LH) (β : Nm), EnvOk β E T → HeapOk C.L0 C.R0 β B L R → EffW C.X o T R (fun v R' => ∃ sv B' L', Q sv B' L' ∧ den β sv = some v ∧ HeapOk C.L0 C.R0 β B' L' R' ∧ ∀ kk, β kk = none → B'[kk]? = B[kk]?)
section
variable {P : Program} [S : Seat P] {C : Cx P} {n : Nat} {ds : List Deferred} {k : List Item} {E : Env} {B : List (Option Bx)} {L : LH}
variable {ops : Array Oper} {i : Nat} {rest : List Nat} {d : Nat} {op : Op} {ty : TypeId} {pos : String} {af : Array Edge} {gd : Option (Nat × Bool)} {sv : SV}
theorem W.go (m : Nat) {k' : List Item} {E' : Env} {B' : List (Option Bx)} (h : runK S.τ n [] m k E B = (k', E', B')) (w : W C n ds k' E' B' L) : W C n ds k E B L := W.run S.ok m h w
theorem W.goP (pub : List Nat) (m : Nat) {k' : List Item} {E' : Env} {B' : List (Option Bx)} (h : runK S.τ n pub m k E B = (k', E', B')) (w : W C n ds k' E' B' L) : W C n ds k E B L := W.run S.ok m h w
theorem W.ret {fn : Func} {Q : Value → LH → Prop} {H : List PanicEntry → LH → Prop} {svs : List SV} {vs : List Value} (r : Rt C fn Q H) (hs : resS S.τ (get E) B fn.results.toList = some svs) (hv : denL nm0 svs = some vs) (hq : Q (retV vs) L) : W C n [] (.code .ret :: k) E B L := W.retT S.ok r (.inr ⟨k, rfl⟩) hs hv hq
theorem W.ret0 {fn : Func} {Q : Value → LH → Prop} {H : List PanicEntry → LH → Prop} {svs : List SV} {vs : List Value} (r : Rt C fn Q H) (hs : resS S.τ (get E) B fn.results.toList = some svs) (hv : denL nm0 svs = some vs) (hq : Q (retV vs) L) : W C n [] [] E B L := W.retT S.ok r (.inl rfl) hs hv hq
theorem W.drawn {id : Nat} (hok : okQ ops n = true) (Lf : LH) (hle : Le Lf L) (h : DD C S.τ n ds ops k B.length Lf [] [] E B L) : W C n ds (.code (.region id ops true) :: k) E B L := W.draw S.ok hok hle h
end
section
variable {P : Program} {C : Cx P} {n : Nat} {ds : List Deferred} {k : List Item} {E : Env} {B : List (Option Bx)} {L : LH}
variable {ops : Array Oper} {i : Nat} {rest : List Nat} {d : Nat} {op : Op} {ty : TypeId} {pos : String} {af : Array Edge} {gd : Option (Nat × Bool)} {sv : SV}
theorem W.vf (ho : nth ops.toList i = some ⟨some d, op, ty, pos, af, gd⟩) (hg : guardOk (get E) ops.toList gd = some true) (hz : Nat.blt d n = true) (hdf : isDefer op = false) (hv : Vf P op (get E) B L sv) (w : W C n ds (.inRegion ops rest :: k) ((d, sv) :: E) B L) : W C n ds (.inRegion ops (i :: rest) :: k) E B L :=
 W.val ho hg rfl hz hdf (fun T R β hE hH => hv T R β hE hH.boxes hH.le) w
theorem W.eff {Q : SV → List (Option Bx) → LH → Prop} (ho : nth ops.toList i = some ⟨some d, op, ty, pos, af, gd⟩) (hg : guardOk (get E) ops.toList gd = some true) (hz : Nat.blt d n = true) (he : Ef C ⟨some d, op, ty, pos, af, gd⟩ (get E) B L Q)
  (w : ∀ sv B' L', Q sv B' L' → W C n ds (.inRegion ops rest :: k) ((d, sv) :: E) B' L') : W C n ds (.inRegion ops (i :: rest) :: k) E B L := by
 intro T R β hT hE hH
 obtain ⟨hdf, hE'⟩ := he T R β hE hH
 refine W.oper (C := C) (L := L) ho hg hdf (fun T1 R1 β1 hT1 hE1 hH1 => ?_) T R β hT hE hH
 obtain ⟨_, hE2⟩ := he T1 R1 β1 hE1 hH1
 refine wpS_mono ?_ (fun _ _ h => h.elim) _ _ hE2
 have go : ∀ v R', (∃ sv B' L', Q sv B' L' ∧ den β1 sv = some v ∧ HeapOk C.L0 C.R0 β1 B' L' R' ∧ ∀ kk, β1 kk = none → B'[kk]? = B[kk]?) → C.X.Go (G ((Fr C.f T1 (.inRegion ops (i :: rest) :: k) ds .run C.kd C.ro).finish v) C.cs) R' := by
  rintro v R' ⟨sv, B', L', hq, hv, hH', _⟩
  exact W.fin_some ho rfl (lt_of_blt hz) hT1 hE1 hH' hv (w sv B' L' hq)
 intro nx L1 hnx
 cases nx <;> first | exact hnx.elim | skip
 ·exact go _ _ hnx
 ·exact go _ _ hnx
 ·obtain ⟨Q', hfn, hq'⟩ := hnx
  exact hfn .normal _ _ (.inl rfl) (fun v L' hv => go v L' (hq' v L' hv)) (fun _ _ h => h.elim)
 ·obtain ⟨Q', hfn, hq'⟩ := hnx
  exact hfn _ _ (fun v L' hv => go v L' (hq' v L' hv))
theorem W.eff0 {Q : SV → List (Option Bx) → LH → Prop} (ho : nth ops.toList i = some ⟨none, op, ty, pos, af, gd⟩) (hg : guardOk (get E) ops.toList gd = some true) (he : Ef C ⟨none, op, ty, pos, af, gd⟩ (get E) B L Q)
  (w : ∀ sv B' L', Q sv B' L' → W C n ds (.inRegion ops rest :: k) E B' L') : W C n ds (.inRegion ops (i :: rest) :: k) E B L := by
 intro T R β hT hE hH
 obtain ⟨hdf, hE'⟩ := he T R β hE hH
 refine W.oper (C := C) (L := L) ho hg hdf (fun T1 R1 β1 hT1 hE1 hH1 => ?_) T R β hT hE hH
 obtain ⟨_, hE2⟩ := he T1 R1 β1 hE1 hH1
 refine wpS_mono ?_ (fun _ _ h => h.elim) _ _ hE2
 have go : ∀ v R', (∃ sv B' L', Q sv B' L' ∧ den β1 sv = some v ∧ HeapOk C.L0 C.R0 β1 B' L' R' ∧ ∀ kk, β1 kk = none → B'[kk]? = B[kk]?) → C.X.Go (G ((Fr C.f T1 (.inRegion ops (i :: rest) :: k) ds .run C.kd C.ro).finish v) C.cs) R' := by
  rintro v R' ⟨sv, B', L', hq, hv, hH', _⟩
  exact W.fin_none ho rfl hT1 hE1 hH' (w sv B' L' hq)
 intro nx L1 hnx
 cases nx <;> first | exact hnx.elim | skip
 ·exact go _ _ hnx
 ·exact go _ _ hnx
 ·obtain ⟨Q', hfn, hq'⟩ := hnx
  exact hfn .normal _ _ (.inl rfl) (fun v L' hv => go v L' (hq' v L' hv)) (fun _ _ h => h.elim)
 ·obtain ⟨Q', hfn, hq'⟩ := hnx
  exact hfn _ _ (fun v L' hv => go v L' (hq' v L' hv))
end
section
variable {P : Program} [S : Seat P] {C : Cx P} {n : Nat} {ds : List Deferred} {k : List Item} {E : Env} {B : List (Option Bx)} {L : LH}
variable {ops : Array Oper} {i : Nat} {rest : List Nat} {d : Nat} {op : Op} {ty : TypeId} {pos : String} {af : Array Edge} {gd : Option (Nat × Bool)} {sv : SV}
variable {m : Nat} {Lf : LH} {td : List Nat} {V E0 : Env}
theorem DD.run' (is : List Nat) {td' : List Nat} {V' : Env} {B' : List (Option Bx)} (h : runD S.τ ops.toList E0 m is td V B = some (td', V', B')) (w : DD C S.τ n ds ops k m Lf td' V' E0 B' L) : DD C S.τ n ds ops k m Lf td V E0 B L := DD.go S.ok is h w
theorem DD.vf (i : Nat) (ho : nth ops.toList i = some ⟨some d, op, ty, pos, af, gd⟩) (hn : inN td i = false) (hdp : subN td (depsL ops.toList i) = true) (hg : guardOk (lookV ops.toList i V E0) ops.toList gd = some true) (hdf : isDefer op = false)
  (hv : Vf P op (lookV ops.toList i V E0) (B.take m) Lf sv) (w : DD C S.τ n ds ops k m Lf (i :: td) ((d, sv) :: V) E0 B L) : DD C S.τ n ds ops k m Lf td V E0 B L :=
 .reg i ho hn hdp rfl hdf hg hv w
theorem DD.split (s : Nat) {p : Bool} (hs : get V s = some (.v (.bool p))) (h1 : p = true → DD C S.τ n ds ops k m Lf td ((s, .lit true) :: V) E0 B L) (h2 : p = false → DD C S.τ n ds ops k m Lf td ((s, .lit false) :: V) E0 B L) : DD C S.τ n ds ops k m Lf td V E0 B L :=
 .lit s hs (by cases p; exact h2 rfl; exact h1 rfl)
theorem DD.act (i : Nat) {Q : SV → List (Option Bx) → LH → Prop} {o : Oper} (ho : nth ops.toList i = some o) (hlt : Nat.blt i ops.size = true) (hn : inN td i = false) (hall : onlyN ops.toList td [i] ops.size = true) (hg : guardOk (lookV ops.toList i V E0) ops.toList o.guard = some true)
  (he : Ef C o (lookV ops.toList i V E0) B L Q) (hq : ∀ sv B' L', Q sv B' L' → Le Lf L' ∧ B'.length = B.length ∧ (B'.take m = B.take m ∨ subT ops.toList (depsL ops.toList i) td = true))
  (w : ∀ sv B' L', Q sv B' L' → DD C S.τ n ds ops k m Lf (i :: td) (addV o.dst sv V) E0 B' L') : DD C S.τ n ds ops k m Lf td V E0 B L := by
 refine .eff [i] (fun _ => Q) i hlt hn hall (fun e he' _ => ?_) (fun e he' _ sv B' L' h => ?_) (fun e he' _ sv B' L' h => ?_)
 ·obtain rfl := List.mem_singleton.1 he'
  exact ⟨o, ho, hg, he⟩
 ·obtain rfl := List.mem_singleton.1 he'
  exact hq sv B' L' h
 ·obtain rfl := List.mem_singleton.1 he'
  have : dstOf ops e = o.dst := by
   unfold dstOf
   rw [nth_eq, Array.getElem?_toList] at ho
   rw [ho]; rfl
  rw [this]
  exact w sv B' L' h
theorem DD.act2 (i j : Nat) {Qi Qj : SV → List (Option Bx) → LH → Prop} {oi oj : Oper} (hij : Nat.beq i j = false) (hoi : nth ops.toList i = some oi) (hoj : nth ops.toList j = some oj) (hlt : Nat.blt i ops.size = true) (hn : inN td i = false) (hall : onlyN ops.toList td [i, j] ops.size = true)
  (hgi : guardOk (lookV ops.toList i V E0) ops.toList oi.guard = some true) (hgj : guardOk (lookV ops.toList j V E0) ops.toList oj.guard = some true) (hei : Ef C oi (lookV ops.toList i V E0) B L Qi) (hej : Ef C oj (lookV ops.toList j V E0) B L Qj)
  (hqi : ∀ sv B' L', Qi sv B' L' → Le Lf L' ∧ B'.length = B.length ∧ (B'.take m = B.take m ∨ subT ops.toList (depsL ops.toList i) td = true)) (hqj : ∀ sv B' L', Qj sv B' L' → Le Lf L' ∧ B'.length = B.length ∧ (B'.take m = B.take m ∨ subT ops.toList (depsL ops.toList j) td = true))
  (wi : ∀ sv B' L', Qi sv B' L' → DD C S.τ n ds ops k m Lf (i :: td) (addV oi.dst sv V) E0 B' L') (wj : ∀ sv B' L', Qj sv B' L' → DD C S.τ n ds ops k m Lf (j :: td) (addV oj.dst sv V) E0 B' L') : DD C S.τ n ds ops k m Lf td V E0 B L := by
 have hne : i ≠ j := fun e => by subst e; simp at hij
 have dst : ∀ {a : Nat} {o : Oper}, nth ops.toList a = some o → dstOf ops a = o.dst := fun {a o} h => by
  unfold dstOf
  rw [nth_eq, Array.getElem?_toList] at h
  rw [h]; rfl
 refine .eff [i, j] (fun e => if e = i then Qi else Qj) i hlt hn hall (fun e he' _ => ?_) (fun e he' _ sv B' L' h => ?_) (fun e he' _ sv B' L' h => ?_)
 ·simp only [List.mem_cons, List.not_mem_nil, or_false] at he'
  rcases he' with rfl | rfl
  ·exact ⟨oi, hoi, hgi, by simp only [if_true]; exact hei⟩
  ·exact ⟨oj, hoj, hgj, by simp only [Ne.symm hne, if_false]; exact hej⟩
 ·simp only [List.mem_cons, List.not_mem_nil, or_false] at he'
  rcases he' with rfl | rfl
  ·simp only [if_true] at h; exact hqi sv B' L' h
  ·simp only [Ne.symm hne, if_false] at h; exact hqj sv B' L' h
 ·simp only [List.mem_cons, List.not_mem_nil, or_false] at he'
  rcases he' with rfl | rfl
  ·simp only [if_true] at h; rw [dst hoi]; exact wi sv B' L' h
  ·simp only [Ne.symm hne, if_false] at h; rw [dst hoj]; exact wj sv B' L' h
end
section
variable {P : Program} [S : Seat P] {E : Look} {B : List (Option Bx)} {L : LH} {t t2 : TypeId} {x y : Operand} {ti te : TI} {ad : Addr} {v : Value}
theorem Vf.load (hx : evS E x = some (.v (.pointer (some ad)))) (ht : S.τ.find t = some ti) (ha : ti.agg = false) (hc : L.cell? ad = some v) : Vf P (.load t x) E B L (.v v) := fun T R β hE _ hL =>
 ⟨v, rfl, fun ty => Val.load1 (by rw [(TT.find_ok S.ok ht).agg, ha]) (Option.some.inj (hE.val hx)).symm (hL.cell hc)⟩
theorem Vf.loadN {vs : List Value} (hx : evS E x = some (.v (.pointer (some ad)))) (ht : S.τ.find t = some ti) (ha : ti.agg = true) (hc : cellsAt L ad ti.size vs) : Vf P (.load t x) E B L (.v (.agg vs.toArray)) := fun T R β hE _ hL =>
 ⟨_, rfl, fun ty => Val.loadN (by rw [(TT.find_ok S.ok ht).agg, ha]) (TT.find_ok S.ok ht).size (Option.some.inj (hE.val hx)).symm (hL.cellsAt hc)⟩
theorem Vf.idx {e : TypeId} {len cap i : Nat} {kk : IntKind} {j : Int} (hx : evS E x = some (.v (.slice (some ad) len cap))) (hy : evS E y = some (.v (.int kk j))) (ht : S.τ.find t = some ti) (hd : ti.d = .slice e) (he : S.τ.find e = some te) (hj : j = (i : Int)) (hi : i < len) :
  Vf P (.indexAddr t x y) E B L (.v (.pointer (some (ad.add (i * te.size))))) := fun T R β hE _ _ => by
 have h1 := (TT.find_ok S.ok ht).d
 rw [hd] at h1
 subst hj
 exact ⟨_, rfl, fun ty => Val.indexSlice h1 (TT.find_ok S.ok he).size (Option.some.inj (hE.val hx)).symm (Option.some.inj (hE.val hy)).symm hi⟩
theorem Vf.idx1 {e : TypeId} {len cap i : Nat} {kk : IntKind} {j : Int} (hx : evS E x = some (.v (.slice (some ad) len cap))) (hy : evS E y = some (.v (.int kk j))) (ht : S.τ.find t = some ti) (hd : ti.d = .slice e) (he : S.τ.find e = some te) (h1 : te.size = 1) (hj : j = (i : Int)) (hi : i < len) :
  Vf P (.indexAddr t x y) E B L (.v (.pointer (some (ad.add i)))) := by
 have := Vf.idx (B := B) (L := L) hx hy ht hd he hj hi
 rw [h1, Nat.mul_one] at this; exact this
theorem Vf.idxA {e : TypeId} {len kk off i : Nat} {ik : IntKind} {j : Int} (hx : evS E x = some (.p kk off)) (hy : evS E y = some (.v (.int ik j))) (ht : S.τ.find t = some ti) (hd : ti.d = .arr len e) (he : S.τ.find e = some te) (hj : j = (i : Int)) (hi : i < len) :
  Vf P (.indexAddr t x y) E B L (.p kk (off + i * te.size)) := fun T R β hE _ _ => by
 have h1 := (TT.find_ok S.ok ht).d
 rw [hd] at h1
 subst hj
 obtain ⟨b, hb, hv⟩ := den_p (hE.val hx)
 refine ⟨.pointer (some ⟨b, off + i * te.size, none⟩), by unfold den; rw [hb], fun ty => ?_⟩
 have := Val.indexArr (P := P) (L := R) (ty := ty) h1 (TT.find_ok S.ok he).size hv (Option.some.inj (hE.val hy)).symm hi
 rw [add_of] at this; exact this
theorem Vf.idxF {e : TypeId} {len i : Nat} {ik : IntKind} {j : Int} (hx : evS E x = some (.v (.pointer (some ad)))) (hy : evS E y = some (.v (.int ik j))) (ht : S.τ.find t = some ti) (hd : ti.d = .arr len e) (he : S.τ.find e = some te) (hj : j = (i : Int)) (hi : i < len) :
  Vf P (.indexAddr t x y) E B L (.v (.pointer (some (ad.add (i * te.size))))) := fun T R β hE _ _ => by
 have h1 := (TT.find_ok S.ok ht).d
 rw [hd] at h1
 subst hj
 exact ⟨_, rfl, fun ty => Val.indexArr h1 (TT.find_ok S.ok he).size (Option.some.inj (hE.val hx)).symm (Option.some.inj (hE.val hy)).symm hi⟩
theorem Vf.loadA {kk off : Nat} {bx : Bx} {s : SV} (hx : evS E x = some (.p kk off)) (hb : nth B kk = some (some bx)) (ht : S.τ.find t = some ti) (ha : ti.agg = false) (hc : nth bx.cells off = some s) : Vf P (.load t x) E B L s := fun T R β hE hB _ =>
 semLoad_ok S.ok hE hB (by unfold semLoad; rw [hx]; simp only [hb, ht, ha]; exact hc)
theorem Vf.loadAll {kk : Nat} {bx : Bx} {vs : List Value} (hx : evS E x = some (.p kk 0)) (hb : nth B kk = some (some bx)) (ht : S.τ.find t = some ti) (ha : ti.agg = true) (hc : bx.cells = vs.map .v) (hn : vs.length = ti.size) : Vf P (.load t x) E B L (.v (.agg vs.toArray)) := fun T R β hE hB _ => by
 obtain ⟨b, h1, h2⟩ := den_p (hE.val hx)
 obtain ⟨cs, h3, h4⟩ := hB kk b bx h1 (by rw [← nth_eq]; exact hb)
 rw [hc, denL_map_v] at h3
 cases h3
 refine ⟨_, rfl, fun ty => Val.loadN (by rw [(TT.find_ok S.ok ht).agg, ha]) (TT.find_ok S.ok ht).size h2 ⟨hn, fun i v hi => ?_⟩⟩
 rw [add_of, Nat.zero_add]
 exact cell_of h4 (by rw [List.getElem?_toArray]; exact hi)
end
section
variable {P : Program} {E : Look} {B : List (Option Bx)} {L : LH} {t t2 : TypeId} {x y : Operand} {ti te : TI} {ad : Addr} {v : Value}
end
section
variable {P : Program} {C : Cx P} {E : Look} {B : List (Option Bx)} {L : LH} {dst : Option Tmp} {ty : TypeId} {pos : String} {af : Array Edge} {gd : Option (Nat × Bool)}
def denA (E : Look) (xs : List Operand) : Option (List Value) := match evSL E xs with
 | some l => denL nm0 l
 | none => none
theorem denA_ok {β : Nm} {T : Array Value} (hE : EnvOk β E T) {xs : List Operand} {vs : List Value} (h : denA E xs = some vs) : xs.map (ev T) = vs := by
 unfold denA at h
 split at h
 ·rename_i l hl
  exact Option.some.inj ((hE.vals hl).symm.trans (denL_nil h β))
 ·cases h
def CallQ (B : List (Option Bx)) (Q : Value → LH → Prop) (sv : SV) (B' : List (Option Bx)) (L' : LH) : Prop := ∃ v, sv = .v v ∧ B' = B ∧ Q v L'
theorem Ef.call {g : FuncId} {xs : Array Operand} {ts : Array TypeId} {args : List Value} {Q : Value → LH → Prop} (ha : denA E xs.toList = some args) (hs : Sp C.X g args L Q) : Ef C ⟨dst, .call { callee := .value (.func g), args := xs, argTypes := ts }, ty, pos, af, gd⟩ E B L (CallQ B Q) := by
 intro T R β hE hH
 obtain ⟨⟨fn, h1, h2, h3⟩, hf⟩ := hs
 have hx : xs.map (ev T) = args.toArray := by rw [← denA_ok hE ha, ← List.map_toArray]
 refine ⟨rfl, Cal.func h1 h2 h3 hx _ _ _ _ _ _ ⟨_, (hf R hH.le).mono (Q' := fun v R' => ∃ L', Q v L' ∧ Post L R L' R') (H' := fun _ _ => False) (fun _ _ h => h) ?_, ?_⟩⟩
 ·rintro ch R' ⟨L', h, _⟩; exact h
 ·rintro v R' ⟨L', hq, hp⟩
  exact ⟨.v v, B, L', ⟨v, rfl, rfl, hq⟩, rfl, hH.call hp, fun _ _ => rfl⟩
end
section
variable {P : Program} [S : Seat P] {C : Cx P} {E : Look} {B : List (Option Bx)} {L : LH} {dst : Option Tmp} {ty : TypeId} {pos : String} {af : Array Edge} {gd : Option (Nat × Bool)}
def StoQ (L : LH) (B1 : List (Option Bx)) (sv : SV) (B' : List (Option Bx)) (L' : LH) : Prop := sv = .v undef ∧ B' = B1 ∧ L' = L
theorem Ef.sto {op : Op} {kk : Nat} {x : Bx} (h : semS S.τ E B op = some (kk, x)) : Ef C ⟨dst, op, ty, pos, af, gd⟩ E B L (StoQ L (B.set kk (some x))) := by
 intro T R β hE hH
 refine ⟨semS_defer h, semS_ok S.ok hE hH h dst ty pos af gd _ _ fun R' hR' => ?_⟩
 refine ⟨.v undef, _, L, ⟨rfl, rfl, rfl⟩, rfl, hR', fun j hj => ?_⟩
 by_cases e : kk = j
 ·subst e
  have hlt : ∃ b, β kk = some b := by
   unfold semS at h
   split at h
   ·split at h
    ·rename_i hx hy ht
     split at h
     ·split at h
      ·cases h
       obtain ⟨b, hb, _⟩ := den_p (hE.val hx)
       exact ⟨b, hb⟩
      ·cases h
     ·cases h
    ·cases h
   ·cases h
  obtain ⟨b, hb⟩ := hlt
  rw [hb] at hj; cases hj
 ·rw [List.getElem?_set_ne e]
theorem Ef.stoA {t : TypeId} {x y : Operand} {ti : TI} {kk off : Nat} {bt : TypeId} {s : SV} {cells cs cells' : List SV} (hx : evS E x = some (.p kk off)) (hy : evS E y = some s) (ht : S.τ.find t = some ti) (hb : nth B kk = some (some ⟨cells, bt⟩)) (hcs : cellsS s = cs) (h1 : cs.length = ti.size) (h2 : off + ti.size ≤ cells.length) (h3 : sglL cs = true) (hc : putL cells off cs = cells') :
  Ef C ⟨dst, .store t x y, ty, pos, af, gd⟩ E B L (StoQ L (B.set kk (some ⟨cells', bt⟩))) := by
 refine Ef.sto ?_
 unfold semS
 simp only [hx, hy, ht, hb, hcs, h1, h3, hc]
 rw [Nat.beq_refl, Nat.ble_eq_true_of_le h2]
theorem Ef.stoF {t e : TypeId} {x y : Operand} {ti : TI} {b off : Nat} {c : Array Value} {v : Value} (hx : evS E x = some (.v (.pointer (some ⟨b, off, none⟩)))) (hy : ∃ s, evS E y = some s ∧ den nm0 s = some v) (ht : S.τ.find t = some ti) (hb : L b = some (.cells c e (0, 0), true)) (hn : v.cells.size = ti.size) (hl : off + ti.size ≤ c.size)
  (hs : ∀ u ∈ v.cells.toList, single u = true) : Ef C ⟨dst, .store t x y, ty, pos, af, gd⟩ E B L (StoQ (L.put b (.cells (putRow c off v.cells.toList) e)) B) := by
 intro T R β hE hH
 obtain ⟨s, hy1, hy2⟩ := hy
 have ex := (Option.some.inj (hE.val hx)).symm
 have ey : ev T y = v := Option.some.inj ((hE.val hy1).symm.trans (den_nil hy2 β))
 refine ⟨rfl, ?_⟩
 simp only [execOp, ex, ey]
 rw [wpS_bind]
 unfold Instr.storeAt
 rw [wpS_bind]
 simp only [Instr.sureAddr, wpS_pure]
 unfold storeVar
 rw [wpS_bind, wpS_sizeOf (TT.find_ok S.ok ht).size]
 simp only [hn, ne_eq, not_true_eq_false, if_false]
 refine wpS_storeCells (e := e) v.cells.toList 0 c R (hH.le _ _ hb) (by rw [Array.length_toList, hn]; omega) hs (fun R' h1 h2 => ?_)
 rw [Nat.add_zero] at h1
 exact ⟨.v undef, B, _, ⟨rfl, rfl, rfl⟩, rfl, hH.setF hb h1 h2, fun _ _ => rfl⟩
end
theorem inc64 {i : Nat} (h : i ≤ 140737488355328) : SV.v (.int .i64 (IntKind.i64.wrap ((i : Int) + 1))) = .v (.int .i64 ((i + 1 : Nat) : Int)) := by
 rw [wrap64_in _ (by omega) (by omega)]; rfl
theorem w64 {x y : Int} (h : x = y) (h1 : -9223372036854775808 ≤ y) (h2 : y ≤ 9223372036854775807) : SV.v (.int .i64 (IntKind.i64.wrap x)) = .v (.int .i64 y) := by
 rw [h, wrap64_in _ h1 h2]
end Go.Mz


namespace Go.Mz
open Go.Conc
section
variable {P : Program} (X : Logic P)
variable {f : FuncId} {T : Array Value} {k : List Item} {ds : List Deferred} {kd : CallKind} {ro : Option Nat} {cs : List Frame} {L : LH}
theorem sem_step {α : Type} {s : Sem α} {K : Goroutine → LH → Prop} {w : World} {fn : FuncId} {F : Result α → GStep} (hs : Sub L w)
  (h : wpS P (fun a L' => ∀ w', Sub L' w' → ∃ g' w'' es L'', F (.ok a w') = .go g' w'' es ∧ Tr L' L'' w' w'' es ∧ K g' L'') (fun _ _ => False) s L) :
  ∃ g' w' es L', GStep.after (seen P fn (s.runT P w #[]).2) (F (s.runT P w #[]).1) = .go g' w' es ∧ Tr L L' w w' es ∧ K g' L' := by
 have hout := wpS_sound s L h w #[] hs
 have he : ∃ r es₀, s.runT P w #[] = (r, es₀) := ⟨_, _, rfl⟩
 obtain ⟨r, es₀, he⟩ := he
 rw [he] at hout ⊢
 cases r with
 | halt hh w' => cases hh <;> first | exact hout.elim | (obtain ⟨_, _, _, _, h3⟩ := hout; exact h3.elim)
 | ok a w' =>
  obtain ⟨L', us, h1, h2, h3⟩ := hout
  rw [Array.empty_append] at h1
  subst h1
  obtain ⟨g', w'', es, L'', h4, h5, h6⟩ := h3 w' h2.sub
  refine ⟨g', w'', seen P fn es₀ ++ es, L'', ?_, (h2.fewer (seen_sub _ _ _)).trans h5, h6⟩
  simp only
  rw [h4, after_go]
theorem Logic.rangeFunc {fo : Operand} {ps : Array Tmp} {asg body : Code}
  (h : wpS P (fun x L1 => wpS P (nextOut P X.Go (Fr f T (.inRangeFunc x.1 :: k) (x.2 ++ ds) .run kd ro) cs .normal) (panicOut X.Go (Fr f T (.inRangeFunc x.1 :: k) (x.2 ++ ds) .run kd ro) cs)
   (do let d ← resolve (ev T) { callee := .value fo, args := #[.const (.func (.yield x.1) #[] #[])], argTypes := #[] } 0; invoke d.target d.args) L1) (fun _ _ => False) (Instr.enterLoop f T ps asg body ro) L) :
  X.Go (G (Fr f T (.code (.rangeFunc fo ps asg body) :: k) ds .run kd ro) cs) L :=
 X.step _ L rfl fun w hs => by
  have key := sem_step (P := P) (L := L) (K := X.Go) (w := w) (fn := f) (F := fun rr => match rr with
   | .ok (l, mark) w => stepG.apply P true (Fr f T (.inRangeFunc l :: k) (mark ++ ds) .run kd ro) cs none (do let d ← resolve (ev T) { callee := .value fo, args := #[.const (.func (.yield l) #[] #[])], argTypes := #[] } 0; invoke d.target d.args) w
   | .halt _ w => .ended (.stuck "range over a function: no such loop" ((Fr f T (.code (.rangeFunc fo ps asg body) :: k) ds .run kd ro).pos P)) w) hs (wpS_mono (fun x L1 hx w1 hw1 => ?_) (fun _ _ h => h) _ _ h)
  ·obtain ⟨g', w', es, L', h1, h2, h3⟩ := key
   refine ⟨g', w', es, L', ?_, h2, h3⟩
   rw [← h1]
   simp only [G, Fr, stepG, stepG.exec]
   have he : ∀ (l : Nat) (mark : List Deferred), Frame.eval { fn := f, tmps := T, todo := .inRangeFunc l :: k, defers := mark ++ ds, mode := .run, kind := kd, roundOf := ro } = ev T := fun l mark => eval_Fr f T (.inRangeFunc l :: k) (mark ++ ds) .run kd ro
   simp only [he]
   rfl
  ·obtain ⟨l, mark⟩ := x
   obtain ⟨g', w', es, L', h1, h2, h3⟩ := apply_sound (K := X.Go) (fr := Fr f T (.inRangeFunc l :: k) (mark ++ ds) .run kd ro) (cs := cs) hw1 hx
   exact ⟨g', w', es, L', h1, h2, h3⟩
theorem Logic.endRange {l : Nat} (h : wpS P (fun j L' => X.Go (G (Fr f T ((j.map Item.code).toList ++ k) ds .run kd ro) cs) L') (fun _ _ => False) (Instr.endLoop l) L) : X.Go (G (Fr f T (.endRangeFunc l :: k) ds .run kd ro) cs) L :=
 X.step _ L rfl fun w hs => by
  have key := sem_step (P := P) (L := L) (K := X.Go) (w := w) (fn := f) (F := fun rr => match rr with
   | .ok jump w => .go (G (Fr f T ((jump.map Item.code).toList ++ k) ds .run kd ro) cs) w
   | .halt (.panic v) w => .go (G ((Fr f T (.endRangeFunc l :: k) ds .run kd ro).raise [{ v, recovered := false }]) cs) w
   | .halt _ w => .ended (.stuck "range over a function: no such loop" ((Fr f T (.endRangeFunc l :: k) ds .run kd ro).pos P)) w) hs (wpS_mono (fun x L1 hx w1 hw1 => ⟨_, _, #[], L1, rfl, Tr.refl hw1, hx⟩) (fun _ _ h => h) _ _ h)
  obtain ⟨g', w', es, L', h1, h2, h3⟩ := key
  refine ⟨g', w', es, L', ?_, h2, h3⟩
  rw [← h1]
  simp only [G, Fr, stepG, stepG.exec]
  rfl
theorem Logic.beginRound {l : Nat} (h : wpS P (fun _ L' => X.Go (G (Fr f T k ds .run kd (some l)) cs) L') (fun _ _ => False) (Instr.beginRound l) L) : X.Go (G (Fr f T (.beginRound :: k) ds .run kd (some l)) cs) L :=
 X.step _ L rfl fun w hs => by
  have h' : wpS P (nextOut P X.Go (Fr f T (.beginRound :: k) ds .run kd (some l)) cs .normal) (panicOut X.Go (Fr f T (.beginRound :: k) ds .run kd (some l)) cs) (do Instr.beginRound l; pure .skip) L := by
   rw [wpS_bind]
   exact wpS_mono (fun _ L1 hx => hx) (fun _ _ h => h.elim) _ _ h
  obtain ⟨g', w', es, L', h1, h2, h3⟩ := apply_sound (K := X.Go) (fr := Fr f T (.beginRound :: k) ds .run kd (some l)) (cs := cs) hs h'
  exact ⟨g', w', es, L', h1, h2, h3⟩
inductive Leaves : List Item → Option Code → Prop
 | nil : Leaves [] none
 | ret {k : List Item} : Leaves (.code .ret :: k) (some .ret)
 | exit {id : Nat} {k : List Item} (h : exitTo id k = none) : Leaves (.code (.exit id) :: k) (some (.exit id))
 | goto {l : Nat} {k : List Item} (h : gotoIn l k = none) : Leaves (.code (.goto l) :: k) (some (.goto l))
theorem Logic.endRound {l : Nat} {jump : Option Code} {c : Frame} (hk : Leaves k jump) (hkd : kd = .normal) (h : wpS P (fun v L' => X.Go (G (c.finish v) cs) L') (fun _ _ => False) (Instr.endRound l jump) L) : X.Go (G (Fr f T k ds .run kd (some l)) (c :: cs)) L :=
 X.step _ L rfl fun w hs => by
  subst hkd
  have key := sem_step (P := P) (L := L) (K := X.Go) (w := w) (fn := f) (F := fun rr => match rr with
   | .ok v w => doReturn P X.main (Fr f T k ds .run .normal (some l)) (c :: cs) none v w
   | .halt _ w => .ended (.stuck "range over a function: no such loop" ((Fr f T k ds .run .normal (some l)).pos P)) w) hs (wpS_mono (fun x L1 hx w1 hw1 => ⟨G (c.finish x) cs, w1, #[], L1, rfl, Tr.refl hw1, hx⟩) (fun _ _ h => h) _ _ h)
  obtain ⟨g', w', es, L', h1, h2, h3⟩ := key
  refine ⟨g', w', es, L', ?_, h2, h3⟩
  rw [← h1]
  cases hk with
  | nil => simp only [G, Fr, stepG, stepG.exec]; rfl
  | ret => simp only [G, Fr, stepG, stepG.exec]; rfl
  | exit hx => simp only [G, Fr, stepG, stepG.exec, hx]; rfl
  | goto hx => simp only [G, Fr, stepG, stepG.exec, hx]; rfl
def leaving : FrameMode → Bool
 | .run => false
 | _ => true
theorem Logic.collected {r : Nat} {a : Array Value} {md : FrameMode} (hm : leaving md = true) (h : wpS P (fun calls L' => X.Go (G (Fr f T k (calls ++ ds) md kd ro) cs) L') (fun _ _ => False) (Instr.takeDeferred r) L) :
  X.Go (G (Fr f T k (⟨.collected r, a⟩ :: ds) md kd ro) cs) L :=
 X.step _ L rfl fun w hs => by
  have key := sem_step (P := P) (L := L) (K := X.Go) (w := w) (fn := f) (F := fun rr => match rr with
   | .ok calls w => .go (G (Fr f T k (calls ++ ds) md kd ro) cs) w
   | .halt _ w => .ended (.stuck "the deferred calls of a range-over-func loop have been taken" ((Fr f T k (({ target := .collected r, args := a } : Deferred) :: ds) md kd ro).pos P)) w) hs (wpS_mono (fun x L1 hx w1 hw1 => ⟨_, _, #[], L1, rfl, Tr.refl hw1, hx⟩) (fun _ _ h => h) _ _ h)
  obtain ⟨g', w', es, L', h1, h2, h3⟩ := key
  refine ⟨g', w', es, L', ?_, h2, h3⟩
  rw [← h1]
  cases md with
  | run => cases hm
  | returning => simp only [G, Fr, stepG, unwind]; rfl
  | panicking ch => simp only [G, Fr, stepG, unwind]; rfl
end
def CallV {P : Program} (X : Logic P) (fv : Value) (args : List Value) (R : LH) (Q : Value → LH → Prop) : Prop :=
 match fv with
 | .func (.func g) f1 f2 => Callable P g ∧ Fn X g (f1 ++ args.toArray ++ f2) R Q
 | .func (.yield l) f1 _ => f1 = #[] ∧ ∃ r wr, R l = some (.loop r, wr) ∧ args.length = r.params.size ∧
   FnF X (Frame.round l r.fn ((r.params.zip args.toArray).foldl (fun tmps x => tmps.setIfInBounds x.1 x.2) r.tmps) r.assign r.body .normal) R Q
 | _ => False
def SpV {P : Program} (X : Logic P) (fv : Value) (args : List Value) (L : LH) (Q : Value → LH → Prop) : Prop := ∀ R, Le L R → CallV X fv args R (fun v R' => ∃ L', Q v L' ∧ Post L R L' R')
theorem CallV.mono {P : Program} {X : Logic P} {fv : Value} {args : List Value} {R : LH} {Q Q' : Value → LH → Prop} (h : CallV X fv args R Q) (hq : ∀ v L', Q v L' → Q' v L') : CallV X fv args R Q' := by
 unfold CallV at h ⊢
 split at h
 ·exact ⟨h.1, h.2.mono hq (fun _ _ h => h)⟩
 ·obtain ⟨h1, r, wr, h2, h3, h4⟩ := h
  exact ⟨h1, r, wr, h2, h3, h4.mono hq⟩
 ·exact h.elim
theorem SpV.mono {P : Program} {X : Logic P} {fv : Value} {args : List Value} {L : LH} {Q Q' : Value → LH → Prop} (h : SpV X fv args L Q) (hq : ∀ v L', Q v L' → Q' v L') : SpV X fv args L Q' :=
 fun R hR => (h R hR).mono fun _ _ ⟨L', h1, h2⟩ => ⟨L', hq _ _ h1, h2⟩
theorem Sp.toV {P : Program} {X : Logic P} {g : FuncId} {args f1 f2 : List Value} {L : LH} {Q : Value → LH → Prop} (h : Sp X g (f1 ++ args ++ f2) L Q) : SpV X (.func (.func g) f1.toArray f2.toArray) args L Q := fun R hR => by
 refine ⟨h.1, ?_⟩
 have := h.2 R hR
 have e : f1.toArray ++ args.toArray ++ f2.toArray = (f1 ++ args ++ f2).toArray := by simp
 rw [e]
 exact this.mono (fun _ _ h => h) fun ch R' ⟨L', h, _⟩ => h
theorem Post.of_le {L1 L R L1' R' : LH} (h : Post L1 R L1' R') (hL : Le L1 L) (hR : Le L R) : ∃ L', Post L R L' R' ∧ Post L1 L L1' L' := by
 refine ⟨fun b => if (L b).isSome ∨ (L1' b).isSome then R' b else none, ⟨fun b x hx => ?_, fun b x h1 h2 => ?_, fun b hb => ?_, fun b hb => ?_⟩, ⟨fun b x hx => ?_, fun b x h1 h2 => ?_, fun b hb => ?_, h.dom⟩⟩
 ·split at hx
  ·exact hx
  ·cases hx
 ·refine h.keep b x ?_ h2
  cases hh : L1 b with
  | none => rfl
  | some y => rw [hL b y hh] at h1; cases h1
 ·split at hb
  ·rename_i hc
   rcases hc with hc | hc
   ·exact .inl (by intro e; rw [e] at hc; cases hc)
   ·rcases h.fresh b (by intro e; rw [e] at hc; cases hc) with e | e
    ·cases hh : L1 b with
     | none => exact absurd hh e
     | some y => exact .inl (by rw [hL b y hh]; simp)
    ·exact .inr e
  ·exact absurd rfl hb
 ·cases hh : L b with
  | none => exact absurd hh hb
  | some y =>
   rw [if_pos (.inl rfl)]
   cases h1 : L1 b with
   | none => rw [h.keep b y h1 (hR b y hh)]; simp
   | some z =>
    cases h2 : L1' b with
    | none => exact absurd h2 (h.dom b (by rw [h1]; simp))
    | some u => rw [h.le b u h2]; simp
 ·rw [if_pos (.inr (by rw [hx]; rfl))]
  exact h.le b x hx
 ·rw [if_pos (.inl (by rw [h2]; rfl))]
  exact h.keep b x h1 (hR b x h2)
 ·rcases h.fresh b hb with e | e
  ·exact .inl e
  ·refine .inr ?_
   cases hh : L b with
   | none => rfl
   | some y => rw [hR b y hh] at e; cases e
theorem SpV.frame {P : Program} {X : Logic P} {fv : Value} {args : List Value} {L1 L : LH} {Q : Value → LH → Prop} (h : SpV X fv args L1 Q) (hL : Le L1 L) : SpV X fv args L (fun v L' => ∃ L1', Q v L1' ∧ Post L1 L L1' L') := fun R hR =>
 (h R (hL.trans hR)).mono fun v R' ⟨L1', h1, h2⟩ => let ⟨L', h3, h4⟩ := h2.of_le hL hR; ⟨L', ⟨L1', h1, h4⟩, h3⟩
theorem Sp.frame {P : Program} {X : Logic P} {g : FuncId} {args : List Value} {L1 L : LH} {Q : Value → LH → Prop} (h : Sp X g args L1 Q) (hL : Le L1 L) : Sp X g args L (fun v L' => ∃ L1', Q v L1' ∧ Post L1 L L1' L') :=
 ⟨h.1, fun R hR => (h.2 R (hL.trans hR)).mono (fun v R' ⟨L1', h1, h2⟩ => let ⟨L', h3, h4⟩ := h2.of_le hL hR; ⟨L', ⟨L1', h1, h4⟩, h3⟩) fun ch R' ⟨L', h, _⟩ => h.elim⟩
theorem wpS_yield {P : Program} {R : LH} {l : Nat} {r : Loop} {wr : Bool} {args : Array Value} {Q : Next → LH → Prop} {H : Value → LH → Prop} (hl : R l = some (.loop r, wr)) (hn : args.size = r.params.size)
  (hq : Q (.round l r.fn ((r.params.zip args).foldl (fun tmps x => tmps.setIfInBounds x.1 x.2) r.tmps) r.assign r.body) R) : wpS P Q H (Instr.yield l args) R := by
 unfold Instr.yield Instr.getLoop
 rw [wpS_bind, wpS_bind]
 show wpS P _ H (.getObj l .pure) R
 unfold wpS
 rw [hl]
 show wpS P Q H (if args.size ≠ r.params.size then _ else _) R
 rw [if_neg (by simpa using hn)]
 exact hq
theorem wpS_newObj {P : Program} {R : LH} {o : Obj} {Q : Nat → LH → Prop} {H : Value → LH → Prop} : wpS P Q H (newObj o) R = ∀ b, R b = none → Q b (R.put b o) := rfl
theorem wpS_getLoop {P : Program} {R : LH} {l : Nat} {r : Loop} {wr : Bool} {Q : Loop → LH → Prop} {H : Value → LH → Prop} (hl : R l = some (.loop r, wr)) : wpS P Q H (Instr.getLoop l) R = Q r R := by
 unfold Instr.getLoop
 rw [wpS_bind]
 show wpS P _ H (.getObj l .pure) R = _
 unfold wpS
 rw [hl]
 rfl
theorem wpS_setObj {P : Program} {R : LH} {l : Nat} {o o' : Obj} {Q : Unit → LH → Prop} {H : Value → LH → Prop} (hl : R l = some (o', true)) (h1 : special o' = false) (h2 : special o = false) : wpS P Q H (setObj l o) R = Q () (R.put l o) := by
 show wpS P Q H (.setObj l o (.pure ())) R = _
 unfold wpS
 rw [hl]
 simp only [h1, h2, Bool.or_self, Bool.false_eq_true, if_false]
 rfl
section
variable {P : Program} {C : Cx P} {E : Look} {B : List (Option Bx)} {L : LH} {dst : Option Tmp} {ty : TypeId} {pos : String} {af : Array Edge} {gd : Option (Nat × Bool)}
theorem Ef.callS {x : Operand} {sv : SV} {fv : Value} {xs : Array Operand} {ts : Array TypeId} {args : List Value} {Q : Value → LH → Prop} (hv : evS E x = some sv) (hd : den nm0 sv = some fv) (ha : denA E xs.toList = some args) (hs : SpV C.X fv args L Q) :
  Ef C ⟨dst, .call { callee := .value x, args := xs, argTypes := ts }, ty, pos, af, gd⟩ E B L (CallQ B Q) := by
 intro T R β hE hH
 have hc := hs R hH.le
 have hx : xs.map (ev T) = args.toArray := by rw [← denA_ok hE ha, ← List.map_toArray]
 have hfv : ev T x = fv := Option.some.inj ((hE.val hv).symm.trans (den_nil hd β))
 refine ⟨rfl, ?_⟩
 have fin : ∀ v R', (∃ L', Q v L' ∧ Post L R L' R') → ∃ sv B' L', CallQ B Q sv B' L' ∧ den β sv = some v ∧ HeapOk C.L0 C.R0 β B' L' R' ∧ ∀ kk, β kk = none → B'[kk]? = B[kk]? := fun v R' ⟨L', hq, hp⟩ => ⟨.v v, B, L', ⟨v, rfl, rfl, hq⟩, rfl, hH.call hp, fun _ _ => rfl⟩
 unfold CallV at hc
 split at hc
 ·rename_i g f1 f2
  obtain ⟨⟨fn, g1, g2, g3⟩, hf⟩ := hc
  exact Cal.value g1 g2 g3 hfv hx rfl _ _ _ _ _ _ ⟨_, hf, fin⟩
 ·rename_i l f1 f2
  obtain ⟨rfl, r, wr, h1, h2, h3⟩ := hc
  simp only [execOp, resolve, hfv, Deferred.ofValue, hx]
  rw [wpS_bind, wpS_pure]
  simp only [invoke, Array.empty_append]
  exact wpS_yield h1 (by simpa using h2) ⟨_, h3, fin⟩
 ·exact hc.elim
end
section
variable {P : Program} {C : Cx P} {n : Nat} {ds : List Deferred} {k : List Item} {E : Env} {B : List (Option Bx)} {L : LH}
theorem nm_upto0 (β : Nm) : β.upto 0 = nm0 := by funext k; simp [Nm.upto, nm0]
theorem EnvOk.closed {β : Nm} {E E' : Env} {T : Array Value} (h : EnvOk β (get E) T) (hs : SubE E E') (h0 : scE 0 E' = true) : EnvOk nm0 (get E') T := fun s x hx => by
 have := sc_den (scE_get h0 s x hx) (h s x (hs.get s x hx))
 rw [nm_upto0] at this; exact this
abbrev lpO (st : LoopState) (pd : Option Code) (f : FuncId) (T : Array Value) (ps : Array Tmp) (asg body : Code) (d : Nat) : Obj := .loop ⟨st, pd, f, T, ps, asg, body, d⟩
theorem HeapOk.two {L0 R0 : LH} {β : Nm} {B : List (Option Bx)} {L R : LH} (h : HeapOk L0 R0 β B L R) {d l : Nat} (hd : R d = none) (o o' : Obj) (hl : (R.put d o) l = none) : l ≠ d ∧ R l = none ∧ HeapOk L0 R0 β B ((L.put d o).put l o') ((R.put d o).put l o') := by
 have hne : l ≠ d := fun e => by subst e; rw [put_same] at hl; cases hl
 rw [put_ne _ _ hne] at hl
 refine ⟨hne, hl, ?_⟩
 have h1 := h.newF hd o
 exact h1.newF (by rw [put_ne _ _ hne]; exact hl) o'
theorem W.range {fo : Operand} {ps : Array Tmp} {asg body : Code} {sv : SV} {fv : Value} (hro : C.ro = none) (E' : Env) (hE' : SubE E E') (h0 : scE 0 E' = true) (hf : evS (get E) fo = some sv) (hv : den nm0 sv = some fv) (Qy : Array Value → Nat → Nat → LoopState → Option Code → LH → Prop)
  (h : ∀ (T : Array Value) (d l : Nat), T.size = n → EnvOk nm0 (get E') T → L d = none → L l = none → l ≠ d → C.R0 d = none → C.R0 l = none →
   SpV C.X fv [.func (.yield l) #[] #[]] ((L.put d (.deferred (some []))).put l (lpO .ready none C.f T ps asg body d)) (fun _ L' => ∃ st pd, st ≠ .busy ∧ L' l = some (lpO st pd C.f T ps asg body d, true) ∧ Qy T d l st pd L'))
  (w : ∀ T d l st pd L', Qy T d l st pd L' → W C n (⟨.collected d, #[]⟩ :: ds) ((pd.map Item.code).toList ++ k) E B (L'.put l (lpO .exhausted pd C.f T ps asg body d))) :
  W C n ds (.code (.rangeFunc fo ps asg body) :: k) E B L := by
 intro T R β hT hE hH
 refine C.X.rangeFunc ?_
 rw [hro]
 unfold Instr.enterLoop
 simp only
 rw [wpS_bind, wpS_newObj]
 intro d hd
 rw [wpS_bind, wpS_pure, wpS_bind, wpS_newObj]
 intro l hl
 rw [wpS_pure]
 obtain ⟨hne, hl', hH'⟩ := hH.two hd (.deferred (some [])) (lpO .ready none C.f T ps asg body d) hl
 obtain ⟨d1, d2⟩ := hH.free hd
 obtain ⟨l1, l2⟩ := hH.free hl'
 have hfv : ev T fo = fv := Option.some.inj ((hE.val hf).symm.trans (den_nil hv β))
 have hc := h T d l hT (hE.closed hE' h0) d1 l1 hne d2 l2 _ hH'.le
 have fin : ∀ (v : Value) R', (∃ L', (∃ st pd, st ≠ .busy ∧ L' l = some (lpO st pd C.f T ps asg body d, true) ∧ Qy T d l st pd L') ∧ Post ((L.put d (.deferred (some []))).put l (lpO .ready none C.f T ps asg body d)) ((R.put d (.deferred (some []))).put l (lpO .ready none C.f T ps asg body d)) L' R') →
   C.X.Go (G (Fr C.f T (.endRangeFunc l :: k) (⟨.collected d, #[]⟩ :: ds) .run C.kd none) C.cs) R' := by
  rintro v R' ⟨L', ⟨st, pd, hst, hL', hq⟩, hp⟩
  have hH2 := hH'.call hp
  have hR' := hp.le _ _ hL'
  refine C.X.endRange ?_
  unfold Instr.endLoop
  rw [wpS_bind, wpS_getLoop hR']
  have hb : (st == LoopState.busy) = false := by simpa using hst
  simp only [hb, Bool.false_eq_true, if_false]
  rw [wpS_bind, wpS_setObj hR' rfl rfl, wpS_pure]
  have := w T d l st pd L' hq T _ β hT hE (hH2.setF hL' (put_same _ _ _) (fun b' hb' => put_ne _ _ hb'))
  rw [hro] at this
  exact this
 unfold CallV at hc
 have hfin : ∀ v, (Fr C.f T (.inRangeFunc l :: k) ([⟨.collected d, #[]⟩] ++ ds) .run C.kd none).finish v = Fr C.f T (.endRangeFunc l :: k) (⟨.collected d, #[]⟩ :: ds) .run C.kd none := fun v => rfl
 simp only [resolve, hfv]
 split at hc
 ·rename_i g f1 f2
  obtain ⟨⟨fn, g1, g2, g3⟩, hF⟩ := hc
  simp only [Deferred.ofValue, wpS_bind, wpS_pure, invoke]
  rw [wpS_callFunc g1 g2 g3]
  have := hF .normal (Fr C.f T (.inRangeFunc l :: k) ([⟨.collected d, #[]⟩] ++ ds) .run C.kd none) C.cs (.inl rfl) (fun v R' hv => by rw [hfin]; exact fin v R' hv) (fun _ _ h => h.elim)
  simpa [nextOut, ev] using this
 ·rename_i l' f1 f2
  obtain ⟨rfl, r, wr, h1, h2, h3⟩ := hc
  simp only [Deferred.ofValue, wpS_bind, wpS_pure, invoke]
  have := h3 (Fr C.f T (.inRangeFunc l :: k) ([⟨.collected d, #[]⟩] ++ ds) .run C.kd none) C.cs (fun v R' hv => by rw [hfin]; exact fin v R' hv)
  refine wpS_yield h1 (by simpa using h2) ?_
  simpa [nextOut, ev] using this
 ·exact hc.elim
structure RtR (C : Cx P) (Q : Value → LH → Prop) : Prop where
 kd : C.kd = .normal
 cs : ∃ c cs, C.cs = c :: cs ∧ ∀ v R' L', Q v L' → Post C.L0 C.R0 L' R' → C.X.Go (G (c.finish v) cs) R'
def parEnv : List Tmp → List Value → Env → Env
 | p :: ps, a :: us, E => parEnv ps us ((p, .v a) :: E)
 | _, _, E => E
theorem parEnv_ok {n : Nat} : ∀ {ps : List Tmp} {us : List Value} {E : Env} {T : Array Value}, EnvOk nm0 (get E) T → T.size = n → (ps.all fun p => Nat.blt p n) = true →
  EnvOk nm0 (get (parEnv ps us E)) ((ps.zip us).foldl (fun tmps x => tmps.setIfInBounds x.1 x.2) T) ∧ ((ps.zip us).foldl (fun tmps x => tmps.setIfInBounds x.1 x.2) T).size = n
 | [], _, _, _, h, hT, _ => by simp [parEnv, h, hT]
 | _ :: _, [], _, _, h, hT, _ => by simp [parEnv, h, hT]
 | p :: ps, a :: us, E, T, h, hT, hp => by
  simp only [List.all_cons, Bool.and_eq_true] at hp
  simp only [parEnv, List.zip_cons_cons, List.foldl_cons]
  exact parEnv_ok (h.set (sv := .v a) rfl (upd_set a (by rw [hT]; exact lt_of_blt hp.1))) (by simp [hT]) hp.2
theorem SpV.round {X : Logic P} {f l d : Nat} {T : Array Value} {ps : Array Tmp} {asg body : Code} {args : List Value} {L1 : LH} {Q : Value → LH → Prop} {E' : Env} {pd : Option Code} (hl : L1 l = some (lpO .ready pd f T ps asg body d, true)) (hn : args.length = ps.size) (hT : T.size = n) (hE : EnvOk nm0 (get E') T)
  (hp : (ps.toList.all fun p => Nat.blt p n) = true) (h : ∀ C : Cx P, C.X = X → C.f = f → C.ro = some l → C.L0 = L1 → RtR C Q → W C n [] [.code asg, .beginRound, .code body] (parEnv ps.toList args E') [] L1) : SpV X (.func (.yield l) #[] #[]) args L1 Q := fun R hR => by
 refine ⟨rfl, _, true, hR _ _ hl, hn, fun c cs hc => ?_⟩
 obtain ⟨h1, h2⟩ := parEnv_ok (us := args) hE hT hp
 have e : (ps.zip args.toArray).foldl (fun tmps x => tmps.setIfInBounds x.1 x.2) T = (ps.toList.zip args).foldl (fun tmps x => tmps.setIfInBounds x.1 x.2) T := by
  rw [← Array.foldl_toList, Array.toList_zip]
 simp only
 rw [e]
 exact h ⟨X, f, .normal, some l, c :: cs, L1, R⟩ rfl rfl rfl rfl ⟨rfl, c, cs, rfl, fun v R' L' hq hp => hc v R' ⟨L', hq, hp⟩⟩ _ R nm0 h2 h1
  ⟨(fun _ _ _ h => by cases h), (fun _ _ h => by cases h), (fun _ _ h => by cases h), (fun k b x hk => by cases hk), hR, fun b x _ h => h, fun b hb => .inl hb, fun b hb => hb⟩
theorem W.beginR {l : Nat} {r : Loop} (hro : C.ro = some l) (hl : L l = some (.loop r, true)) (hs : r.state = .ready) (w : W C n ds k E B (L.put l (.loop { r with state := .busy }))) : W C n ds (.beginRound :: k) E B L := by
 intro T R β hT hE hH
 have hR := hH.le _ _ hl
 have := w T _ β hT hE (hH.setF hl (put_same _ _ _) (fun b' hb' => put_ne R _ hb'))
 rw [hro] at this ⊢
 refine C.X.beginRound ?_
 unfold Instr.beginRound
 rw [wpS_bind, wpS_getLoop hR, wpS_bind, wpS_setObj hR rfl rfl]
 rw [hs, wpS_pure]
 exact this
theorem W.endR {l : Nat} {r : Loop} {jump : Option Code} {Q : Value → LH → Prop} (rt : RtR C Q) (hro : C.ro = some l) (hk : Leaves k jump) (hl : L l = some (.loop r, true)) (hq : Q (.bool jump.isNone) (L.put l (.loop { r with state := if jump.isNone then .ready else .done, pending := jump }))) : W C n ds k E B L := by
 intro T R β hT hE hH
 have hR := hH.le _ _ hl
 obtain ⟨hkd, c, cs, hcs, hc⟩ := rt
 rw [hro, hcs]
 refine C.X.endRound hk hkd ?_
 unfold Instr.endRound
 rw [wpS_bind, wpS_getLoop hR, wpS_bind, wpS_setObj hR rfl rfl, wpS_pure]
 exact hc _ _ _ hq (hH.setF hl (put_same _ _ _) (fun b' hb' => put_ne R _ hb')).post
end
section
variable {P : Program} {C : Cx P} {n : Nat} {ds : List Deferred} {k : List Item} {E : Env} {B : List (Option Bx)} {L : LH}
def WM {P : Program} (C : Cx P) (n : Nat) (ds : List Deferred) (md : FrameMode) (E : Env) (B : List (Option Bx)) (L : LH) : Prop :=
 ∀ (T : Array Value) (R : LH) (β : Nm) (k : List Item), T.size = n → EnvOk β (get E) T → HeapOk C.L0 C.R0 β B L R → C.X.Go (G (Fr C.f T k ds md C.kd C.ro) C.cs) R
theorem W.out (hro : C.ro = none) (hk : Leaves k none ∨ Leaves k (some .ret)) (w : WM C n ds .returning E B L) : W C n ds k E B L := by
 intro T R β hT hE hH
 refine C.X.quiet (g' := G (Fr C.f T k ds .returning C.kd C.ro) C.cs) rfl (fun w => ?_) (w T R β k hT hE hH)
 rw [hro]
 rcases hk with hk | hk
 ·cases hk with
  | nil => simp [G, Fr, stepG, stepG.exec]
 ·cases hk with
  | ret => simp [G, Fr, stepG, stepG.exec]
theorem WM.collected {r : Nat} {a : Array Value} {md : FrameMode} (hm : leaving md = true) (hr : L r = some (.deferred (some []), true)) (w : WM C n ds md E B (L.put r (.deferred none))) : WM C n (⟨.collected r, a⟩ :: ds) md E B L := by
 intro T R β k hT hE hH
 have hR := hH.le _ _ hr
 refine C.X.collected hm ?_
 unfold Instr.takeDeferred
 rw [wpS_bind]
 show wpS P _ _ (.getObj r .pure) R
 unfold wpS
 rw [hR]
 simp only [special, Bool.false_eq_true, if_false]
 show wpS P _ _ (pure _) R
 rw [wpS_pure]
 simp only
 rw [wpS_bind, wpS_setObj hR rfl rfl, wpS_pure]
 exact w T _ β k hT hE (hH.setF hr (put_same _ _ _) (fun b' hb' => put_ne R _ hb'))
theorem WM.ret [S : Seat P] {fn : Func} {Q : Value → LH → Prop} {H : List PanicEntry → LH → Prop} {svs : List SV} {vs : List Value} (r : Rt C fn Q H) (hs : resS S.τ (get E) B fn.results.toList = some svs) (hv : denL nm0 svs = some vs) (hq : Q (retV vs) L) : WM C n [] .returning E B L := by
 intro T R β k hT hE hH
 obtain ⟨hf, hro, hkd, c, cs, hcs, h1, _⟩ := r
 rw [hro, hcs]
 refine C.X.leave hf hkd ?_
 unfold results
 rw [wpS_bind, Array.mapM_eq_mapM_toList, ← bind_pure_comp, wpS_bind]
 refine resS_ok S.ok (fun t => rfl) (fun a t => rfl) hE hH.boxes hs (denL_nil hv β) ?_
 simp only [wpS_pure]
 have e : (if h : vs.toArray.size = 1 then vs.toArray[0] else Value.tuple vs.toArray) = retV vs := by
  match vs with
  | [] => rfl
  | [v] => rfl
  | _ :: _ :: _ => rfl
 rw [e]
 exact h1 _ _ _ hq hH.post
end
section
variable {P : Program} {C : Cx P} {n : Nat} {ds : List Deferred} {k : List Item} {E : Env} {B : List (Option Bx)} {L : LH}
theorem W.goto {l : Nat} {k' : List Item} (h : gotoIn l k = some k') (w : W C n ds k' E B L) : W C n ds (.code (.goto l) :: k) E B L := fun T R β hT hE hH => C.X.goto h (w T R β hT hE hH)
end
section
variable {P : Program} {C : Cx P} {n : Nat} {ds : List Deferred} {k : List Item} {E : Env} {B : List (Option Bx)} {L : LH} {ops : Array Oper} {i : Nat} {rest : List Nat}
variable {m : Nat} {Lf : LH} {td : List Nat} {V E0 : Env}
end
section
variable {P : Program} {C : Cx P} {E : Look} {B : List (Option Bx)} {L : LH} {dst : Option Tmp} {op : Op} {ty : TypeId} {pos : String} {af : Array Edge} {gd : Option (Nat × Bool)} {sv : SV}
def SameQ (B : List (Option Bx)) (L : LH) (sv sv' : SV) (B' : List (Option Bx)) (L' : LH) : Prop := sv' = sv ∧ B' = B ∧ L' = L
theorem Ef.val (hdf : isDefer op = false) (h : Vf P op E B L sv) : Ef C ⟨dst, op, ty, pos, af, gd⟩ E B L (SameQ B L sv) := by
 intro T R β hE hH
 obtain ⟨v, h1, h2⟩ := h T R β hE hH.boxes hH.le
 exact ⟨hdf, h2 ty _ _ _ _ _ _ ⟨sv, B, L, ⟨rfl, rfl, rfl⟩, h1, hH, fun _ _ => rfl⟩⟩
def noL : LH := fun _ => none
theorem noL_le (L : LH) : Le noL L := fun b x h => by cases h
end
theorem scL_v (m : Nat) : ∀ l : List Value, scL m (l.map SV.v) = true
 | [] => rfl
 | _ :: l => by rw [List.map_cons]; unfold scL; exact scL_v m l
theorem scB_v {m : Nat} {r : List (Option Bx)} (l : List Value) (t : TypeId) (h : scB m r = true) : scB m (some ⟨l.map SV.v, t⟩ :: r) = true := by
 unfold scB
 rw [scL_v]; exact h
end Go.Mz


namespace Go.Mz
open Go.Conc
section
variable {P : Program} {α : Type}
structure Yl (X : Logic P) (yv : Value) (enc : α → List Value) (xs : List α) (K : LH → Prop) (J : List α → LH → Prop) (Z : LH → Prop) : Prop where
 fn : ∃ a b c, yv = .func a b c
 inv : ∀ pre L, J pre L → K L
 yl : ∀ pre x post L, xs = pre ++ x :: post → J pre L → SpV X yv (enc x) L (fun v L' => (v = .bool true ∧ J (pre ++ [x]) L') ∨ (v = .bool false ∧ Z L'))
def Fra (J : List α → LH → Prop) (F : LH) (pre : List α) (L : LH) : Prop := ∃ L1, J pre L1 ∧ Le L1 L ∧ Le F L ∧ ∀ b, F b ≠ none → L1 b = none
def FraZ (Z : LH → Prop) (F : LH) (L : LH) : Prop := ∃ L1, Z L1 ∧ Le L1 L ∧ Le F L
variable {X : Logic P} {yv : Value} {enc : α → List Value} {xs : List α} {K : LH → Prop} {J : List α → LH → Prop} {Z : LH → Prop} {F L L2 : LH} {pre : List α}
theorem Fra.mono (h : Fra J F pre L) (hl : Le L L2) : Fra J F pre L2 := let ⟨L1, h1, h2, h3, h4⟩ := h; ⟨L1, h1, h2.trans hl, h3.trans hl, h4⟩
theorem Fra.zero (h : J pre L) : Fra J noL pre L := ⟨L, h, Le.refl _, noL_le _, fun _ h => absurd rfl h⟩
theorem le_put2 {F L : LH} (h : Le F L) (b : Nat) (o : Obj) : Le (F.put b o) (L.put b o) := fun b' x hx => by
 by_cases e : b' = b
 ·subst e; rw [put_same] at hx ⊢; exact hx
 ·rw [put_ne _ _ e] at hx ⊢; exact h b' x hx
theorem Fra.put (h : Fra J F pre L) {b : Nat} (hb : L b = none) (o : Obj) : Fra J (F.put b o) pre (L.put b o) := by
 obtain ⟨L1, h1, h2, h3, h4⟩ := h
 have hn := none_of_le h2 hb
 refine ⟨L1, h1, h2.trans (Le.put hb _), le_put2 h3 b o, fun b' hb' => ?_⟩
 by_cases e : b' = b
 ·subst e; exact hn
 ·rw [put_ne _ _ e] at hb'; exact h4 b' hb'
theorem Fra.set (h : Fra J F pre L) {b : Nat} (hb : F b ≠ none) (o : Obj) : Fra J (F.put b o) pre (L.put b o) := by
 obtain ⟨L1, h1, h2, h3, h4⟩ := h
 have hn := h4 b hb
 refine ⟨L1, h1, fun b' x hx => ?_, le_put2 h3 b o, fun b' hb' => ?_⟩
 ·rw [put_ne _ _ (fun e => by subst e; rw [hn] at hx; cases hx)]; exact h2 b' x hx
 ·by_cases e : b' = b
  ·subst e; exact hn
  ·rw [put_ne _ _ e] at hb'; exact h4 b' hb'
theorem Fra.less (h : Fra J F pre L) {F' : LH} (hF : Le F' F) : Fra J F' pre L := by
 obtain ⟨L1, h1, h2, h3, h4⟩ := h
 refine ⟨L1, h1, h2, hF.trans h3, fun b hb => h4 b ?_⟩
 cases hx : F' b with
 | none => exact absurd hx hb
 | some y => rw [hF b y hx]; simp
theorem Yl.frame (h : Yl X yv enc xs K J Z) (hK : ∀ L L', Le L L' → K L → K L') (F : LH) : Yl X yv enc xs (fun L => K L ∧ Le F L) (Fra J F) (FraZ Z F) where
 fn := h.fn
 inv := fun pre L ⟨L1, h1, h2, h3, _⟩ => ⟨hK _ _ h2 (h.inv _ _ h1), h3⟩
 yl := fun pre x post L hx ⟨L1, h1, h2, h3, h4⟩ => by
  refine ((h.yl pre x post L1 hx h1).frame h2).mono ?_
  rintro v L' ⟨L1', hq, hp⟩
  have hF : Le F L' := fun b y hy => hp.keep b y (h4 b (by rw [hy]; simp)) (h3 b y hy)
  rcases hq with ⟨e, hj⟩ | ⟨e, hz⟩
  ·refine .inl ⟨e, L1', hj, hp.le, hF, fun b hb => ?_⟩
   cases hx : L1' b with
   | none => rfl
   | some y =>
    rcases hp.fresh b (by rw [hx]; simp) with g | g
    ·exact absurd (h4 b hb) g
    ·cases hf : F b with
     | none => exact absurd hf hb
     | some z => rw [h3 b z hf] at g; cases g
  ·exact .inr ⟨e, L1', hz, hp.le, hF⟩
end
theorem range_split {n k : Nat} (h : k < n) : List.range n = List.range k ++ k :: List.range' (k + 1) (n - k - 1) := by
 rw [List.range_eq_range', List.range_eq_range']
 have e : n = k + ((n - k - 1) + 1) := by omega
 conv => lhs; rw [e]
 rw [← List.range'_append_1, Nat.zero_add, List.range'_succ]
end Go.Mz


namespace Go.Mz
open Go.Conc
def LH.calm (L : LH) : LH := fun b => match L b with
 | some (.loop _, _) => none
 | some (.deferred _, _) => none
 | x => x
theorem calm_le (L : LH) : Le L.calm L := fun b x h => by
 unfold LH.calm at h
 split at h
 ·cases h
 ·cases h
 ·exact h
theorem calm_mono {L L' : LH} (h : Le L L') : Le L.calm L'.calm := fun b x hx => by
 have h1 := calm_le L b x hx
 have h2 := h b x h1
 unfold LH.calm at hx ⊢
 rw [h1] at hx
 rw [h2]
 exact hx
theorem calm_putL {L : LH} {l : Nat} {o o' : Loop} {wr : Bool} (h : L l = some (.loop o, wr)) : (L.put l (.loop o')).calm = L.calm := by
 funext b
 unfold LH.calm
 by_cases e : b = l
 ·subst e; rw [put_same, h]
 ·rw [put_ne _ _ e]
theorem calm_cells {L : LH} {b : Nat} {cs : Array Value} {t : TypeId} {fz : Nat × Nat} {wr : Bool} (h : L b = some (.cells cs t fz, wr)) : L.calm b = some (.cells cs t fz, wr) := by
 unfold LH.calm; rw [h]
theorem le_put_none {L0 L : LH} {b : Nat} (h : Le L0 L) (hb : L0 b = none) (o : Obj) : Le L0 (L.put b o) := fun b' x hx => by
 rw [put_ne _ _ (fun e => by subst e; rw [hb] at hx; cases hx)]; exact h b' x hx
section
variable {P : Program} {α : Type} {C : Cx P} {n : Nat} {ds : List Deferred} {k : List Item} {E : Env} {B : List (Option Bx)} {L : LH}
end
end Go.Mz


namespace Go.Mz
open Go.Conc
def Own (L : LH) (k : Nat) (e : TypeId) (v : Value) (len : Nat) (cs : List Value) : Option Nat → Prop
 | none => (∃ cap, v = .slice none 0 cap ∧ cap = 0) ∧ len = 0 ∧ cs = []
 | some b => ∃ (cap : Nat) (c : Array Value), v = .slice (some ⟨b, 0, none⟩) len cap ∧ L b = some (.cells c e (0, 0), true) ∧ c.size = cap * k ∧ len ≤ cap ∧ cs.length = len * k ∧ ∀ (i : Nat) (x : Value), cs[i]? = some x → c[i]? = some x
theorem Own.nil {L : LH} {k : Nat} {e : TypeId} : Own L k e (.slice none 0 0) 0 [] none := ⟨⟨0, rfl, rfl⟩, rfl, rfl⟩
theorem Own.len {L : LH} {k : Nat} {e : TypeId} {v : Value} {len : Nat} {cs : List Value} {ob : Option Nat} (h : Own L k e v len cs ob) : cs.length = len * k := by
 cases ob with
 | none => obtain ⟨_, rfl, rfl⟩ := h; simp
 | some b => obtain ⟨_, _, _, _, _, _, h, _⟩ := h; exact h
theorem Own.le {L L' : LH} {k : Nat} {e : TypeId} {v : Value} {len : Nat} {cs : List Value} {ob : Option Nat} (h : Own L k e v len cs ob) (hl : Le L L') : Own L' k e v len cs ob := by
 cases ob with
 | none => exact h
 | some b => obtain ⟨cap, c, h1, h2, h3⟩ := h; exact ⟨cap, c, h1, hl _ _ h2, h3⟩
theorem Own.keep {L L' : LH} {k : Nat} {e : TypeId} {v : Value} {len : Nat} {cs : List Value} {ob : Option Nat} (h : Own L k e v len cs ob) (hl : ∀ b, ob = some b → L' b = L b) : Own L' k e v len cs ob := by
 cases ob with
 | none => exact h
 | some b => obtain ⟨cap, c, h1, h2, h3⟩ := h; exact ⟨cap, c, h1, (hl b rfl).trans h2, h3⟩
theorem Own.slice {L : LH} {k : Nat} {e : TypeId} {v : Value} {len : Nat} {cs : List Value} {ob : Option Nat} (h : Own L k e v len cs ob) : ∃ ad cap, v = .slice ad len cap ∧ len ≤ cap := by
 cases ob with
 | none => obtain ⟨⟨cap, h1, h0⟩, h2, _⟩ := h; subst h2 h0; exact ⟨none, 0, h1, Nat.le_refl _⟩
 | some b => obtain ⟨cap, c, h1, _, _, h2, _⟩ := h; exact ⟨_, cap, h1, h2⟩
theorem Own.blk {L : LH} {k : Nat} {e : TypeId} {v : Value} {len : Nat} {cs : List Value} {b : Nat} (h : Own L k e v len cs (some b)) : L b ≠ none := by
 obtain ⟨cap, c, _, h1, _⟩ := h
 rw [h1]; simp
theorem flat_get {α : Type} {enc : α → List Value} {k : Nat} (hk : ∀ x, (enc x).length = k) : ∀ {l : List α} {i j : Nat} {x : α} {v : Value}, l[i]? = some x → (enc x)[j]? = some v → (l.flatMap enc)[i * k + j]? = some v
 | [], _, _, _, _, hx, _ => by simp at hx
 | y :: l, 0, j, x, v, hx, hv => by
  have hj : j < k := by
   have := (List.getElem?_eq_some_iff.1 hv).1
   rw [hk] at this; exact this
  simp only [List.getElem?_cons_zero, Option.some.injEq] at hx
  subst hx
  rw [List.flatMap_cons, Nat.zero_mul, Nat.zero_add, List.getElem?_append_left (by rw [hk]; exact hj)]
  exact hv
 | y :: l, i + 1, j, x, v, hx, hv => by
  rw [List.flatMap_cons, List.getElem?_append_right (by rw [hk, Nat.succ_mul]; omega), hk, Nat.succ_mul, show i * k + k + j - k = i * k + j by omega]
  exact flat_get hk (by simpa using hx) hv
theorem Own.at {α : Type} {L : LH} {k : Nat} {e : TypeId} {len : Nat} {ob : Option Nat} {enc : α → List Value} {l : List α} {ad : Option Addr} {cap : Nat} (h : Own L k e (.slice ad len cap) l.length (l.flatMap enc) ob) (hk : ∀ x, (enc x).length = k) : SlAt L ad k enc l := by
 intro i x hx
 cases ob with
 | none =>
  obtain ⟨_, h2, _⟩ := h
  have hlt := (List.getElem?_eq_some_iff.1 hx).1
  omega
 | some b =>
  obtain ⟨cap', c, h1, h2, h3, h4, h5, h6⟩ := h
  cases h1
  refine ⟨_, rfl, fun j v hv => ?_⟩
  rw [add_of]
  refine cell_of h2 ?_
  rw [Nat.zero_add]
  exact h6 _ _ (flat_get hk hx hv)
section
variable {P : Program} {R : LH} {H : Value → LH → Prop}
theorem wpS_choose {q : Question} {Q : Nat → LH → Prop} : wpS P Q H (choose q) R = ∀ n, Answers q n → Q n R := rfl
theorem wpS_askRoom {n : Nat} {Q : Unit → LH → Prop} (h : Q () R) : wpS P Q H (askRoom n) R := by
 unfold askRoom
 split
 ·exact ⟨.inl rfl, h⟩
 ·exact h
theorem growBy_le (m : Nat) : ∀ (r c : Nat), c < m → r ≤ 4 → Builtin.growBy m r c ≤ 2 * m + 1024
 | 0, c, h, _ => by unfold Builtin.growBy; omega
 | r + 1, c, h, hr => by
  unfold Builtin.growBy
  split
  ·omega
  ·by_cases h2 : c + (c + 768) / 4 < m
   ·exact growBy_le m r _ h2 (by omega)
   ·have : ∀ r c, m ≤ c → Builtin.growBy m r c = c := by
     intro r c hc
     cases r with
     | zero => rfl
     | succ r => unfold Builtin.growBy; rw [if_pos (by omega)]
    rw [this r _ (by omega)]
    omega
theorem nextcap_le {need old : Nat} (h : old < need) : Builtin.nextslicecap need old ≤ 2 * need + 1024 := by
 unfold Builtin.nextslicecap
 split
 ·omega
 ·split
  ·omega
  ·exact growBy_le _ _ _ h (Nat.le_refl _)
def FirstIs (P : Program) (R : LH) (k m : Nat) (yv : Value) (vs : List Value) : Prop := vs.length = m * k ∧ (∃ ad cap, yv = .slice ad m cap) ∧ ∀ (Q : Array Value → LH → Prop) (H : Value → LH → Prop), Q vs.toArray R → wpS P Q H (Builtin.firstCells k m yv) R
theorem FirstIs.at {k m : Nat} {ad : Addr} {cap : Nat} {vs : List Value} (h : cellsAt R ad (m * k) vs) : FirstIs P R k m (.slice (some ad) m cap) vs :=
 ⟨h.1, ⟨_, _, rfl⟩, fun Q H hq => by unfold Builtin.firstCells; rw [wpS_loadCells h]; exact hq⟩
theorem FirstIs.nil {k cap : Nat} : FirstIs P R k 0 (.slice none 0 cap) [] := ⟨by simp, ⟨_, _, rfl⟩, fun Q H hq => hq⟩
theorem Own.first {k : Nat} {e : TypeId} {v : Value} {len : Nat} {cs : List Value} {ob : Option Nat} (h : Own R k e v len cs ob) : FirstIs P R k len v cs := by
 cases ob with
 | none => obtain ⟨⟨cap, rfl, h0⟩, rfl, rfl⟩ := h; exact FirstIs.nil
 | some b =>
  obtain ⟨cap, c, rfl, h1, h2, h3, h4, h5⟩ := h
  exact FirstIs.at ⟨h4, fun i v hv => by rw [add_of]; exact cell_of h1 (by rw [Nat.zero_add]; exact h5 i v hv)⟩
structure AppR (k : Nat) (e : TypeId) (len : Nat) (cs : List Value) (ob : Option Nat) (m : Nat) (vs : List Value) (R : LH) (v : Value) (R' : LH) : Prop where
 own : ∃ ob', Own R' k e v (len + m) (cs ++ vs) ob' ∧ ((R' = R ∧ ob' = ob) ∨ ∃ b c, ob' = some b ∧ R' = R.put b (.cells c e) ∧ (ob = some b ∨ R b = none))
theorem putRow_get (vs : List Value) : ∀ (c : Array Value) (i j : Nat), (putRow c i vs)[j]? = if j < i then c[j]? else if h : j - i < vs.length ∧ j < c.size then some (vs[j - i]'h.1) else c[j]? := by
 induction vs with
 | nil => intro c i j; simp [putRow]
 | cons v vs ih =>
  intro c i j
  rw [putRow, ih]
  by_cases h1 : j < i
  ·rw [if_pos (by omega), if_pos h1, Array.getElem?_setIfInBounds_ne (by omega)]
  ·rw [if_neg h1]
   by_cases h2 : j = i
   ·subst h2
    rw [if_pos (by omega)]
    by_cases h3 : j < c.size
    ·rw [dif_pos ⟨by simp, h3⟩]
     simp [Array.getElem?_setIfInBounds, h3]
    ·rw [dif_neg (by omega)]
     simp [Array.getElem?_setIfInBounds, h3]
   ·rw [if_neg (by omega)]
    by_cases h3 : j - (i + 1) < vs.length ∧ j < c.size
    ·rw [dif_pos ⟨h3.1, by simpa using h3.2⟩, dif_pos ⟨by simp; omega, h3.2⟩]
     congr 1
     have e : j - i = (j - (i + 1)) + 1 := by omega
     simp only [e, List.getElem_cons_succ]
    ·rw [dif_neg (by simpa using h3)]
     rw [Array.getElem?_setIfInBounds_ne (by omega)]
     rw [dif_neg]
     intro h4
     apply h3
     simp at h4
     omega
theorem wpS_append {ts tx e e2 : TypeId} {k bts len m : Nat} {cs vs : List Value} {ob : Option Nat} {v yv z : Value} {ty : TypeId} {Q : Value → LH → Prop} (hts : P.underlying ts = some (.slice e)) (hk : (P.info? e).map (·.size) = some k) (hbt : (P.info? e).map (·.bytes) = some bts) (hz : (P.info? e).bind (·.zero) = some z) (hzk : z.cells.size = k) (htx : P.underlying tx = some (.slice e2))
  (ho : Own R k e v len cs ob) (hy : FirstIs P R k m yv vs) (hs : ∀ u ∈ vs, single u = true) (h0 : 0 < bts) (hb : (2 * (len + m) + 1024) * bts ≤ 2 ^ 48) (hq : ∀ v' R', AppR k e len cs ob m vs R v' R' → Q v' R') : wpS P Q H (Builtin.append_ #[ts, tx] ty #[v, yv]) R := by
 obtain ⟨hvl, ⟨yad, ycap, rfl⟩, hfirst⟩ := hy
 unfold Builtin.append_
 simp only [List.getElem?_toArray, List.getElem?_cons_zero, List.getElem?_cons_succ]
 rw [wpS_bind, wpS_underlying hts]
 simp only
 obtain ⟨ad, cap, rfl, hlc⟩ := ho.slice
 simp only
 rw [wpS_bind, wpS_sizeOf hk, wpS_bind, wpS_underlying htx, wpS_bind, wpS_pure]
 simp only [Bool.false_eq_true, if_false, Bool.not_false, if_true]
 rw [wpS_bind]
 unfold Builtin.lenOf
 rw [wpS_pure]
 by_cases hfit : len + m ≤ cap
 ·rw [if_pos hfit, wpS_bind]
  refine hfirst _ _ ?_
  cases ob with
  | none =>
   obtain ⟨⟨cap', h1, h0'⟩, h2, h3⟩ := ho
   cases h1
   clear h2
   subst h3 h0'
   have hm : m = 0 := by omega
   subst hm
   have hv0 : vs = [] := by cases vs with | nil => rfl | cons _ _ => simp at hvl
   subst hv0
   refine hq _ _ ⟨none, ⟨⟨0, rfl, rfl⟩, rfl, rfl⟩, .inl ⟨rfl, rfl⟩⟩
  | some b =>
   obtain ⟨_, c, h1, h2, h3, h4, h5, h6⟩ := ho
   cases h1
   simp only
   rw [wpS_bind]
   rw [add_of, Nat.zero_add]
   have hmul : len * k + m * k ≤ cap * k := by rw [← Nat.add_mul]; exact Nat.mul_le_mul_right _ hfit
   refine wpS_storeCells (e := e) vs 0 c R h2 (by rw [hvl, h3]; omega) hs (fun R' g1 g2 => ?_)
   rw [wpS_pure]
   rw [Nat.add_zero] at g1
   refine hq _ _ ⟨some b, ⟨cap, _, rfl, g1, by rw [putRow_size, h3], hfit, by rw [List.length_append, h5, hvl, Nat.add_mul], fun i x hx => ?_⟩, .inr ⟨b, putRow c (len * k) vs, rfl, ?_, .inl rfl⟩⟩
   ·rw [putRow_get]
    by_cases hi : i < len * k
    ·rw [if_pos hi]
     rw [List.getElem?_append_left (by omega)] at hx
     exact h6 i x hx
    ·rw [List.getElem?_append_right (by omega), h5] at hx
     have hlt := (List.getElem?_eq_some_iff.1 hx).1
     rw [if_neg hi, dif_pos ⟨hlt, by rw [h3]; omega⟩]
     rw [← List.getElem?_eq_getElem hlt]; exact hx
   ·funext b'
    by_cases e' : b' = b
    ·subst e'; rw [g1, put_same]
    ·rw [g2 b' e', put_ne _ _ e']
 ·rw [if_neg hfit]
  obtain ⟨inf, hinf, hib⟩ : ∃ inf, P.info? e = some inf ∧ inf.bytes = bts := by
   cases hx : P.info? e with
   | none => rw [hx] at hbt; cases hbt
   | some i => rw [hx] at hbt; cases hbt; exact ⟨i, rfl, rfl⟩
  have hnb : ¬ (inf.bytes = 0) := by omega
  rw [wpS_bind, wpS_typeInfo hinf, if_neg (by simp [hnb]), wpS_bind, wpS_typeInfo hinf]
  have hcap := nextcap_le (need := len + m) (old := cap) (by omega)
  have hle : Builtin.nextslicecap (len + m) cap * inf.bytes ≤ 2 ^ 48 := Nat.le_trans (by rw [hib]; exact Nat.mul_le_mul_right _ hcap) hb
  rw [if_neg (by omega), wpS_bind, wpS_choose]
  intro newCap hnc
  obtain ⟨r, rfl⟩ : ∃ r, newCap = len + m + r := by
   unfold Answers at hnc
   simp only [Question.forced, Bool.false_eq_true, if_false, Question.cut] at hnc
   obtain ⟨t, ht⟩ := hnc
   exact ⟨_, ht⟩
  rw [wpS_bind, wpS_typeInfo hinf, wpS_bind]
  refine wpS_askRoom ?_
  rw [wpS_bind]
  refine (ho.first (P := P)).2.2 _ _ ?_
  rw [wpS_bind]
  refine hfirst _ _ ?_
  rw [wpS_bind, wpS_zeroValue hz, wpS_bind, wpS_newRow]
  intro b hb'
  rw [wpS_pure]
  have hcl := ho.len
  refine hq _ _ ⟨some b, ⟨len + m + r, _, rfl, put_same _ _ _, ?_, by omega, by rw [List.length_append, hcl, hvl, Nat.add_mul], fun i x hx => ?_⟩, .inr ⟨b, _, rfl, rfl, .inr hb'⟩⟩
  ·simp only [Builtin.zeroCells, Array.size_append, List.size_toArray, Array.size_map, Array.size_range, hcl, hvl, hzk]
   rw [show len + m + r - (len + m) = r by omega, Nat.add_mul, Nat.add_mul]
  ·have hlt := (List.getElem?_eq_some_iff.1 hx).1
   rw [← Array.getElem?_toList, Array.toList_append, Array.toList_append, List.getElem?_append_left (by simpa using hlt)]
   exact hx
end
inductive YC (E : Look) (B : List (Option Bx)) (L : LH) (k : Nat) (y : Operand) : Nat → List Value → Prop
 | own {kk off m cap : Nat} {bx : Bx} {svs : List SV} {vs : List Value} (hy : evS E y = some (.sl kk off m cap)) (hb : nth B kk = some (some bx)) (hp : part bx.cells off (m * k) = some svs) (hd : denL nm0 svs = some vs) : YC E B L k y m vs
 | far {a : Addr} {m cap : Nat} {vs : List Value} (hy : evS E y = some (.v (.slice (some a) m cap))) (hc : cellsAt L a (m * k) vs) : YC E B L k y m vs
 | nil {cap : Nat} (hy : evS E y = some (.v (.slice none 0 cap))) : YC E B L k y 0 []
theorem flat_len {α : Type} {enc : α → List Value} {k : Nat} (hk : ∀ x, (enc x).length = k) : ∀ l : List α, (l.flatMap enc).length = l.length * k
 | [] => by simp
 | x :: l => by rw [List.flatMap_cons, List.length_append, hk, flat_len hk l, List.length_cons, Nat.succ_mul]; omega
theorem flat_cell {α : Type} {enc : α → List Value} {k : Nat} (hk : ∀ x, (enc x).length = k) (h0 : 0 < k) {l : List α} {n : Nat} {v : Value} (h : (l.flatMap enc)[n]? = some v) : ∃ i j x, n = i * k + j ∧ l[i]? = some x ∧ (enc x)[j]? = some v := by
 have hlt := (List.getElem?_eq_some_iff.1 h).1
 rw [flat_len hk] at hlt
 have hi : n / k < l.length := Nat.div_lt_of_lt_mul (by rw [Nat.mul_comm]; exact hlt)
 refine ⟨n / k, n % k, l[n / k], by rw [Nat.mul_comm]; exact (Nat.div_add_mod n k).symm, List.getElem?_eq_getElem hi, ?_⟩
 have hj : n % k < (enc l[n / k]).length := by rw [hk]; exact Nat.mod_lt _ h0
 have := flat_get hk (List.getElem?_eq_getElem hi) (List.getElem?_eq_getElem hj)
 rw [show n / k * k + n % k = n by rw [Nat.mul_comm]; exact Nat.div_add_mod n k, h] at this
 rw [List.getElem?_eq_getElem hj]; exact this.symm
theorem SlAt.cells {α : Type} {enc : α → List Value} {k : Nat} {L : LH} {a : Addr} {l : List α} (h : SlAt L (some a) k enc l) (hk : ∀ x, (enc x).length = k) : cellsAt L a (l.length * k) (l.flatMap enc) := by
 refine ⟨flat_len hk l, fun n v hv => ?_⟩
 rcases Nat.eq_zero_or_pos k with rfl | h0
 ·have hlt := (List.getElem?_eq_some_iff.1 hv).1
  rw [flat_len hk] at hlt
  omega
 ·obtain ⟨i, j, x, rfl, hx, hj⟩ := flat_cell hk h0 hv
  exact h.get hx hj
theorem YC.sl {α : Type} {enc : α → List Value} {k cap : Nat} {E : Look} {B : List (Option Bx)} {L : LH} {y : Operand} {ad : Option Addr} {l : List α} (h : SlAt L ad k enc l) (hk : ∀ x, (enc x).length = k) (hy : evS E y = some (.v (.slice ad l.length cap))) : YC E B L k y l.length (l.flatMap enc) := by
 cases ad with
 | none =>
  cases l with
  | nil => exact .nil hy
  | cons x l => obtain ⟨a, h1⟩ := h.addr (i := 0) (by simp); cases h1
 | some a => exact .far hy (h.cells hk)
def Grow {α : Type} (I : LH) (k : Nat) (e : TypeId) (enc : α → List Value) (L : LH) (v : Value) (l : List α) : Prop := Le I L ∧ ∃ ob, Own L k e v l.length (l.flatMap enc) ob ∧ ∀ b, ob = some b → I b = none
section
variable {α : Type} {I L L' : LH} {k : Nat} {e : TypeId} {enc : α → List Value} {v : Value} {l : List α}
theorem Grow.nil (h : Le I L) : Grow I k e enc L (.slice none 0 0) [] := ⟨h, none, Own.nil, fun b hb => by cases hb⟩
theorem Grow.new {b : Nat} (h : Le I L) (hb : L b = some (.cells #[] e (0, 0), true)) (hn : I b = none) : Grow I k e enc L (.slice (some ⟨b, 0, none⟩) 0 0) [] := ⟨h, some b, ⟨0, #[], rfl, hb, by simp, Nat.le_refl _, by simp, fun i x hx => by simp at hx⟩, fun b' hb' => by cases hb'; exact hn⟩
theorem Grow.le (h : Grow I k e enc L v l) (hl : Le L L') : Grow I k e enc L' v l := let ⟨h1, ob, h2, h3⟩ := h; ⟨h1.trans hl, ob, h2.le hl, h3⟩
theorem Grow.slice (h : Grow I k e enc L v l) : ∃ ad cap, v = .slice ad l.length cap ∧ l.length ≤ cap := let ⟨_, _, h2, _⟩ := h; h2.slice
theorem Grow.at {ad : Option Addr} {len cap : Nat} (h : Grow I k e enc L (.slice ad len cap) l) (hk : ∀ x, (enc x).length = k) : len = l.length ∧ SlAt L ad k enc l := by
 obtain ⟨_, ob, h2, _⟩ := h
 obtain ⟨ad', cap', h3, _⟩ := h2.slice
 cases h3
 exact ⟨rfl, h2.at hk⟩
end
section
variable {P : Program} [S : Seat P] {C : Cx P} {E : Look} {B : List (Option Bx)} {L : LH} {dst : Option Tmp} {ty : TypeId} {pos : String} {af : Array Edge} {gd : Option (Nat × Bool)}
omit S in
theorem YC.first {k m : Nat} {y : Operand} {vs : List Value} (h : YC E B L k y m vs) {T : Array Value} {R : LH} {β : Nm} (hE : EnvOk β E T) (hB : Boxes β B R) (hL : Le L R) : FirstIs P R k m (ev T y) vs := by
 cases h with
 | own hy hb hp hd =>
  rename_i kk off cap bx svs
  have hv := hE.val hy
  unfold den at hv
  cases hk : β kk with
  | none => rw [hk] at hv; cases hv
  | some b =>
   rw [hk] at hv
   have hv' := (Option.some.inj hv).symm
   rw [hv']
   obtain ⟨cs, hc, hR⟩ := hB kk b bx hk (by rw [← nth_eq]; exact hb)
   obtain ⟨ws, h1, h2⟩ := denL_part hc hp
   rw [denL_nil hd β] at h1
   cases h1
   refine FirstIs.at ⟨by rw [denL_length hd, part_length hp], fun i v hv => ?_⟩
   rw [add_of]
   exact cell_of hR (by rw [List.getElem?_toArray]; exact h2 i v hv)
 | far hy hc =>
  have hv := (Option.some.inj (hE.val hy)).symm
  rw [hv]
  exact FirstIs.at (hL.cellsAt hc)
 | nil hy =>
  have hv := (Option.some.inj (hE.val hy)).symm
  rw [hv]
  exact FirstIs.nil
def GrowQ {α : Type} (B : List (Option Bx)) (L : LH) (I : LH) (k : Nat) (e : TypeId) (enc : α → List Value) (l : List α) (sv : SV) (B' : List (Option Bx)) (L' : LH) : Prop := ∃ v, sv = .v v ∧ B' = B ∧ Grow I k e enc L' v l ∧ (∀ b, L b ≠ none → L' b ≠ none)
theorem Ef.grow {α : Type} {I : LH} {enc : α → List Value} {l ls : List α} {ts tx e e2 : TypeId} {ti te tx' : TI} {v : Value} {x y : Operand} (hx : evS E x = some (.v v)) (hts : S.τ.find ts = some ti) (hd : ti.d = .slice e) (he : S.τ.find e = some te) (htx : S.τ.find tx = some tx') (hd2 : tx'.d = .slice e2) (hz : te.z.cells.size = te.size)
  (h0 : Nat.blt 0 te.bytes = true) (h1 : Nat.ble te.bytes 1024 = true) (hk : ∀ x, (enc x).length = te.size) (hs : ∀ x, ∀ u ∈ enc x, single u = true) (hg : Grow I te.size e enc L v l) (hy : YC E B L te.size y ls.length (ls.flatMap enc)) (hlen : l.length + ls.length ≤ 1073741824) :
  Ef C ⟨dst, .call { callee := .builtin .append, args := #[x, y], argTypes := #[ts, tx] }, ty, pos, af, gd⟩ E B L (GrowQ B L I te.size e enc (l ++ ls)) := by
 intro T R β hE hH
 obtain ⟨hI, ob, ho, hn⟩ := hg
 have ex : ev T x = v := (Option.some.inj (hE.val hx)).symm
 have fy := hy.first (P := P) hE hH.boxes hH.le
 have i1 := (TT.find_ok S.ok hts).d
 rw [hd] at i1
 have i2 := (TT.find_ok S.ok htx).d
 rw [hd2] at i2
 have ie := TT.find_ok S.ok he
 refine ⟨rfl, ?_⟩
 simp only [execOp, resolve, List.map_toArray, List.map_cons, List.map_nil, ex, pure, Sem.bind, bind, invoke, builtin]
 show wpS P _ _ (Builtin.append_ _ _ _ >>= fun u => pure (Next.value u)) R
 rw [wpS_bind]
 refine wpS_append i1 ie.size ie.bytes ie.zero hz i2 (ho.le hH.le) fy (fun u hu => ?_) (Nat.le_of_ble_eq_true h0) ?_ fun v' R' hr => ?_
 ·obtain ⟨a, _, hu⟩ := List.mem_flatMap.1 hu
  exact hs a u hu
 ·have := Nat.le_of_ble_eq_true h1
  have h2 : 2 * (l.length + ls.length) + 1024 ≤ 2147484672 := by omega
  exact Nat.le_trans (Nat.mul_le_mul h2 this) (by decide)
 ·rw [wpS_pure]
  obtain ⟨ob', g1, g2⟩ := hr
  rcases g2 with ⟨rfl, rfl⟩ | ⟨b, c, rfl, rfl, g3⟩
  ·refine ⟨.v v', B, L, ⟨v', rfl, rfl, ⟨hI, ob', ?_, hn⟩, fun _ h => h⟩, rfl, hH, fun _ _ => rfl⟩
   rw [List.length_append, List.flatMap_append]
   cases ob' with
   | none => exact g1
   | some b =>
    have hb := ho.blk
    cases hx : L b with
    | none => exact absurd hx hb
    | some y => exact g1.keep fun b' hb' => by cases hb'; rw [hx, hH.le _ _ hx]
  ·have hown : ∀ L', L' b = some (.cells c e (0, 0), true) → Own L' te.size e v' (l ++ ls).length ((l ++ ls).flatMap enc) (some b) := fun L' hL' => by
    rw [List.length_append, List.flatMap_append]
    exact g1.keep fun b' hb' => by cases hb'; rw [hL', put_same]
   rcases g3 with rfl | g3
   ·have hLb : ∃ o, L b = some (o, true) := by
     obtain ⟨_, c', _, h2, _⟩ := ho
     exact ⟨_, h2⟩
    obtain ⟨o, hLb⟩ := hLb
    have hIb := hn b rfl
    refine ⟨.v v', B, L.put b (.cells c e), ⟨v', rfl, rfl, ⟨fun b' x hx => ?_, some b, hown _ (put_same _ _ _), fun b' hb' => by cases hb'; exact hIb⟩, fun b' hb' => ?_⟩, rfl, hH.setF hLb (put_same _ _ _) (fun b' hb' => put_ne _ _ hb'), fun _ _ => rfl⟩
    ·rw [put_ne _ _ (fun e => by subst e; rw [hIb] at hx; cases hx)]; exact hI b' x hx
    ·by_cases e' : b' = b
     ·subst e'; rw [put_same]; simp
     ·rw [put_ne _ _ e']; exact hb'
   ·have hLn := (hH.free g3).1
    refine ⟨.v v', B, L.put b (.cells c e), ⟨v', rfl, rfl, ⟨hI.trans (Le.put hLn _), some b, hown _ (put_same _ _ _), fun b' hb' => by cases hb'; exact none_of_le hI hLn⟩, fun b' hb' => ?_⟩, rfl, hH.newF g3 _, fun _ _ => rfl⟩
    by_cases e' : b' = b
    ·subst e'; rw [put_same]; simp
    ·rw [put_ne _ _ e']; exact hb'
end
end Go.Mz


set_option maxRecDepth 100000
namespace Go.Proofs
end Go.Proofs
namespace Go.Mz
open Go.Conc Go.Proofs
section
variable {P : Program} {H : Value → LH → Prop} {L : LH}
theorem eqIn_int {d : Nat} {t : TypeId} {k : IntKind} {a c : Int} {Q : Bool → LH → Prop} (hu : P.underlying t = some (.int k)) : wpS P Q H (Op.equalIn (d + 1) t (.int k a) (.int k c)) L = Q (a == c) L := by
 rw [Op.equalIn, wpS_bind, wpS_underlying hu]
 simp only [if_true]
 rfl
theorem wpS_part1 {t : TypeId} {cs : Array Value} {off : Nat} {v : Value} {Q : Value → LH → Prop} (ha : aggB P t = some false) (h : cs[off]? = some v) : wpS P Q H (Go.part t cs off) L = Q v L := by
 unfold Go.part
 rw [wpS_bind, wpS_isAgg ha]
 simp only [Bool.false_eq_true, if_false, h]
 rfl
theorem wpS_partN {t : TypeId} {cs : Array Value} {off n : Nat} {Q : Value → LH → Prop} (ha : aggB P t = some true) (hn : (P.info? t).map (·.size) = some n) : wpS P Q H (Go.part t cs off) L = Q (.agg (cs.extract off (off + n))) L := by
 unfold Go.part
 rw [wpS_bind, wpS_isAgg ha]
 simp only [if_true]
 rw [wpS_bind, wpS_sizeOf hn]
 rfl
def intsV (xs : List Int) : Value := .agg (xs.map (Value.int .i64)).toArray
end
section
variable {P : Program} {E : Look} {B : List (Option Bx)} {L : LH}
end
end Go.Mz


set_option maxRecDepth 100000
namespace Go.Mz
open Go.Conc Go.Proofs
section
variable {P : Program} {H : Value → LH → Prop} {L : LH}
theorem wpS_getMap {r : Nat} {es : Array MapEntry} {clk : Nat} {wr : Bool} {Q : Obj → LH → Prop} (h : L r = some (.map es clk, wr)) : wpS P Q H (getObj r) L = Q (.map es clk) L := by
 show wpS P Q H (.getObj r .pure) L = _
 unfold wpS
 rw [h]
 rfl
variable {E : Look} {B : List (Option Bx)}
variable {C : Cx P} {dst : Option Tmp} {ty : TypeId} {pos : String} {af : Array Edge} {gd : Option (Nat × Bool)}
end
section
variable {P : Program} [S : Seat P] {C : Cx P} {E : Look} {B : List (Option Bx)} {L : LH} {dst : Option Tmp} {ty : TypeId} {pos : String} {af : Array Edge} {gd : Option (Nat × Bool)}
theorem Ef.stoL {t e : TypeId} {x y : Operand} {ti : TI} {b off : Nat} {cs cs' us : List Value} {v : Value} (hx : evS E x = some (.v (.pointer (some ⟨b, off, none⟩)))) (hy : ∃ s, evS E y = some s ∧ den nm0 s = some v) (ht : S.τ.find t = some ti) (hb : L b = some (.cells cs.toArray e (0, 0), true)) (hu : v.cells = us.toArray) (hn : Nat.beq us.length ti.size = true) (hl : Nat.ble (off + ti.size) cs.length = true)
  (hs : us.all single = true) (hc : putV cs off us = cs') : Ef C ⟨dst, .store t x y, ty, pos, af, gd⟩ E B L (StoQ (L.put b (.cells cs'.toArray e)) B) := by
 have := Ef.stoF (C := C) (B := B) (dst := dst) (ty := ty) (pos := pos) (af := af) (gd := gd) hx hy ht hb (by rw [hu, List.size_toArray]; exact Nat.eq_of_beq_eq_true hn) (by rw [List.size_toArray]; exact Nat.le_of_ble_eq_true hl) (by rw [hu]; intro u h; exact List.all_eq_true.1 hs u (by simpa using h))
 have e1 : putRow cs.toArray off v.cells.toList = cs'.toArray := by
  apply Array.toList_inj.1
  rw [putRow_toList, hu, hc]
 rw [e1] at this
 exact this
end
section
variable {P : Program} {E : Look} {B : List (Option Bx)} {L : LH}
theorem Vf.index {t e : TypeId} {x y : Operand} {sx : SV} {cs : List Value} {v : Value} {n i : Nat} {k : IntKind} (hx : evS E x = some sx) (dx : den nm0 sx = some (.agg cs.toArray)) (hy : evS E y = some (.v (.int k i))) (hu : P.underlying t = some (.array n e)) (hs : (P.info? e).map (·.size) = some 1) (ha : aggB P e = some false) (hi : i < n) (hv : cs[i]? = some v) :
  Vf P (.index t x y) E B L (.v v) := fun T R β hE _ _ => by
 have ex : ev T x = .agg cs.toArray := Option.some.inj ((hE.val hx).symm.trans (den_nil dx β))
 have ey := (Option.some.inj (hE.val hy)).symm
 refine ⟨_, rfl, fun ty dst pos af gd Q H hq => ?_⟩
 simp only [execOp, ex, ey]
 rw [wpS_bind]
 unfold Instr.index
 rw [wpS_bind]
 show wpS P _ H (underlying t >>= _) R
 rw [wpS_bind, wpS_underlying hu]
 simp only
 rw [if_pos (by omega), wpS_bind, wpS_sizeOf hs, wpS_part1 ha (v := v) (by rw [Int.toNat_natCast, Nat.mul_one, List.getElem?_toArray]; exact hv)]
 exact hq
end
def LH.but (L : LH) (b : Nat) : LH := fun b' => if b' = b then none else L b'
theorem but_le (L : LH) (b : Nat) : Le (L.but b) L := fun b' x hx => by
 unfold LH.but at hx
 split at hx
 ·cases hx
 ·exact hx
theorem but_get {L : LH} {b b' : Nat} (h : b' ≠ b) : L.but b b' = L b' := by unfold LH.but; rw [if_neg h]
section
variable {P : Program} {H : Value → LH → Prop} {L : LH} {E : Look} {B : List (Option Bx)}
theorem wpS_sliceBound {k : IntKind} {j : Int} {y : Nat} {code : BoundsCode} {Q : Nat → LH → Prop} (h : 0 ≤ j ∧ j ≤ y) : wpS P Q H (Instr.sliceBound (.int k j) y code) L = Q j.toNat L := by
 unfold Instr.sliceBound
 rw [wpS_bind]
 show wpS P Q H (if 0 ≤ j ∧ j ≤ y then _ else _) L = _
 rw [if_pos h]; rfl
theorem Vf.sliceA {t e : TypeId} {x y : Operand} {ad : Addr} {n m j : Nat} {k : IntKind} (hx : evS E x = some (.v (.pointer (some ad)))) (hy : evS E y = some (.v (.int k j))) (hu : P.underlying t = some (.array n e)) (hs : (P.info? e).map (·.size) = some m) (hj : j ≤ n) (hn : n ≠ 0) :
  Vf P (.slice t x none (some y) none) E B L (.v (.slice (some ad) j n)) := fun T R β hE _ _ => by
 have ex := (Option.some.inj (hE.val hx)).symm
 have ey := (Option.some.inj (hE.val hy)).symm
 refine ⟨_, rfl, fun ty dst pos af gd Q H hq => ?_⟩
 simp only [execOp, ex, Option.map_some, Option.map_none, ey]
 rw [wpS_bind]
 unfold Instr.sliceAt
 rw [wpS_bind, wpS_underlying hu]
 simp only
 rw [wpS_bind]
 show wpS P _ H (Instr.sliceBounds false n n none (some (.int k j)) none >>= _) R
 rw [wpS_bind]
 unfold Instr.sliceBounds
 simp only
 show wpS P _ H (Instr.sliceBound (.int k j) n _ >>= _) R
 rw [wpS_bind, wpS_sliceBound (by omega)]
 show wpS P _ H (sizeOf e >>= _) R
 rw [wpS_bind, wpS_sizeOf hs]
 rw [if_neg (by omega)]
 have e0 : ad.add (0 * m) = ad := by rw [Nat.zero_mul]; rfl
 rw [e0, Int.toNat_natCast]
 exact hq
theorem Vf.sliceW {t e : TypeId} {x : Operand} {ad : Addr} {n m : Nat} (hx : evS E x = some (.v (.pointer (some ad)))) (hu : P.underlying t = some (.array n e)) (hs : (P.info? e).map (·.size) = some m) (hn : n ≠ 0) :
  Vf P (.slice t x none none none) E B L (.v (.slice (some ad) n n)) := fun T R β hE _ _ => by
 have ex := (Option.some.inj (hE.val hx)).symm
 refine ⟨_, rfl, fun ty dst pos af gd Q H hq => ?_⟩
 simp only [execOp, ex, Option.map_none]
 rw [wpS_bind]
 unfold Instr.sliceAt
 rw [wpS_bind, wpS_underlying hu]
 simp only
 rw [wpS_bind]
 show wpS P _ H (sizeOf e >>= _) R
 rw [wpS_bind, wpS_sizeOf hs]
 rw [if_neg (by omega)]
 have e0 : ad.add (0 * m) = ad := by rw [Nat.zero_mul]; rfl
 rw [e0]
 exact hq
theorem Vf.slice3 {t e : TypeId} {x y u : Operand} {oa : Option Addr} {len cap m j c : Nat} {k k' : IntKind} (hx : evS E x = some (.v (.slice oa len cap))) (hy : evS E y = some (.v (.int k j))) (hw : evS E u = some (.v (.int k' c))) (hu : P.underlying t = some (.slice e)) (hs : (P.info? e).map (·.size) = some m) (hj : j ≤ c) (hc : c ≤ cap) :
  Vf P (.slice t x none (some y) (some u)) E B L (.v (.slice oa j c)) := fun T R β hE _ _ => by
 have ex := (Option.some.inj (hE.val hx)).symm
 have ey := (Option.some.inj (hE.val hy)).symm
 have eu := (Option.some.inj (hE.val hw)).symm
 refine ⟨_, rfl, fun ty dst pos af gd Q H hq => ?_⟩
 simp only [execOp, ex, Option.map_some, Option.map_none, ey, eu]
 rw [wpS_bind]
 unfold Instr.sliceAt
 rw [wpS_bind, wpS_underlying hu]
 simp only
 unfold Instr.slice
 rw [wpS_bind, wpS_underlying hu]
 simp only
 rw [wpS_bind]
 unfold Instr.sliceBounds
 simp only
 rw [wpS_bind, wpS_sliceBound (by omega), wpS_bind, Int.toNat_natCast, wpS_sliceBound (by omega), Int.toNat_natCast]
 show wpS P _ H (sizeOf e >>= _) R
 rw [wpS_bind, wpS_sizeOf hs]
 have e0 : (if c = 0 then oa else oa.map fun x => x.add (0 * m)) = oa := by
  split
  ·rfl
  ·cases oa with
   | none => rfl
   | some a => rw [Nat.zero_mul]; rfl
 rw [e0]
 exact hq
end
end Go.Mz


namespace Go.Mz
open Go.Conc
def LH.less (L : LH) (bs : List Nat) : LH := fun b => if b ∈ bs then none else L b
theorem less_le (L : LH) (bs : List Nat) : Le (L.less bs) L := fun b x hx => by
 unfold LH.less at hx
 split at hx
 ·cases hx
 ·exact hx
theorem less_get {L : LH} {bs : List Nat} {b : Nat} (h : b ∉ bs) : L.less bs b = L b := by unfold LH.less; rw [if_neg h]
theorem le_less {F L : LH} {bs : List Nat} (h : Le F L) (hb : ∀ b ∈ bs, F b = none) : Le F (L.less bs) := fun b x hx => by
 rw [less_get (fun hm => by rw [hb b hm] at hx; cases hx)]; exact h b x hx
theorem less_none {L : LH} {bs : List Nat} {b : Nat} (h : b ∈ bs) : L.less bs b = none := by unfold LH.less; rw [if_pos h]
section
variable {P : Program} {C : Cx P} {n : Nat} {ds : List Deferred} {k : List Item} {E : Env} {B : List (Option Bx)} {L : LH}
variable {dst : Option Tmp} {ty : TypeId} {pos : String} {af : Array Edge} {gd : Option (Nat × Bool)} {E : Look}
theorem Ef.makeMap {t : TypeId} : Ef C ⟨dst, .makeMap t none, ty, pos, af, gd⟩ E B L (fun sv B' L' => ∃ r, sv = .v (.map (some r)) ∧ B' = B ∧ L r = none ∧ L' = L.put r (.map #[] 0)) := by
 intro T R β hE hH
 refine ⟨rfl, Alc.makeMap _ _ _ _ _ _ ?_⟩
 intro b hb
 exact ⟨_, B, _, ⟨b, rfl, rfl, (hH.free hb).1, rfl⟩, rfl, hH.newF hb _, fun _ _ => rfl⟩
end
section
variable {P : Program} {C : Cx P} {o : Oper} {E : Look} {B : List (Option Bx)} {L : LH}
theorem EffW.mono {X : Logic P} {T : Array Value} {K K' : Value → LH → Prop} (hk : ∀ v L', K v L' → K' v L') (h : EffW X o T L K) : EffW X o T L K' := by
 obtain ⟨h1, h2⟩ := h
 refine ⟨h1, wpS_mono (fun nx L' hx => ?_) (fun _ _ h => h) _ _ h2⟩
 cases nx <;> first | exact hk _ _ hx | (obtain ⟨Q, g1, g2⟩ := hx; exact ⟨Q, g1, fun v L'' hq => hk _ _ (g2 v L'' hq)⟩) | exact hx
theorem Ef.pub (s : Nat) {kk : Nat} {x : Bx} {cs : List Value} {Q : Nat → SV → List (Option Bx) → LH → Prop} (hs : (∃ off, E s = some (.p kk off)) ∨ (∃ off len cap, E s = some (.sl kk off len cap))) (hx : nth B kk = some (some x)) (hc : denL nm0 x.cells = some cs)
  (h : ∀ b, L b = none → C.R0 b = none → Ef C o (fun s => (E s).map (pubS kk b)) (B.set kk none) (L.put b (.cells cs.toArray x.ty)) (Q b)) : Ef C o E B L (fun sv B' L' => ∃ b, L b = none ∧ C.R0 b = none ∧ Q b sv B' L') := by
 intro T R β hE hH
 have hb : ∃ b, β kk = some b := by
  rcases hs with ⟨off, hs⟩ | ⟨off, len, cap, hs⟩
  ·obtain ⟨b, hb, _⟩ := den_p (hE s _ hs); exact ⟨b, hb⟩
  ·have := hE s _ hs
   unfold den at this
   cases hk : β kk with
   | none => rw [hk] at this; cases this
   | some b => exact ⟨b, rfl⟩
 obtain ⟨b, hb⟩ := hb
 have hx' : B[kk]? = some (some x) := by rw [← nth_eq]; exact hx
 obtain ⟨h1, h2⟩ := hH.pub hb hx' hc
 have h3 := (hH.box kk b x hb hx').2.1
 have hE' : EnvOk β (fun s => (E s).map (pubS kk b)) T := fun s y hy => by
  rw [Option.map_eq_some_iff] at hy
  obtain ⟨u, g1, rfl⟩ := hy
  rw [pubS_den hb]; exact hE s u g1
 refine EffW.mono ?_ (h b h1 h3 T R β hE' h2)
 rintro v R' ⟨sv, B', L', q, g1, g2, g3⟩
 refine ⟨sv, B', L', ⟨b, h1, h3, q⟩, g1, g2, fun k' hk' => ?_⟩
 rw [g3 k' hk', List.getElem?_set_ne (fun e => by subst e; rw [hb] at hk'; cases hk')]
end
section
variable {P : Program} {C : Cx P} {n : Nat} {E : Env} {B : List (Option Bx)} {L : LH}
end
section
variable {P : Program} [S : Seat P] {C : Cx P} {E : Look} {B : List (Option Bx)} {L : LH} {dst : Option Tmp} {ty : TypeId} {pos : String} {af : Array Edge} {gd : Option (Nat × Bool)}
end
end Go.Mz

