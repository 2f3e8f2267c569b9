/- Lemmas on which the claim leans. -/
import Derived.Test.YtjhpkghkgaekcaaGreatDoorMzLb
import Derived.Laws.Strings2
set_option maxRecDepth 100000
namespace Go.Mz
open Go.Conc
abbrev str (l : List UInt8) : Value := .string ⟨⟨l⟩⟩
theorem str_cat (a b : List UInt8) : (ByteArray.mk ⟨a⟩ ++ ByteArray.mk ⟨b⟩) = ByteArray.mk ⟨a ++ b⟩ := by
 apply ByteArray.ext
 rw [ByteArray.data_append]
 simp
section
variable {P : Program} [S : Seat P] {E : Look} {B : List (Option Bx)} {L : LH} {t t2 : TypeId} {x y : Operand} {ti : TI} {l r : List UInt8}
omit S in
theorem Vf.cat (hx : evS E x = some (.v (str l))) (hy : evS E y = some (.v (str r))) (h : l.length + r.length ≤ 4611686018427387904) : Vf P (.binOp .add t x y t2) E B L (.v (str (l ++ r))) := fun T R β hE _ _ => by
 have ex := (Option.some.inj (hE.val hx)).symm
 have ey := (Option.some.inj (hE.val hy)).symm
 refine ⟨_, rfl, fun ty dst pos af gd Q H hq => ?_⟩
 simp only [execOp, ex, ey]
 rw [wpS_bind, wpS_bind]
 show wpS P _ H (if ((ByteArray.size ⟨⟨l⟩⟩ + ByteArray.size ⟨⟨r⟩⟩ : Nat) : Int) > IntKind.i64.max then _ else pure (Value.string (ByteArray.mk ⟨l⟩ ++ ByteArray.mk ⟨r⟩))) R
 have h1 : (ByteArray.size ⟨⟨l⟩⟩ + ByteArray.size ⟨⟨r⟩⟩ : Nat) = l.length + r.length := rfl
 have h2 : IntKind.i64.max = 9223372036854775807 := rfl
 rw [h1, h2, if_neg (by omega), str_cat]
 exact hq
theorem Vf.strAt {i : Nat} {j : Int} {k : IntKind} {b : UInt8} (hx : evS E x = some (.v (str l))) (hy : evS E y = some (.v (.int k j))) (ht : S.τ.find t = some ti) (hd : ti.d = .text) (hj : j = (i : Int)) (hi : l[i]? = some b) : Vf P (.index t x y) E B L (.v (byteV b)) := fun T R β hE _ _ => by
 have ex := (Option.some.inj (hE.val hx)).symm
 have ey := (Option.some.inj (hE.val hy)).symm
 have hu := (TT.find_ok S.ok ht).d
 rw [hd] at hu
 subst hj
 refine ⟨_, rfl, fun ty dst pos af gd Q H hq => ?_⟩
 simp only [execOp, ex, ey]
 rw [wpS_bind]
 unfold Instr.index
 rw [wpS_bind]
 show wpS P _ H (underlying t >>= _) R
 rw [wpS_bind, wpS_underlying hu]
 simp only
 have h0 : (0 : Int) ≤ (i : Int) := by omega
 have hg : (ByteArray.mk ⟨l⟩)[((i : Int)).toNat]? = some b := by
  rw [Int.toNat_natCast]
  obtain ⟨hl, hg⟩ := List.getElem?_eq_some_iff.1 hi
  show (if h : i < (ByteArray.mk ⟨l⟩).size then some ((ByteArray.mk ⟨l⟩)[i]'h) else none) = some b
  rw [dif_pos (show i < (ByteArray.mk ⟨l⟩).size from hl)]
  show some (l[i]) = some b
  rw [hg]
 rw [if_pos h0, hg]
 exact hq
omit S in
theorem wpS_sliceBounds {lo hi : Option Value} {n i j : Nat} {Q : Nat × Nat × Nat → LH → Prop} {H : Value → LH → Prop} {R : LH} (h1 : (hi = none ∧ n = j) ∨ ∃ k, hi = some (.int k (j : Int))) (h2 : (lo = none ∧ i = 0) ∨ ∃ k, lo = some (.int k (i : Int))) (hij : i ≤ j) (hj : j ≤ n) : wpS P Q H (Instr.sliceBounds false n n lo hi none) R = Q (i, j, n) R := by
 unfold Instr.sliceBounds
 rcases h1 with ⟨rfl, rfl⟩ | ⟨k1, rfl⟩ <;> rcases h2 with ⟨rfl, rfl⟩ | ⟨k2, rfl⟩
 ·simp only
  rw [wpS_bind, wpS_pure, wpS_bind, wpS_pure, wpS_bind, wpS_pure, wpS_pure]
 ·simp only
  rw [wpS_bind, wpS_pure, wpS_bind, wpS_pure, wpS_bind, wpS_sliceBound (by omega), Int.toNat_natCast, wpS_pure]
 ·simp only
  rw [wpS_bind, wpS_pure, wpS_bind, wpS_sliceBound (by omega), Int.toNat_natCast, wpS_bind, wpS_pure, wpS_pure]
 ·simp only
  rw [wpS_bind, wpS_pure, wpS_bind, wpS_sliceBound (by omega), Int.toNat_natCast, wpS_bind, wpS_sliceBound (by omega), Int.toNat_natCast, wpS_pure]
def boE (E : Look) (o : Option Operand) (d : Int) : Option Int := match o with
 | none => some d
 | some x => match evS E x with | some (.v (.int _ j)) => some j | _ => none
theorem Vf.strSl {lo hi : Option Operand} {i j : Nat} {i' j' : Int} (hx : evS E x = some (.v (str l))) (ht : S.τ.find t = some ti) (hd : ti.d = .text) (hlo : boE E lo 0 = some i') (hhi : boE E hi l.length = some j') (ei : i' = (i : Int)) (ej : j' = (j : Int)) (hij : i ≤ j) (hj : j ≤ l.length) : Vf P (.slice t x lo hi none) E B L (.v (str ((l.drop i).take (j - i)))) := fun T R β hE _ _ => by
 have ex := (Option.some.inj (hE.val hx)).symm
 have hu := (TT.find_ok S.ok ht).d
 rw [hd] at hu
 subst ei ej
 refine ⟨_, rfl, fun ty dst pos af gd Q H hq => ?_⟩
 simp only [execOp, ex, Option.map_none]
 rw [wpS_bind]
 unfold Instr.sliceAt
 rw [wpS_bind, wpS_underlying hu]
 simp only
 unfold Instr.slice
 rw [wpS_bind, wpS_underlying hu]
 simp only [Option.isSome_none, Bool.false_eq_true, if_false]
 rw [wpS_bind]
 have key : ∀ (o : Option Operand) (d j' : Int) (k : Nat), boE E o d = some j' → j' = (k : Int) → (o.map (ev T) = none ∧ d = k) ∨ ∃ kk, o.map (ev T) = some (.int kk (k : Int)) := by
  intro o d j' k h e
  subst e
  cases o with
  | none => exact .inl ⟨rfl, Option.some.inj h⟩
  | some z =>
   unfold boE at h
   simp only at h
   split at h
   ·rename_i kk q hz
    cases h
    exact .inr ⟨kk, by rw [Option.map_some, (Option.some.inj (hE.val hz)).symm]⟩
   ·cases h
 rw [show (ByteArray.mk ⟨l⟩).size = l.length from rfl]
 rw [wpS_sliceBounds (i := i) (j := j) ((key _ _ _ _ hhi rfl).imp (fun h => ⟨h.1, by omega⟩) id) ((key _ _ _ _ hlo rfl).imp (fun h => ⟨h.1, by omega⟩) id) hij hj]
 have e : (ByteArray.mk ⟨l⟩).extract i j = ByteArray.mk ⟨(l.drop i).take (j - i)⟩ := ByteArray.extract_mk l i j
 simp only
 rw [e]
 exact hq
end
section
variable {P : Program} [S : Seat P] {C : Cx P} {E : Look} {B : List (Option Bx)} {L : LH} {dst : Option Tmp} {ty : TypeId} {pos : String} {af : Array Edge} {gd : Option (Nat × Bool)}
theorem Ef.rangeT {t : TypeId} {x : Operand} {ti : TI} {l : List UInt8} (hx : evS E x = some (.v (str l))) (ht : S.τ.find t = some ti) (hd : ti.d = .text) :
  Ef C ⟨dst, .range t x, ty, pos, af, gd⟩ E B L (fun sv B' L' => ∃ q, sv = .v (.pointer (some ⟨q, 0, none⟩)) ∧ B' = B ∧ L q = none ∧ L' = L.put q (.stringIter ⟨⟨l⟩⟩ 0)) := by
 intro T R β hE hH
 have ex := (Option.some.inj (hE.val hx)).symm
 have hu := (TT.find_ok S.ok ht).d
 rw [hd] at hu
 refine ⟨rfl, ?_⟩
 simp only [execOp, ex]
 rw [wpS_bind]
 unfold Instr.range
 rw [wpS_bind, wpS_underlying hu]
 simp only
 rw [wpS_bind, wpS_pure, wpS_bind, wpS_newObj]
 intro q hq
 rw [wpS_pure, wpS_pure]
 exact ⟨_, B, _, ⟨q, rfl, rfl, (hH.free hq).1, rfl⟩, rfl, hH.newF hq _, fun _ _ => rfl⟩
omit [Seat P] in
theorem Ef.nextT {y : Operand} {q p : Nat} {s : ByteArray} (hy : evS E y = some (.v (.pointer (some ⟨q, 0, none⟩)))) (hq : L q = some (.stringIter s p, true)) :
  Ef C ⟨dst, .next y true, ty, pos, af, gd⟩ E B L (fun sv B' L' => B' = B ∧ ((p < s.size ∧ sv = .v (.tuple #[.bool true, .int .i64 p, .int .i32 (Utf8.decode s p).1]) ∧ L' = L.put q (.stringIter s (p + (Utf8.decode s p).2))) ∨ (s.size ≤ p ∧ sv = .v (.tuple #[.bool false]) ∧ L' = L))) := by
 intro T R β hE hH
 have ey := (Option.some.inj (hE.val hy)).symm
 have hR := hH.le _ _ hq
 refine ⟨rfl, ?_⟩
 simp only [execOp, ey]
 rw [wpS_bind]
 unfold Instr.next
 simp only
 rw [wpS_bind]
 show wpS P _ _ (.getObj q .pure) R
 unfold wpS
 rw [hR]
 simp only [special, Bool.false_eq_true, if_false]
 show wpS P _ _ _ R
 simp only [pure, wpS]
 by_cases h : p < s.size
 ·rw [if_pos h]
  show wpS P _ _ (setObj q _ >>= _) R
  rw [wpS_bind, wpS_setObj hR rfl rfl]
  exact ⟨_, B, _, ⟨rfl, .inl ⟨h, rfl, rfl⟩⟩, rfl, hH.setF hq (put_same _ _ _) (fun b' hb' => put_ne R _ hb'), fun _ _ => rfl⟩
 ·rw [if_neg h]
  exact ⟨_, B, L, ⟨rfl, .inr ⟨by omega, rfl, rfl⟩⟩, rfl, hH, fun _ _ => rfl⟩
end
theorem decode_lo {l : List UInt8} {p : Nat} {b : UInt8} (h : l[p]? = some b) (hb : b.toNat < 128) : Utf8.decode ⟨⟨l⟩⟩ p = (b.toNat, 1) := by
 obtain ⟨hl, hg⟩ := List.getElem?_eq_some_iff.1 h
 have e : ((ByteArray.mk ⟨l⟩).get! (p + 0)).toNat = b.toNat := by
  show ((⟨l⟩ : Array UInt8)[p + 0]!).toNat = _
  rw [Nat.add_zero, getElem!_pos (⟨l⟩ : Array UInt8) p hl]
  show (l[p]).toNat = _
  rw [hg]
 unfold Utf8.decode
 simp only [e]
 rw [if_pos (by omega)]
section
variable {P : Program} [S : Seat P] {C : Cx P} {E : Look} {B : List (Option Bx)} {L : LH} {dst : Option Tmp} {ty : TypeId} {pos : String} {af : Array Edge} {gd : Option (Nat × Bool)}
theorem Ef.copyO {ts tx e e2 : TypeId} {ti te : TI} {x y : Operand} {b off dl dc m : Nat} {c : Array Value} {vs : List Value} (hx : evS E x = some (.v (.slice (some ⟨b, off, none⟩) dl dc))) (hts : S.τ.find ts = some ti) (hd : ti.d = .slice e) (he : S.τ.find e = some te) (hy : YC E B L te.size y m vs) (hm : m ≤ dl)
  (hb : L b = some (.cells c e2 (0, 0), true)) (hl : off + vs.length ≤ c.size) (hs : ∀ u ∈ vs, single u = true) :
  Ef C ⟨dst, .call { callee := .builtin .copy, args := #[x, y], argTypes := #[ts, tx] }, ty, pos, af, gd⟩ E B L (fun sv B' L' => sv = .v (.int .i64 m) ∧ B' = B ∧ L' = L.put b (.cells (putRow c off vs) e2)) := by
 intro T R β hE hH
 have ex := (Option.some.inj (hE.val hx)).symm
 obtain ⟨hvl, hlen, hfirst⟩ := hy.first (P := P) hE hH.boxes hH.le
 have i1 := (TT.find_ok S.ok hts).d
 rw [hd] at i1
 refine ⟨rfl, ?_⟩
 simp only [execOp, resolve, List.map_toArray, List.map_cons, List.map_nil, ex, pure, Sem.bind, bind, invoke, builtin]
 show wpS P _ _ (Builtin.copy_ _ _ _ >>= fun u => pure (Next.value u)) R
 rw [wpS_bind]
 unfold Builtin.copy_
 simp only [List.getElem?_toArray, List.getElem?_cons_zero, List.getElem?_cons_succ]
 rw [wpS_bind, wpS_underlying i1]
 simp only
 rw [wpS_bind, hlen, wpS_bind, wpS_sizeOf (TT.find_ok S.ok he).size, wpS_bind]
 rw [show Nat.min m dl = m from Nat.min_eq_left hm]
 refine hfirst _ _ ?_
 simp only
 rw [wpS_bind]
 refine wpS_storeCells (e := e2) vs 0 c R (hH.le _ _ hb) (by omega) hs (fun R' h1 h2 => ?_)
 rw [Nat.add_zero] at h1
 exact ⟨.v (.int .i64 m), B, _, ⟨rfl, rfl, rfl⟩, rfl, hH.setF hb h1 h2, fun _ _ => rfl⟩
theorem Ef.stoO {t e : TypeId} {x y : Operand} {ti : TI} {ad : Addr} {b off : Nat} {c : Array Value} {v : Value} (hx : evS E x = some (.v (.pointer (some ad)))) (hy : ∃ s, evS E y = some s ∧ den nm0 s = some v) (ht : S.τ.find t = some ti) (ha : ad = ⟨b, off, none⟩) (hb : L b = some (.cells c e (0, 0), true)) (hn : v.cells.size = ti.size) (hl : off + ti.size ≤ c.size)
  (hs : ∀ u ∈ v.cells.toList, single u = true) : Ef C ⟨dst, .store t x y, ty, pos, af, gd⟩ E B L (StoQ (L.put b (.cells (putRow c off v.cells.toList) e)) B) := by
 subst ha
 exact Ef.stoF hx hy ht hb hn hl hs
end
theorem putL_all : ∀ {c b : List SV}, c.length = b.length → putL b 0 c = c
 | [], [], _ => rfl
 | [], _ :: _, h => by simp at h
 | _ :: _, [], h => by simp at h
 | x :: c, y :: b, h => by
  show x :: putL b 0 c = x :: c
  rw [putL_all (by simpa using h)]
theorem sglL_map : ∀ {vs : List Value}, (∀ u ∈ vs, single u = true) → sglL (vs.map .v) = true
 | [], _ => rfl
 | x :: vs, h => by
  have h1 := h x List.mem_cons_self
  have h2 := sglL_map (vs := vs) fun u hu => h u (List.mem_cons_of_mem _ hu)
  rw [List.map_cons]
  unfold sglL
  rw [show sgl (.v x) = true from h1, h2]
section
variable {P : Program} [S : Seat P] {C : Cx P} {n : Nat} {k : List Item} {E : Env} {B : List (Option Bx)} {L : LH}
theorem Ef.stoW {dst : Option Tmp} {ty : TypeId} {pos : String} {af : Array Edge} {gd : Option (Nat × Bool)} {Eo : Look} {t : TypeId} {x y : Operand} {ti : TI} {kk : Nat} {bt : TypeId} {vs : List Value} {cells : List SV} (hx : evS Eo x = some (.p kk 0)) (hy : evS Eo y = some (.v (.agg vs.toArray))) (ht : S.τ.find t = some ti) (hb : nth B kk = some (some ⟨cells, bt⟩)) (h1 : vs.length = ti.size) (h2 : cells.length = ti.size) (h3 : ∀ u ∈ vs, single u = true) :
  Ef C ⟨dst, .store t x y, ty, pos, af, gd⟩ Eo B L (StoQ L (B.set kk (some ⟨vs.map .v, bt⟩)) ) :=
 Ef.stoA hx hy ht hb (by show (Value.agg vs.toArray).cells.toList.map SV.v = vs.map SV.v; rfl) (by rw [List.length_map, h1]) (by omega) (sglL_map h3) (putL_all (by rw [List.length_map, h1, h2]))
theorem W.retBox {fn : Func} {Q : Value → LH → Prop} {H : List PanicEntry → LH → Prop} {a : Tmp} {t : TypeId} {kk : Nat} {bx : Bx} {vs : List Value} {ti : TI} (r : Rt C fn Q H) (hres : fn.results = #[.cell a t]) (ha : get E a = some (.p kk 0)) (hb : nth B kk = some (some bx)) (hc : bx.cells = vs.map .v) (ht : S.τ.find t = some ti) (hg : ti.agg = true) (hn : vs.length = ti.size) (hq : Q (.agg vs.toArray) L) : W C n [] (.code .ret :: k) E B L := by
 refine W.out r.ro (.inr .ret) (WM.retF r (v := .agg vs.toArray) (fun T R β hE hB hL => ?_) hq)
 obtain ⟨b, h1, h2⟩ := den_p (hE a _ ha)
 obtain ⟨cs, h3, h4⟩ := hB kk b bx h1 (by rw [← nth_eq]; exact hb)
 rw [hc, denL_map_v] at h3
 cases h3
 unfold results
 rw [hres, wpS_bind, Array.mapM_eq_mapM_toList]
 simp only [List.mapM_cons, List.mapM_nil]
 rw [wpS_map, wpS_bind]
 simp only [h2]
 rw [wpS_bind, wpS_asAddr, wpS_loadVarN (n := ti.size) (vs := vs) (by rw [(TT.find_ok S.ok ht).agg, hg]) (TT.find_ok S.ok ht).size ⟨hn, fun i v hi => by rw [add_of, Nat.zero_add]; exact cell_of h4 (by rw [List.getElem?_toArray]; exact hi)⟩]
 exact ⟨rfl, rfl⟩
end
theorem W.unlit {P : Program} {C : Cx P} {n : Nat} {ds : List Deferred} {k : List Item} {E : Env} {B : List (Option Bx)} {L : LH} (s : Nat) {b : Bool} (hs : get E s = some (.lit b)) (w : W C n ds k ((s, .v (.bool b)) :: E) B L) : W C n ds k E B L := fun T R β hT hE hH =>
 w T R β hT (fun s' x hx => by
  rw [get_cons] at hx
  by_cases e : s = s'
  ·subst e
   rw [if_pos rfl] at hx; cases hx
   exact (hE s (.lit b) hs : den β (.lit b) = _)
  ·rw [if_neg e] at hx
   exact hE s' x hx) hH
end Go.Mz


namespace Go.Mz
open Go.Conc
section
variable {P : Program} {R : LH} {H : Value → LH → Prop}
theorem wpS_appendF {ts tx e : TypeId} {k bts len m : Nat} {cs vs : List Value} {v yv z : Value} {ty : TypeId} {Q : Value → LH → Prop} (hts : P.underlying ts = some (.slice e)) (hk : (P.info? e).map (·.size) = some k) (hbt : (P.info? e).map (·.bytes) = some bts) (hz : (P.info? e).bind (·.zero) = some z) (hzk : z.cells.size = k) (htx : TxOk P tx)
  (hv : ∃ ad, v = .slice ad len len) (ho : FirstIs P R k len v cs) (hy : FirstIs P R k m yv vs) (hm : 0 < m) (h0 : 0 < bts) (hb : (2 * (len + m) + 1024) * bts ≤ 2 ^ 48)
  (hq : ∀ b c cap, R b = none → Own (R.put b (.cells c e)) k e (.slice (some ⟨b, 0, none⟩) (len + m) cap) (len + m) (cs ++ vs) (some b) → Q (.slice (some ⟨b, 0, none⟩) (len + m) cap) (R.put b (.cells c e))) : wpS P Q H (Builtin.append_ #[ts, tx] ty #[v, yv]) R := by
 obtain ⟨hvl, hlen, hfirst⟩ := hy
 obtain ⟨ad, rfl⟩ := hv
 obtain ⟨hcl, _, hof⟩ := ho
 unfold Builtin.append_
 simp only [List.getElem?_toArray, List.getElem?_cons_zero, List.getElem?_cons_succ]
 rw [wpS_bind, wpS_underlying hts]
 simp only
 rcases htx with ⟨e2, htx⟩ | htx
 all_goals
  rw [wpS_bind, wpS_sizeOf hk, wpS_bind, wpS_underlying htx, wpS_bind, wpS_pure]
  simp only [Bool.false_eq_true, if_false, Bool.not_false, if_true]
  rw [wpS_bind, hlen]
  have hfit : ¬ (len + m ≤ len) := by omega
  rw [if_neg hfit]
  obtain ⟨inf, hinf, hib⟩ : ∃ inf, P.info? e = some inf ∧ inf.bytes = bts := by
   cases hx : P.info? e with
   | none => rw [hx] at hbt; cases hbt
   | some i => rw [hx] at hbt; cases hbt; exact ⟨i, rfl, rfl⟩
  have hnb : ¬ (inf.bytes = 0) := by omega
  rw [wpS_bind, wpS_typeInfo hinf, if_neg (by simp [hnb]), wpS_bind, wpS_typeInfo hinf]
  have hcap := nextcap_le (need := len + m) (old := len) (by omega)
  have hle : Builtin.nextslicecap (len + m) len * inf.bytes ≤ 2 ^ 48 := Nat.le_trans (by rw [hib]; exact Nat.mul_le_mul_right _ hcap) hb
  rw [if_neg (by omega), wpS_bind, wpS_choose]
  intro newCap hnc
  obtain ⟨r, rfl⟩ : ∃ r, newCap = len + m + r := by
   unfold Answers at hnc
   simp only [Question.forced, Bool.false_eq_true, if_false, Question.cut] at hnc
   obtain ⟨t, ht⟩ := hnc
   exact ⟨_, ht⟩
  rw [wpS_bind, wpS_typeInfo hinf, wpS_bind]
  refine wpS_askRoom ?_
  rw [wpS_bind]
  refine hof _ _ ?_
  rw [wpS_bind]
  refine hfirst _ _ ?_
  rw [wpS_bind, wpS_zeroValue hz, wpS_bind, wpS_newRow]
  intro b hb'
  rw [wpS_pure]
  refine hq b _ _ hb' ⟨len + m + r, _, rfl, put_same _ _ _, ?_, by omega, by rw [List.length_append, hcl, hvl, Nat.add_mul], fun i x hx => ?_⟩
  ·simp only [Builtin.zeroCells, Array.size_append, List.size_toArray, Array.size_map, Array.size_range, hcl, hvl, hzk]
   rw [show len + m + r - (len + m) = r by omega, Nat.add_mul, Nat.add_mul]
  ·have hlt := (List.getElem?_eq_some_iff.1 hx).1
   rw [← Array.getElem?_toList, Array.toList_append, Array.toList_append, List.getElem?_append_left (by simpa using hlt)]
   exact hx
end
section
variable {P : Program} [S : Seat P] {C : Cx P} {E : Look} {B : List (Option Bx)} {L : LH} {dst : Option Tmp} {ty : TypeId} {pos : String} {af : Array Edge} {gd : Option (Nat × Bool)}
def AppQ {α : Type} (B : List (Option Bx)) (L : LH) (k : Nat) (e : TypeId) (enc : α → List Value) (l : List α) (sv : SV) (B' : List (Option Bx)) (L' : LH) : Prop :=
 ∃ b c cap, sv = .v (.slice (some ⟨b, 0, none⟩) l.length cap) ∧ B' = B ∧ L b = none ∧ L' = L.put b (.cells c e) ∧ Own L' k e (.slice (some ⟨b, 0, none⟩) l.length cap) l.length (l.flatMap enc) (some b)
theorem Ef.appF {α : Type} {enc : α → List Value} {l ls : List α} {ts tx e : TypeId} {ti te tx' : TI} {ad : Option Addr} {x y : Operand} (hx : evS E x = some (.v (.slice ad l.length l.length))) (hts : S.τ.find ts = some ti) (hd : ti.d = .slice e) (he : S.τ.find e = some te) (htx : S.τ.find tx = some tx') (hd2 : seqD tx'.d = true) (hz : te.z.cells.size = te.size)
  (h0 : Nat.blt 0 te.bytes = true) (h1 : Nat.ble te.bytes 1024 = true) (hk : ∀ x, (enc x).length = te.size) (hl : SlAt L ad te.size enc l) (hy : YC E B L te.size y ls.length (ls.flatMap enc)) (hls : 0 < ls.length) (hlen : l.length + ls.length ≤ 1073741824) :
  Ef C ⟨dst, .call { callee := .builtin .append, args := #[x, y], argTypes := #[ts, tx] }, ty, pos, af, gd⟩ E B L (AppQ B L te.size e enc (l ++ ls)) := by
 intro T R β hE hH
 have ex : ev T x = .slice ad l.length l.length := (Option.some.inj (hE.val hx)).symm
 have fy := hy.first (P := P) hE hH.boxes hH.le
 have fx : FirstIs P R te.size l.length (.slice ad l.length l.length) (l.flatMap enc) := by
  cases ad with
  | none =>
   cases l with
   | nil => exact FirstIs.nil
   | cons x l => obtain ⟨a, h1⟩ := hl.addr (i := 0) (by simp); cases h1
  | some a => exact FirstIs.at (hH.le.cellsAt (hl.cells hk))
 have i1 := (TT.find_ok S.ok hts).d
 rw [hd] at i1
 have i2 := tx_ok (TT.find_ok S.ok htx).d hd2
 have ie := TT.find_ok S.ok he
 refine ⟨rfl, ?_⟩
 simp only [execOp, resolve, List.map_toArray, List.map_cons, List.map_nil, ex, pure, Sem.bind, bind, invoke, builtin]
 show wpS P _ _ (Builtin.append_ _ _ _ >>= fun u => pure (Next.value u)) R
 rw [wpS_bind]
 refine wpS_appendF i1 ie.size ie.bytes ie.zero hz i2 ⟨_, rfl⟩ fx fy hls (Nat.le_of_ble_eq_true h0) ?_ fun b c cap hb ho => ?_
 ·have := Nat.le_of_ble_eq_true h1
  have h2 : 2 * (l.length + ls.length) + 1024 ≤ 2147484672 := by omega
  exact Nat.le_trans (Nat.mul_le_mul h2 this) (by decide)
 ·rw [wpS_pure]
  have hLn := (hH.free hb).1
  have hown : Own (L.put b (.cells c e)) te.size e (.slice (some ⟨b, 0, none⟩) (l ++ ls).length cap) (l ++ ls).length ((l ++ ls).flatMap enc) (some b) := by
   rw [List.length_append, List.flatMap_append]
   exact ho.keep fun b' hb' => by cases hb'; rw [put_same, put_same]
  exact ⟨.v (.slice (some ⟨b, 0, none⟩) (l.length + ls.length) cap), B, L.put b (.cells c e), ⟨b, c, cap, by rw [List.length_append], rfl, hLn, rfl, hown⟩, rfl, hH.newF hb _, fun _ _ => rfl⟩
end
end Go.Mz


namespace Go.Mz
open Go.Conc
theorem join_le_left {L G : LH} : Le L (L.join G) := fun b x hx => by unfold LH.join; rw [hx]
theorem join_le {L G R : LH} (h1 : Le L R) (h2 : Le G R) : Le (L.join G) R := fun b x hx => by
 unfold LH.join at hx
 cases hl : L b with
 | some y => rw [hl] at hx; cases hx; exact h1 b _ hl
 | none => rw [hl] at hx; exact h2 b x hx
theorem join_le_right {L G R : LH} (h1 : Le L R) (h2 : Le G R) : Le G (L.join G) := fun b x hx => by
 unfold LH.join
 cases hl : L b with
 | some y => have := h1 b y hl; rw [h2 b x hx] at this; cases this; rfl
 | none => exact hx
section
variable {P : Program} {α : Type}
variable {X : Logic P} {yv : Value} {Rel : α → List Value → LH → Prop} {xs : List α} {K : LH → Prop} {J : List α → LH → Prop} {Z : LH → Prop} {F L L2 : LH} {pre : List α}
end
section
variable {P : Program} {α : Type} {C : Cx P} {n : Nat} {ds : List Deferred} {k : List Item} {E : Env} {B : List (Option Bx)} {L : LH}
end
end Go.Mz


set_option maxRecDepth 100000
namespace Go.Mz
open Go.Conc Go.Proofs
def natI (l : List Nat) : List Int := l.map fun (n : Nat) => (n : Int)
theorem encI_len (x : Int) : (encI x).length = 1 := rfl
theorem encI_sg (x : Int) : ∀ u ∈ encI x, single u = true := fun u hu => by cases List.mem_singleton.1 hu; rfl
def NewSl {α : Type} (L : LH) (k : Nat) (enc : α → List Value) (l : List α) (v : Value) (L' : LH) : Prop := ∃ ad cap, v = .slice ad l.length cap ∧ Le L L' ∧ SlAt L' ad k enc l ∧ l.length ≤ cap
theorem Grow.new_sl {α : Type} {I L : LH} {k : Nat} {e : TypeId} {enc : α → List Value} {v : Value} {l : List α} (h : Grow I k e enc L v l) (hk : ∀ x, (enc x).length = k) : NewSl I k enc l v L := by
 obtain ⟨ad, cap, rfl, hc⟩ := h.slice
 exact ⟨ad, cap, rfl, h.1, (h.at hk).2, hc⟩
theorem range_filter (p : Nat → Bool) (i : Nat) : (List.range (i + 1)).filter p = (List.range i).filter p ++ if p i then [i] else [] := by
 rw [List.range_succ, List.filter_append]
 congr 1
 by_cases h : p i <;> simp [h]
theorem natI_snoc (l : List Nat) (i : Nat) : natI (l ++ [i]) = natI l ++ [(i : Int)] := by simp [natI]
theorem cellsAt_all {L : LH} {b : Nat} {vs : List Value} {e : TypeId} {fz : Nat × Nat} {wr : Bool} (h : L b = some (.cells vs.toArray e fz, wr)) : cellsAt L ⟨b, 0, none⟩ vs.length vs :=
 ⟨rfl, fun i v hv => by rw [add_of, Nat.zero_add]; exact cell_of h (by rw [List.getElem?_toArray]; exact hv)⟩
theorem cellsAt_n {L : LH} {b n : Nat} {vs : List Value} {e : TypeId} {fz : Nat × Nat} {wr : Bool} (h : L b = some (.cells vs.toArray e fz, wr)) (hn : vs.length = n) : cellsAt L ⟨b, 0, none⟩ n vs := hn ▸ cellsAt_all h
abbrev pt (b : Nat) : Value := .pointer (some ⟨b, 0, none⟩)
theorem W.cut1 {P : Program} {C : Cx P} {n : Nat} {ds : List Deferred} {a : Item} {k : List Item} {E : Env} {B : List (Option Bx)} {L : LH} (J : Env → List (Option Bx) → LH → Prop) (hJ : ∀ E B L, J E B L → W C n ds k E B L) (h : (∀ E' B' L', J E' B' L' → W C n ds k E' B' L') → W C n ds (a :: k) E B L) : W C n ds (a :: k) E B L := h hJ
abbrev Rf := Option Addr × Nat × Nat
abbrev slV (r : Rf) : Value := .slice r.1 r.2.1 r.2.2
theorem but_but {L L' : LH} {b : Nat} (h : Le (L.but b) L') : Le (L.but b) (L'.but b) := fun b' x hx => by
 have hb : b' ≠ b := fun e => by subst e; unfold LH.but at hx; rw [if_pos rfl] at hx; cases hx
 rw [but_get hb]; exact h _ _ hx
theorem le_but {L L1 : LH} {b : Nat} (hb : L b = none) (hl : Le L L1) : Le L (L1.but b) := fun b' x hx => by
 rw [but_get (fun e => by subst e; rw [hb] at hx; cases hx)]; exact hl _ _ hx
theorem sl_block {α : Type} {L : LH} {b : Nat} {l : List α} {k : Nat} {e : TypeId} {enc : α → List Value} (hk : ∀ x, (enc x).length = k) (h : L b = some (.cells (l.flatMap enc).toArray e (0, 0), true)) : SlAt L (some ⟨b, 0, none⟩) k enc l := by
 have hl : ∀ l : List α, (l.flatMap enc).length = l.length * k := fun l => by
  induction l with
  | nil => simp
  | cons a l ih => rw [List.flatMap_cons, List.length_append, hk, ih, List.length_cons, Nat.succ_mul]; omega
 exact Own.at (e := e) (len := l.length) (cap := l.length) (ob := some b) ⟨l.length, (l.flatMap enc).toArray, rfl, h, by simp [hl], Nat.le_refl _, hl l, fun i x hx => by simpa using hx⟩ hk
abbrev Rw (α : Type) := Rf × List α
def encRw {α : Type} (x : Rw α) : List Value := [slV x.1]
theorem encRw_len {α : Type} (x : Rw α) : (encRw x).length = 1 := rfl
structure RwOk {α : Type} (L : LH) (k : Nat) (enc : α → List Value) (x : Rw α) : Prop where
 sl : SlAt L x.1.1 k enc x.2
 len : x.1.2.1 = x.2.length
 cap : x.2.length ≤ x.1.2.2
theorem RwOk.le {α : Type} {L L' : LH} {k : Nat} {enc : α → List Value} {x : Rw α} (h : RwOk L k enc x) (hl : Le L L') : RwOk L' k enc x := ⟨h.sl.le hl, h.len, h.cap⟩
def RowsAt {α : Type} (L : LH) (ad : Option Addr) (k : Nat) (enc : α → List Value) (ls : List (List α)) : Prop := ∃ rs : List (Rw α), rs.map Prod.snd = ls ∧ SlAt L ad 1 encRw rs ∧ ∀ x ∈ rs, RwOk L k enc x
section
variable {β : Type} {F F' I L L' L2 : LH} {e k : Nat} {enc : β → List Value} {v : Value} {l : List β}
end
section
variable {α : Type} {I L L' : LH} {e k : Nat} {enc : α → List Value} {v : Value} {ls : List (List α)}
theorem RowsAt.le {ad : Option Addr} (h : RowsAt L ad k enc ls) (hl : Le L L') : RowsAt L' ad k enc ls := let ⟨rs, h1, h2, h3⟩ := h; ⟨rs, h1, h2.le hl, fun x hx => (h3 x hx).le hl⟩
theorem RowsAt.addr {ad : Option Addr} (h : RowsAt L ad k enc ls) {i : Nat} (hi : i < ls.length) : ∃ a, ad = some a := by
 obtain ⟨rs, rfl, h2, _⟩ := h
 exact h2.addr (by simpa using hi)
theorem RowsAt.row {ad : Addr} (h : RowsAt L (some ad) k enc ls) {i : Nat} {l : List α} (hl : ls[i]? = some l) : ∃ a c, L.cell? (ad.add i) = some (.slice a l.length c) ∧ SlAt L a k enc l ∧ l.length ≤ c := by
 obtain ⟨rs, rfl, h2, h3⟩ := h
 rw [List.getElem?_map] at hl
 obtain ⟨⟨⟨a, n, c⟩, l'⟩, hx, rfl⟩ := Option.map_eq_some_iff.1 hl
 have hk := h3 _ (List.mem_of_getElem? hx)
 have hn : n = l'.length := hk.len
 subst hn
 refine ⟨a, c, ?_, hk.sl, hk.cap⟩
 have := h2.get hx (j := 0) (v := slV (a, l'.length, c)) rfl
 simpa using this
end
section
variable {P : Program} {E : Look} {B : List (Option Bx)} {L : LH}
end
end Go.Mz


set_option maxRecDepth 100000
namespace Go.Mz
open Go.Conc Go.Proofs
variable {X : Logic Tryz.prog}
def encSp (x : Spn) : List Value := [.int .i64 x.lo, .int .i64 x.hi]
def encPr (x : Prf) : List Value := [.int .i64 x.pan, .int .i64 x.tick, .int .i64 x.thread]
theorem encSp_len (x : Spn) : (encSp x).length = 2 := rfl
theorem encPr_len (x : Prf) : (encPr x).length = 3 := rfl
theorem encSp_sg (x : Spn) : ∀ u ∈ encSp x, single u = true := fun u hu => by
 simp only [encSp, List.mem_cons, List.not_mem_nil, or_false] at hu
 rcases hu with rfl | rfl <;> rfl
theorem encPr_sg (x : Prf) : ∀ u ∈ encPr x, single u = true := fun u hu => by
 simp only [encPr, List.mem_cons, List.not_mem_nil, or_false] at hu
 rcases hu with rfl | rfl | rfl <;> rfl
structure BP where
 a0 : Option Addr
 a1 : Option Addr
 a2 : Option Addr
 a3 : Option Addr
 a4 : Option Addr
 c0 : Nat
 c1 : Nat
 c2 : Nat
 c3 : Nat
 c4 : Nat
abbrev blL (b : Bl) (p : BP) : List Value := [.slice p.a0 b.starts.length p.c0, .slice p.a1 b.rates.length p.c1, .slice p.a2 b.marks.length p.c2, .slice p.a3 b.heats.length p.c3, .slice p.a4 b.proofs.length p.c4]
abbrev blA (b : Bl) (p : BP) : Value := .agg (blL b p).toArray
structure BlAt (L : LH) (b : Bl) (p : BP) : Prop where
 h0 : SlAt L p.a0 2 encSp b.starts
 h1 : IntsAt L p.a1 b.rates
 h2 : IntsAt L p.a2 b.marks
 h3 : SlAt L p.a3 2 encSp b.heats
 h4 : SlAt L p.a4 3 encPr b.proofs
 n0 : b.starts.length ≤ 1000000
 n1 : b.rates.length ≤ 1000000
 n2 : b.marks.length ≤ 1000000
 n3 : b.heats.length ≤ 1000000
 n4 : b.proofs.length ≤ 1000000
 k4 : b.proofs.length ≤ p.c4
theorem BlAt.le {L L' : LH} {b : Bl} {p : BP} (h : BlAt L b p) (hl : Le L L') : BlAt L' b p := ⟨h.h0.le hl, h.h1.le hl, h.h2.le hl, h.h3.le hl, h.h4.le hl, h.n0, h.n1, h.n2, h.n3, h.n4, h.k4⟩
theorem within_t (n lo hi : Int) (L : LH) : Sp X 126 [.int .i64 n, .int .i64 lo, .int .i64 hi] L (fun v L' => v = .bool (inB n lo hi) ∧ L = L') := by
 refine Sp.enter (n := 15) Tryz.func126 rfl rfl rfl rfl fun C hX _ hL0 r => ?_
 refine W.go 99 rfl ?_
 refine W.split rfl rfl rfl (fun c => ?_) (fun c => ?_)
 ·refine W.go 99 rfl ?_
  exact W.ret r rfl rfl ⟨by unfold inB; rw [c]; rfl, rfl⟩
 ·refine W.go 99 rfl ?_
  exact W.ret r rfl rfl ⟨by unfold inB; rw [c]; rfl, rfl⟩
theorem checkSpan_t (s : Spn) (m : Int) (L : LH) : Sp X 214 [.agg (encSp s).toArray, .int .i64 m] L (fun v L' => v = .int .i64 (spanE s m) ∧ L = L') := by
 refine Sp.enter (n := 22) Tryz.func214 rfl rfl rfl rfl fun C hX _ hL0 r => ?_
 refine W.go 99 rfl ?_
 refine W.eff rfl rfl rfl (Ef.call rfl (within_t _ _ _ _)) ?_
 rintro _ _ _ ⟨_, rfl, rfl, rfl, rfl⟩
 refine W.go 99 rfl ?_
 refine W.split rfl rfl rfl (fun c1 => ?_) (fun c1 => ?_)
 ·refine W.go 99 rfl ?_
  exact W.ret r rfl rfl ⟨by unfold spanE; rw [if_pos (by simp at c1; simp [c1])]; rfl, rfl⟩
 refine W.go 99 rfl ?_
 refine W.eff rfl rfl rfl (Ef.call rfl (within_t _ _ _ _)) ?_
 rintro _ _ _ ⟨_, rfl, rfl, rfl, rfl⟩
 refine W.go 99 rfl ?_
 refine W.split rfl rfl rfl (fun c2 => ?_) (fun c2 => ?_)
 ·refine W.go 99 rfl ?_
  exact W.ret r rfl rfl ⟨by unfold spanE; rw [if_pos (by simp at c1 c2; simp [c1, c2])]; rfl, rfl⟩
 refine W.go 99 rfl ?_
 refine W.split rfl rfl rfl (fun c3 => ?_) (fun c3 => ?_)
 ·refine W.go 99 rfl ?_
  exact W.ret r rfl rfl ⟨by unfold spanE; rw [if_neg (by simp at c1 c2; simp [c1, c2]), if_pos (by simpa using c3)]; rfl, rfl⟩
 ·refine W.go 99 rfl ?_
  exact W.ret r rfl rfl ⟨by unfold spanE; rw [if_neg (by simp at c1 c2; simp [c1, c2]), if_neg (by simpa using c3)]; rfl, rfl⟩
theorem checkSpans_t (ad : Option Addr) (cp : Nat) (l : List Spn) (many m : Int) (L : LH) (hl : SlAt L ad 2 encSp l) (hn : l.length ≤ 1000000) : Sp X 162 [.slice ad l.length cp, .int .i64 many, .int .i64 m] L (fun v L' => v = .int .i64 (spansE l many m) ∧ L = L') := by
 refine Sp.enter (n := 33) Tryz.func162 rfl rfl rfl rfl fun C hX _ hL0 r => ?_
 refine W.go 99 rfl ?_
 refine W.split rfl rfl rfl (fun c1 => ?_) (fun c1 => ?_)
 ·refine W.go 99 rfl ?_
  exact W.ret r rfl rfl ⟨by unfold spansE sizedE; simp at c1; simp [c1, retV], rfl⟩
 refine W.go 99 rfl ?_
 refine W.split rfl rfl rfl (fun c2 => ?_) (fun c2 => ?_)
 ·refine W.go 99 rfl ?_
  exact W.ret r rfl rfl ⟨by unfold spansE sizedE; simp at c1 c2; rw [if_neg (show ¬ ((l.length : Int) < 1) by omega), if_pos (show many < (l.length : Int) by omega)]; rfl, rfl⟩
 refine W.go 99 rfl ?_
 have hs : sizedE l.length 1 many = 0 := by unfold sizedE; simp at c1 c2; rw [if_neg (by omega), if_neg (by omega)]
 refine W.loop (fun m' E B L' => ∃ i : Nat, m' = l.length - i ∧ i ≤ l.length ∧ spanLE m (l.drop i) = spanLE m l ∧ E = [(2, .v (.int .i64 m)), (20, .v (.slice ad l.length cp)), (21, .v (.int .i64 l.length)), (22, .v (.int .i64 i))] ∧ B = [] ∧ L = L')
  ⟨0, rfl, by omega, by simp, rfl, rfl, rfl⟩ ⟨rfl, rfl, rfl, rfl, trivial⟩ trivial ?_
 rintro _ _ _ _ ⟨i, rfl, h1, hg, rfl, rfl, rfl⟩ again
 refine W.go 99 rfl ?_
 refine W.split rfl rfl rfl (fun d1 => ?_) (fun d1 => ?_)
 ·refine W.go 99 rfl ?_
  have hi : i < l.length := by simpa using d1
  have hd := List.drop_eq_getElem_cons hi
  obtain ⟨a, rfl⟩ := hl.addr hi
  refine W.vf rfl rfl rfl rfl (Vf.idx rfl rfl rfl rfl rfl rfl (hi)) ?_
  refine W.go 99 rfl ?_
  refine W.vf rfl rfl rfl rfl (Vf.loadN rfl rfl rfl (hl.whole (List.getElem?_eq_getElem hi) rfl)) ?_
  refine W.go 99 rfl ?_
  refine W.eff rfl rfl rfl (Ef.call rfl (checkSpan_t _ _ _)) ?_
  rintro _ _ _ ⟨_, rfl, rfl, rfl, rfl⟩
  refine W.go 99 rfl ?_
  refine W.split rfl rfl rfl (fun d2 => ?_) (fun d2 => ?_)
  ·refine W.go 99 rfl ?_
   exact W.ret r rfl rfl ⟨by unfold spansE; rw [if_neg (by simp [hs]), ← hg, hd, spanLE, if_pos (by simpa using d2)]; rfl, rfl⟩
  ·refine W.go 99 rfl ?_
   exact W.again (again _ _ _ _ (by omega) ⟨i + 1, rfl, by omega, by rw [← hg, hd, spanLE, if_neg (by simpa using d2)], rfl, rfl, rfl⟩) ⟨rfl, rfl, rfl, congrArg some (inc64 (by omega)), trivial⟩ trivial
 ·refine W.go 99 rfl ?_
  exact W.ret r rfl rfl ⟨by unfold spansE; rw [if_neg (by simp [hs]), ← hg, List.drop_of_length_le (by simp at d1; omega)]; rfl, rfl⟩
theorem checkMarks_t (ad : Option Addr) (cp : Nat) (l : List Int) (L : LH) (hl : IntsAt L ad l) (hn : l.length ≤ 1000000) : Sp X 163 [.slice ad l.length cp] L (fun v L' => v = .int .i64 (marksE l) ∧ L = L') := by
 refine Sp.enter (n := 34) Tryz.func163 rfl rfl rfl rfl fun C hX _ hL0 r => ?_
 refine W.go 99 rfl ?_
 refine W.split rfl rfl rfl (fun c1 => ?_) (fun c1 => ?_)
 ·refine W.go 99 rfl ?_
  exact W.ret r rfl rfl ⟨by unfold marksE; simp at c1; rw [if_pos (by omega)]; rfl, rfl⟩
 have h3 : l.length = 3 := by simp at c1; omega
 refine W.go 99 rfl ?_
 refine W.loop (fun m' E B L' => ∃ i : Nat, m' = l.length - i ∧ i ≤ l.length ∧ (l.drop i).all (fun n => inB n 1 60) = l.all (fun n => inB n 1 60) ∧ E = [(0, .v (.slice ad l.length cp)), (8, .v (.slice ad l.length cp)), (9, .v (.int .i64 l.length)), (10, .v (.int .i64 i))] ∧ B = [] ∧ L = L')
  ⟨0, rfl, by omega, by simp, rfl, rfl, rfl⟩ ⟨rfl, rfl, rfl, rfl, trivial⟩ trivial ?_
 rintro _ _ _ _ ⟨i, rfl, h1, hg, rfl, rfl, rfl⟩ again
 refine W.go 99 rfl ?_
 refine W.split rfl rfl rfl (fun d1 => ?_) (fun d1 => ?_)
 ·refine W.go 99 rfl ?_
  have hi : i < l.length := by simpa using d1
  have hd := List.drop_eq_getElem_cons hi
  obtain ⟨a, rfl⟩ := hl.addr hi
  refine W.vf rfl rfl rfl rfl (Vf.idx1 rfl rfl rfl rfl rfl rfl rfl (hi)) ?_
  refine W.go 99 rfl ?_
  refine W.vf rfl rfl rfl rfl (Vf.load rfl rfl rfl (hl.int (List.getElem?_eq_getElem hi))) ?_
  refine W.go 99 rfl ?_
  refine W.eff rfl rfl rfl (Ef.call rfl (within_t _ _ _ _)) ?_
  rintro _ _ _ ⟨_, rfl, rfl, rfl, rfl⟩
  refine W.go 99 rfl ?_
  refine W.split rfl rfl rfl (fun d2 => ?_) (fun d2 => ?_)
  ·refine W.go 99 rfl ?_
   exact W.ret r rfl rfl ⟨by unfold marksE; rw [if_neg (by omega), if_pos (by rw [← hg, hd, List.all_cons]; simp at d2; simp [d2])]; rfl, rfl⟩
  ·refine W.go 99 rfl ?_
   exact W.again (again _ _ _ _ (by omega) ⟨i + 1, rfl, by omega, by rw [← hg, hd, List.all_cons]; simp at d2; simp [d2], rfl, rfl, rfl⟩) ⟨rfl, rfl, rfl, congrArg some (inc64 (by omega)), trivial⟩ trivial
 have hall : l.all (fun n => inB n 1 60) = true := by rw [← hg, List.drop_of_length_le (by simp at d1; omega)]; rfl
 clear again hg
 obtain ⟨x, y, z, rfl⟩ : ∃ x y z, l = [x, y, z] := by
  match l, h3 with
  | [x, y, z], _ => exact ⟨x, y, z, rfl⟩
 obtain ⟨a, rfl⟩ := hl.addr (show 0 < [x, y, z].length by simp)
 refine W.go 99 rfl ?_
 refine W.drawn (by kernel_rfl) _ (Le.refl _) ?_
 refine DD.run' [0, 3] rfl ?_
 refine DD.vf 1 rfl rfl rfl rfl rfl (Vf.idx1 rfl rfl rfl rfl rfl rfl rfl ((show 0 < 3 by decide))) ?_
 refine DD.vf 2 rfl rfl rfl rfl rfl (Vf.load rfl rfl rfl (hl.int (show [x, y, z][0]? = some x from rfl))) ?_
 refine DD.vf 4 rfl rfl rfl rfl rfl (Vf.idx1 rfl rfl rfl rfl rfl rfl rfl ((show 1 < 3 by decide))) ?_
 refine DD.vf 5 rfl rfl rfl rfl rfl (Vf.load rfl rfl rfl (hl.int (show [x, y, z][1]? = some y from rfl))) ?_
 refine DD.run' [6, 7] rfl ?_
 refine DD.split 25 rfl (fun e1 => ?_) (fun e1 => ?_)
 ·refine DD.run' [8, 9, 10, 11, 12, 13, 14, 15] rfl ?_
  refine .fin rfl ?_
  refine W.go 99 rfl ?_
  exact W.ret r rfl rfl ⟨by unfold marksE; rw [if_neg (by simp), if_neg (by simpa using hall), if_pos (by simp at e1; simp; omega)]; rfl, rfl⟩
 ·refine DD.run' [8, 11] rfl ?_
  refine DD.vf 9 rfl rfl rfl rfl rfl (Vf.idx1 rfl rfl rfl rfl rfl rfl rfl ((show 1 < 3 by decide))) ?_
  refine DD.vf 10 rfl rfl rfl rfl rfl (Vf.load rfl rfl rfl (hl.int (show [x, y, z][1]? = some y from rfl))) ?_
  refine DD.vf 12 rfl rfl rfl rfl rfl (Vf.idx1 rfl rfl rfl rfl rfl rfl rfl ((show 2 < 3 by decide))) ?_
  refine DD.vf 13 rfl rfl rfl rfl rfl (Vf.load rfl rfl rfl (hl.int (show [x, y, z][2]? = some z from rfl))) ?_
  refine DD.run' [14, 15] rfl ?_
  refine .fin rfl ?_
  refine W.go 99 rfl ?_
  refine W.split rfl rfl rfl (fun e2 => ?_) (fun e2 => ?_)
  ·refine W.go 99 rfl ?_
   exact W.ret r rfl rfl ⟨by unfold marksE; rw [if_neg (by simp), if_neg (by simpa using hall), if_pos (by simp at e1 e2; simp; omega)]; rfl, rfl⟩
  ·refine W.go 99 rfl ?_
   exact W.ret r rfl rfl ⟨by unfold marksE; rw [if_neg (by simp), if_neg (by simpa using hall), if_neg (by simp at e1 e2; simp; omega)]; rfl, rfl⟩
theorem w1 {n : Nat} (h : n ≤ 1000000) : IntKind.i64.wrap ((n : Int) - 1) = (n : Int) - 1 := wrap64_in _ (by omega) (by omega)
theorem checkProof_t (b : Bl) (p : BP) (x : Prf) (n0 : b.starts.length ≤ 1000000) (L : LH) : Sp X 164 [blA b p, .agg (encPr x).toArray] L (fun v L' => v = .int .i64 (proofE b x) ∧ L = L') := by
 refine Sp.enter (n := 28) Tryz.func164 rfl rfl rfl rfl fun C hX _ hL0 r => ?_
 refine W.go 99 rfl ?_
 rw [w1 n0]
 refine W.eff rfl rfl rfl (Ef.call rfl (within_t _ _ _ _)) ?_
 rintro _ _ _ ⟨_, rfl, rfl, rfl, rfl⟩
 refine W.go 99 rfl ?_
 refine W.split rfl rfl rfl (fun c1 => ?_) (fun c1 => ?_)
 ·refine W.go 99 rfl ?_
  exact W.ret r rfl rfl ⟨by unfold proofE; rw [if_pos (by simp at c1; simp [c1])]; rfl, rfl⟩
 refine W.go 99 rfl ?_
 refine W.eff rfl rfl rfl (Ef.call rfl (within_t _ _ _ _)) ?_
 rintro _ _ _ ⟨_, rfl, rfl, rfl, rfl⟩
 refine W.go 99 rfl ?_
 refine W.split rfl rfl rfl (fun c2 => ?_) (fun c2 => ?_)
 ·refine W.go 99 rfl ?_
  exact W.ret r rfl rfl ⟨by unfold proofE; rw [if_pos (by simp at c1 c2; simp [c1, c2])]; rfl, rfl⟩
 refine W.go 99 rfl ?_
 refine W.eff rfl rfl rfl (Ef.call rfl (within_t _ _ _ _)) ?_
 rintro _ _ _ ⟨_, rfl, rfl, rfl, rfl⟩
 refine W.go 99 rfl ?_
 refine W.split rfl rfl rfl (fun c3 => ?_) (fun c3 => ?_)
 ·refine W.go 99 rfl ?_
  exact W.ret r rfl rfl ⟨by unfold proofE; rw [if_neg (by simp at c1 c2; simp [c1, c2]), if_pos (by simp at c3; simp [c3])]; rfl, rfl⟩
 ·refine W.go 99 rfl ?_
  exact W.ret r rfl rfl ⟨by unfold proofE; rw [if_neg (by simp at c1 c2; simp [c1, c2]), if_neg (by simp at c3; simp [c3])]; rfl, rfl⟩
end Go.Mz

