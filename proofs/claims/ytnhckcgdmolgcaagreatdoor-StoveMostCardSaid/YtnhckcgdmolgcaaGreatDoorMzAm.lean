/- Lemmas on which the claim leans. -/
import Derived.Test.YtnhckcgdmolgcaaGreatDoorMzAl
namespace Go.Mz
open Go.Conc
theorem Own.calm {L : LH} {k : Nat} {e : TypeId} {v : Value} {len : Nat} {cs : List Value} {ob : Option Nat} (h : Own L k e v len cs ob) : Own L.calm k e v len cs ob := by
 cases ob with
 | none => exact h
 | some b => obtain ⟨cap, c, h1, h2, h3⟩ := h; exact ⟨cap, c, h1, calm_cells h2, h3⟩
def LH.less (L : LH) (bs : List Nat) : LH := fun b => if b ∈ bs then none else L b
theorem less_le (L : LH) (bs : List Nat) : Le (L.less bs) L := fun b x hx => by
 unfold LH.less at hx
 split at hx
 ·cases hx
 ·exact hx
theorem less_get {L : LH} {bs : List Nat} {b : Nat} (h : b ∉ bs) : L.less bs b = L b := by unfold LH.less; rw [if_neg h]
theorem less_cell {L : LH} {bs : List Nat} {a : Addr} {v : Value} (h : L.cell? a = some v) (hb : a.block ∉ bs) : (L.less bs).cell? a = some v := by
 unfold LH.cell? at h ⊢
 rw [less_get hb]; exact h
theorem le_less {F L : LH} {bs : List Nat} (h : Le F L) (hb : ∀ b ∈ bs, F b = none) : Le F (L.less bs) := fun b x hx => by
 rw [less_get (fun hm => by rw [hb b hm] at hx; cases hx)]; exact h b x hx
theorem less_none {L : LH} {bs : List Nat} {b : Nat} (h : b ∈ bs) : L.less bs b = none := by unfold LH.less; rw [if_pos h]
theorem less_sub {L : LH} {bs cs : List Nat} (h : ∀ b ∈ bs, b ∈ cs) : Le (L.less cs) (L.less bs) := fun b x hx => by
 unfold LH.less at hx ⊢
 split at hx
 ·cases hx
 ·rename_i hn; rw [if_neg (fun hb => hn (h b hb))]; exact hx
theorem less_put {L L' : LH} {bs : List Nat} {b : Nat} {o : Obj} (h : Le (L.less bs) L') (hb : b ∈ bs) : Le (L.less bs) (L'.put b o) := le_put_none h (less_none hb) o
theorem cell_putD {L : LH} {d : Nat} {x : Option (List Deferred)} {wr : Bool} {a : Addr} {v : Value} (o : Obj) (h : L.cell? a = some v) (hd : L d = some (.deferred x, wr)) : (L.put d o).cell? a = some v := by
 have hn : a.block ≠ d := fun e => by unfold LH.cell? at h; rw [e, hd] at h; cases h
 unfold LH.cell? at h ⊢
 rw [put_ne _ _ hn]; exact h
theorem SlAt.putD {α : Type} {enc : α → List Value} {k : Nat} {L : LH} {d : Nat} {x : Option (List Deferred)} {wr : Bool} {ad : Option Addr} {l : List α} (o : Obj) (h : SlAt L ad k enc l) (hd : L d = some (.deferred x, wr)) : SlAt (L.put d o) ad k enc l :=
 fun i x hx => let ⟨a, h1, h2⟩ := h i x hx; ⟨a, h1, fun j v hv => cell_putD o (h2 j v hv) hd⟩
section
variable {P : Program} {C : Cx P} {n : Nat} {ds : List Deferred} {k : List Item} {E : Env} {B : List (Option Bx)} {L : LH}
theorem W.loopD {c : Code} (I : Nat → List Deferred → Env → List (Option Bx) → LH → Prop) {m : Nat} {E' : Env} {B' : List (Option Bx)} (h0 : I m ds E' B' L) (hE : SubE E E') (hB : PreB B B')
  (h : ∀ m ds E B L, I m ds E B L → (∀ m' ds' E' B' L', m' < m → I m' ds' E' B' L' → W C n ds' (.inLoop c :: k) E' B' L') → W C n ds (.code c :: .inLoop c :: k) E B L) (h1 : scE B'.length E' = true := by rfl) (h2 : scB B'.length B' = true := by rfl) : W C n ds (.code (.loop c) :: k) E B L := by
 have key : ∀ m ds E B L, I m ds E B L → W C n ds (.code c :: .inLoop c :: k) E B L := by
  intro m
  induction m using Nat.strongRecOn with
  | ind m ih => exact fun ds E B L hI => h m ds E B L hI fun m' ds' E' B' L' hm hI' T R β hT hE hH => C.X.inLoop (ih m' hm ds' E' B' L' hI' T R β hT hE hH)
 refine W.weak hE hB ?_ h1 h2
 exact fun T R β hT hE hH => C.X.loop (key m ds E' B' L h0 T R β hT hE hH)
def Left (I L : LH) (ds : List Deferred) : Prop := ds.Pairwise (· ≠ ·) ∧ ∀ x ∈ ds, ∃ d, x = ⟨.collected d, #[]⟩ ∧ L d = some (.deferred (some []), true) ∧ I d = none
theorem Left.nil {I L : LH} : Left I L [] := ⟨.nil, fun x h => by cases h⟩
theorem Left.le {I L L' : LH} (h : Left I L ds) (hl : ∀ d, L d = some (.deferred (some []), true) → L' d = some (.deferred (some []), true)) : Left I L' ds := ⟨h.1, fun x hx => let ⟨d, h1, h2, h3⟩ := h.2 x hx; ⟨d, h1, hl d h2, h3⟩⟩
theorem Left.cons {I L : LH} {d : Nat} (h : Left I L ds) (hd : L d = some (.deferred (some []), true)) (hI : I d = none) (hn : ∀ x ∈ ds, x ≠ ⟨.collected d, #[]⟩) : Left I L (⟨.collected d, #[]⟩ :: ds) :=
 ⟨.cons (fun x hx => (hn x hx).symm) h.1, fun x hx => by
  rcases List.mem_cons.1 hx with rfl | hx
  ·exact ⟨d, rfl, hd, hI⟩
  ·exact h.2 x hx⟩
theorem Left.new {I L : LH} {d : Nat} (h : Left I L ds) (hd : L d = none) : ∀ x ∈ ds, x ≠ ⟨.collected d, #[]⟩ := fun x hx e => by
 obtain ⟨d', rfl, h2, _⟩ := h.2 x hx
 cases e
 rw [hd] at h2; cases h2
theorem WM.drain {md : FrameMode} (hm : leaving md = true) {I : LH} : ∀ {ds : List Deferred} {L : LH}, Left I L ds → (∀ L', (∀ b, I b ≠ none ∨ L b ≠ some (.deferred (some []), true) → L' b = L b) → WM C n [] md E B L') → WM C n ds md E B L
 | [], L, _, w => w L fun _ _ => rfl
 | x :: ds, L, h, w => by
  obtain ⟨h1, h2⟩ := h
  obtain ⟨d, rfl, hd, hI⟩ := h2 x (List.mem_cons_self ..)
  rw [List.pairwise_cons] at h1
  refine WM.collected hm hd (WM.drain hm (I := I) ⟨h1.2, fun y hy => ?_⟩ fun L' hL => ?_)
  ·obtain ⟨d', rfl, hd', hI'⟩ := h2 y (List.mem_cons_of_mem _ hy)
   refine ⟨d', rfl, ?_, hI'⟩
   rw [put_ne _ _ (fun e => h1.1 _ hy (by rw [e]))]
   exact hd'
  ·refine w L' fun b hb => ?_
   have hbd : b ≠ d := fun e => by
    subst e
    rcases hb with hb | hb
    ·exact hb hI
    ·exact hb hd
   rw [hL b (by rw [put_ne _ _ hbd]; exact hb), put_ne _ _ hbd]
variable {dst : Option Tmp} {ty : TypeId} {pos : String} {af : Array Edge} {gd : Option (Nat × Bool)} {E : Look}
theorem Ef.makeMap {t : TypeId} : Ef C ⟨dst, .makeMap t none, ty, pos, af, gd⟩ E B L (fun sv B' L' => ∃ r, sv = .v (.map (some r)) ∧ B' = B ∧ L r = none ∧ L' = L.put r (.map #[] 0)) := by
 intro T R β hE hH
 refine ⟨rfl, Alc.makeMap _ _ _ _ _ _ ?_⟩
 intro b hb
 exact ⟨_, B, _, ⟨b, rfl, rfl, (hH.free hb).1, rfl⟩, rfl, hH.newF hb _, fun _ _ => rfl⟩
end
section
variable {P : Program} {C : Cx P} {o : Oper} {E : Look} {B : List (Option Bx)} {L : LH}
theorem EffW.mono {X : Logic P} {T : Array Value} {K K' : Value → LH → Prop} (hk : ∀ v L', K v L' → K' v L') (h : EffW X o T L K) : EffW X o T L K' := by
 obtain ⟨h1, h2⟩ := h
 refine ⟨h1, wpS_mono (fun nx L' hx => ?_) (fun _ _ h => h) _ _ h2⟩
 cases nx <;> first | exact hk _ _ hx | (obtain ⟨Q, g1, g2⟩ := hx; exact ⟨Q, g1, fun v L'' hq => hk _ _ (g2 v L'' hq)⟩) | exact hx
theorem Ef.pub (s : Nat) {kk : Nat} {x : Bx} {cs : List Value} {Q : Nat → SV → List (Option Bx) → LH → Prop} (hs : (∃ off, E s = some (.p kk off)) ∨ (∃ off len cap, E s = some (.sl kk off len cap))) (hx : nth B kk = some (some x)) (hc : denL nm0 x.cells = some cs)
  (h : ∀ b, L b = none → C.R0 b = none → Ef C o (fun s => (E s).map (pubS kk b)) (B.set kk none) (L.put b (.cells cs.toArray x.ty)) (Q b)) : Ef C o E B L (fun sv B' L' => ∃ b, L b = none ∧ C.R0 b = none ∧ Q b sv B' L') := by
 intro T R β hE hH
 have hb : ∃ b, β kk = some b := by
  rcases hs with ⟨off, hs⟩ | ⟨off, len, cap, hs⟩
  ·obtain ⟨b, hb, _⟩ := den_p (hE s _ hs); exact ⟨b, hb⟩
  ·have := hE s _ hs
   unfold den at this
   cases hk : β kk with
   | none => rw [hk] at this; cases this
   | some b => exact ⟨b, rfl⟩
 obtain ⟨b, hb⟩ := hb
 have hx' : B[kk]? = some (some x) := by rw [← nth_eq]; exact hx
 obtain ⟨h1, h2⟩ := hH.pub hb hx' hc
 have h3 := (hH.box kk b x hb hx').2.1
 have hE' : EnvOk β (fun s => (E s).map (pubS kk b)) T := fun s y hy => by
  rw [Option.map_eq_some_iff] at hy
  obtain ⟨u, g1, rfl⟩ := hy
  rw [pubS_den hb]; exact hE s u g1
 refine EffW.mono ?_ (h b h1 h3 T R β hE' h2)
 rintro v R' ⟨sv, B', L', q, g1, g2, g3⟩
 refine ⟨sv, B', L', ⟨b, h1, h3, q⟩, g1, g2, fun k' hk' => ?_⟩
 rw [g3 k' hk', List.getElem?_set_ne (fun e => by subst e; rw [hb] at hk'; cases hk')]
end
section
variable {P : Program} {C : Cx P} {n : Nat} {E : Env} {B : List (Option Bx)} {L : LH}
theorem wpS_asAddr {H : Value → LH → Prop} {R : LH} {ad : Addr} {Q : Addr → LH → Prop} : wpS P Q H (asAddr (.pointer (some ad))) R = Q ad R := rfl
theorem WM.ret2 {fn : Func} {Q : Value → LH → Prop} {H : List PanicEntry → LH → Prop} {va vb : Value} {a b : Tmp} {ta tb : TypeId} {aa ab : Addr} (r : Rt C fn Q H) (hres : fn.results = #[.cell a ta, .cell b tb]) (ea : get E a = some (.v (.pointer (some aa)))) (eb : get E b = some (.v (.pointer (some ab))))
  (ha : ∀ (R : LH) (Q : Value → LH → Prop) (H : Value → LH → Prop), Le L R → wpS P Q H (loadVar ta aa) R = Q va R) (hb : ∀ (R : LH) (Q : Value → LH → Prop) (H : Value → LH → Prop), Le L R → wpS P Q H (loadVar tb ab) R = Q vb R) (hq : Q (.tuple #[va, vb]) L) : WM C n [] .returning E B L := by
 refine WM.retF r (fun T R β hE _ hL => ?_) hq
 have e1 : T.getD a undef = .pointer (some aa) := (Option.some.inj (hE _ _ ea)).symm
 have e2 : T.getD b undef = .pointer (some ab) := (Option.some.inj (hE _ _ eb)).symm
 unfold results
 rw [hres, wpS_bind, Array.mapM_eq_mapM_toList]
 simp only [List.mapM_cons, List.mapM_nil]
 rw [wpS_map, wpS_bind]
 simp only [e1, e2]
 rw [wpS_bind, wpS_asAddr, ha _ _ _ hL, wpS_bind, wpS_bind, wpS_bind, wpS_asAddr, hb _ _ _ hL]
 exact ⟨rfl, rfl⟩
theorem load1F {t : TypeId} {a : Addr} {v : Value} (hg : aggB P t = some false) (h : L.cell? a = some v) (R : LH) (Q : Value → LH → Prop) (H : Value → LH → Prop) (hL : Le L R) : wpS P Q H (loadVar t a) R = Q v R := wpS_loadVar1 hg (hL.cell h)
theorem loadNF {t : TypeId} {a : Addr} {m : Nat} {vs : List Value} (hg : aggB P t = some true) (hn : (P.info? t).map (·.size) = some m) (h : cellsAt L a m vs) (R : LH) (Q : Value → LH → Prop) (H : Value → LH → Prop) (hL : Le L R) : wpS P Q H (loadVar t a) R = Q (.agg vs.toArray) R := wpS_loadVarN hg hn (hL.cellsAt h)
end
section
variable {P : Program} [S : Seat P] {C : Cx P} {E : Look} {B : List (Option Bx)} {L : LH} {dst : Option Tmp} {ty : TypeId} {pos : String} {af : Array Edge} {gd : Option (Nat × Bool)}
theorem Ef.copy {ts tx e e2 : TypeId} {ti te : TI} {x y : Operand} {b dl dc m : Nat} {c : Array Value} {vs : List Value} (hx : evS E x = some (.v (.slice (some ⟨b, 0, none⟩) dl dc))) (hts : S.τ.find ts = some ti) (hd : ti.d = .slice e) (he : S.τ.find e = some te) (hy : YC E B L te.size y m vs) (hm : m ≤ dl)
  (hb : L b = some (.cells c e2 (0, 0), true)) (hl : vs.length ≤ c.size) (hs : ∀ u ∈ vs, single u = true) :
  Ef C ⟨dst, .call { callee := .builtin .copy, args := #[x, y], argTypes := #[ts, tx] }, ty, pos, af, gd⟩ E B L (fun sv B' L' => sv = .v (.int .i64 m) ∧ B' = B ∧ L' = L.put b (.cells (putRow c 0 vs) e2)) := by
 intro T R β hE hH
 have ex := (Option.some.inj (hE.val hx)).symm
 obtain ⟨hvl, ⟨yad, ycap, ey⟩, hfirst⟩ := hy.first (P := P) hE hH.boxes hH.le
 have i1 := (TT.find_ok S.ok hts).d
 rw [hd] at i1
 refine ⟨rfl, ?_⟩
 simp only [execOp, resolve, List.map_toArray, List.map_cons, List.map_nil, ex, pure, Sem.bind, bind, invoke, builtin]
 show wpS P _ _ (Builtin.copy_ _ _ _ >>= fun u => pure (Next.value u)) R
 rw [wpS_bind]
 unfold Builtin.copy_
 simp only [List.getElem?_toArray, List.getElem?_cons_zero, List.getElem?_cons_succ]
 rw [wpS_bind, wpS_underlying i1]
 simp only
 rw [ey] at hfirst ⊢
 show wpS P _ _ (sizeOf e >>= _) R
 rw [wpS_bind, wpS_sizeOf (TT.find_ok S.ok he).size, wpS_bind]
 rw [show Nat.min m dl = m from Nat.min_eq_left hm]
 refine hfirst _ _ ?_
 simp only
 rw [wpS_bind]
 refine wpS_storeCells (e := e2) vs 0 c R (hH.le _ _ hb) (by omega) hs (fun R' h1 h2 => ?_)
 rw [Nat.add_zero] at h1
 exact ⟨.v (.int .i64 m), B, _, ⟨rfl, rfl, rfl⟩, rfl, hH.setF hb h1 h2, fun _ _ => rfl⟩
end
end Go.Mz

