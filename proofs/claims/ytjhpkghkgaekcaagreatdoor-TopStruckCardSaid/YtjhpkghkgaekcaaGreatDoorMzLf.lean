/- Lemmas on which the claim leans. -/
import Derived.Test.YtjhpkghkgaekcaaGreatDoorMzLe
set_option maxRecDepth 100000
namespace Go.Mz
open Go.Conc Go.Proofs
variable {X : Logic Tryz.prog}
abbrev encGl (x : HG) : List Value := [.agg (encG x).toArray]
def GS (b : Bl) (ps : List Prf) (l : List Int) : List HG := ((heatsL (b.heats.drop l.length)).map fun t => (l ++ t, groupB b (l ++ t) ps)).filter fun x => decide (sizeB x.2 ≠ 0)
def GSj (b : Bl) (ps : List Prf) (l : List Int) (s : Spn) (j : Nat) : List HG := (List.range j).flatMap fun (n : Nat) => GS b ps (l ++ [s.lo + n])
theorem GS_leaf {b : Bl} {ps : List Prf} {l : List Int} (h : l.length = b.heats.length) : GS b ps l = if sizeB (groupB b l ps) ≠ 0 then [(l, groupB b l ps)] else [] := by
 unfold GS
 rw [List.drop_of_length_le (by omega)]
 unfold heatsL
 simp only [List.map_cons, List.map_nil, List.append_nil, List.filter_cons, List.filter_nil]
 split <;> split <;> simp_all
theorem GS_step {b : Bl} {ps : List Prf} {l : List Int} {s : Spn} (h : b.heats[l.length]? = some s) : GS b ps l = GSj b ps l s (s.hi - s.lo + 1).toNat := by
 have hd : b.heats.drop l.length = s :: b.heats.drop (l.length + 1) := by
  obtain ⟨hl, hg⟩ := List.getElem?_eq_some_iff.1 h
  rw [List.drop_eq_getElem_cons hl, hg]
 unfold GSj GS
 rw [hd, heatsL]
 unfold spanL
 rw [List.flatMap_map, List.map_flatMap, List.filter_flatMap]
 congr 1
 funext n
 rw [List.length_append, List.length_singleton, List.map_map]
 congr 1
 apply List.map_congr_left
 intro t _
 simp
theorem GSj_succ (b : Bl) (ps : List Prf) (l : List Int) (s : Spn) (j : Nat) : GSj b ps l s (j + 1) = GSj b ps l s j ++ GS b ps (l ++ [s.lo + (j : Int)]) := by
 unfold GSj
 rw [List.range_succ, List.flatMap_append]
 simp
theorem GSj_split (b : Bl) (ps : List Prf) (l : List Int) (s : Spn) {j N : Nat} (h : j < N) : ∃ r, GSj b ps l s N = GSj b ps l s j ++ (GS b ps (l ++ [s.lo + (j : Int)]) ++ r) := by
 refine ⟨((List.range' (j + 1) (N - j - 1)).flatMap fun (n : Nat) => GS b ps (l ++ [s.lo + n])), ?_⟩
 unfold GSj
 rw [range_split h, List.flatMap_append, List.flatMap_cons]
structure GK (bs bp bf bb : Nat) (b : Bl) (p : BP) (m : Nat) (pa : Option Addr) (pc : Nat) (ps : List Prf) (f : Spn) (L : LH) : Prop where
 c1 : L.cell? ⟨bs, 0, none⟩ = some (pt bb)
 c2 : L.cell? ⟨bp, 0, none⟩ = some (.slice pa ps.length pc)
 c3 : cellsAt L ⟨bf, 0, none⟩ 2 (encSp f)
 bo : BoAt L bb b p m
 sl : SlAt L pa 3 encPr ps
theorem GK.le {bs bp bf bb : Nat} {b : Bl} {p : BP} {m : Nat} {pa : Option Addr} {pc : Nat} {ps : List Prf} {f : Spn} {L L' : LH} (h : GK bs bp bf bb b p m pa pc ps f L) (hl : Le L L') : GK bs bp bf bb b p m pa pc ps f L' :=
 ⟨hl.cell h.c1, hl.cell h.c2, hl.cellsAt h.c3, h.bo.le hl, h.sl.le hl⟩
abbrev intV (l : List Int) : List Value := l.map (Value.int .i64)
theorem intV_flat (l : List Int) : l.flatMap encI = intV l := by
 induction l with
 | nil => rfl
 | cons a l ih => rw [List.flatMap_cons, ih]; rfl
theorem own_ints {G : LH} {v : Value} {l : List Int} {ob : Option Nat} {ad : Option Addr} {n cap : Nat} (h : Own G 1 3 (.slice ad n cap) l.length (intV l) ob) : IntsAt G ad l := by
 obtain ⟨ad', cap', e, _⟩ := h.slice
 cases e
 exact Own.at (len := l.length) (by rw [intV_flat]; exact h) encI_len
abbrev growT (bs bp by_ bf bg : Nat) : Value := .func (.func 216) #[] #[pt bs, pt bp, pt by_, pt bf, pt bg]
theorem Own.fewer {G : LH} {ad ad' : Option Addr} {k k' cap cap' b : Nat} {cs : List Value} {v : Value} (h : Own G 1 3 (.slice ad' k' cap') (k + 1) (cs ++ [v]) (some b)) (h2 : ad = some ⟨b, 0, none⟩) (hc : cap' = cap) (hk : cs.length = k) : Own G 1 3 (.slice ad k cap) k cs (some b) := by
 obtain ⟨cap1, c, h3, h4, h5, h6, h7, h8⟩ := h
 cases h3
 subst h2 hc
 exact ⟨_, c, rfl, h4, h5, by omega, by omega, fun i x hi => h8 i x (by rw [List.getElem?_append_left (List.getElem?_eq_some_iff.1 hi).1]; exact hi)⟩
theorem putH {l : List Int} (h : l.length ≤ 5) : putRow #[Value.int .i64 0, .int .i64 0, .int .i64 0, .int .i64 0, .int .i64 0] 0 (l.flatMap encI) = (encH l).toArray := by
 match l, h with
 | [], _ => rfl
 | [a], _ => rfl
 | [a, b], _ => rfl
 | [a, b, c], _ => rfl
 | [a, b, c, d], _ => rfl
 | [a, b, c, d, e], _ => rfl
section
variable {bb : Nat} {b : Bl} {p : BP} {m bs bp by_ bf bg : Nat} {pa : Option Addr} {pc : Nat} {ps : List Prf} {f : Spn} {yv : Value} {xs : List HG} {J : List HG → LH → Prop} {Z : LH → Prop}
def GPost (J : List HG → LH → Prop) (Z : LH → Prop) (F : LH) (v : Value) (l : List Int) (ob : Option Nat) (pre : List HG) (u : Value) (L' : LH) : Prop :=
 (u = .bool true ∧ ∃ G', Own G' 1 3 v l.length (intV l) ob ∧ (∀ b', G' b' ≠ none → ob = some b') ∧ Fra J (F.join G') pre L') ∨ (u = .bool false ∧ FraZ Z F L')
theorem grow_leaf (ok : BlOk b) (hpb : ∀ q ∈ ps, proofE b q = 0) (hpn : ps.length ≤ 1000) (hY0 : Yl X yv encGl xs (GK bs bp bf bb b p m pa pc ps f) J Z)
  (l : List Int) (ad : Option Addr) (cap : Nat) (ob : Option Nat) (pre post : List HG) (F G L : LH) (hFy : F.cell? ⟨by_, 0, none⟩ = some yv) (hn : l.length = b.heats.length) (hl : Hs b l)
  (ho : Own G 1 3 (.slice ad l.length cap) l.length (intV l) ob) (hG : ∀ b', G b' ≠ none → ob = some b') (hF : ∀ b', ob = some b' → F b' = none) (hx : xs = pre ++ GS b ps l ++ post) (hJ : Fra J (F.join G) pre L) :
  Sp X 216 [.slice ad l.length cap, pt bs, pt bp, pt by_, pt bf, pt bg] L (GPost J Z F (.slice ad l.length cap) l ob (pre ++ GS b ps l)) := by
 have hY := hY0.frame (fun _ _ hl h => GK.le h hl) (F.join G)
 have hK := hY.inv _ _ hJ
 have h5 := hl.l5
 have hFJ : Le F (F.join G) := join_le_left
 have hGJ : Le G (F.join G) := join_le_right hFJ (fun b' x hx => by
  have hb := hG b' (by rw [hx]; simp)
  unfold LH.join
  rw [hF b' hb]; exact hx)
 have hi : IntsAt L ad l := (own_ints (v := .bool true) ho).le (hGJ.trans hK.2)
 have hsm := group_sm ok hl hpb (starts_sm ok)
 rw [GS_leaf hn] at hx ⊢
 refine Sp.enter (n := 64) Tryz.func216 rfl rfl rfl rfl fun C hX _ hL0 r => ?_
 refine W.go 99 rfl ?_
 refine W.vf rfl rfl rfl rfl (Vf.load rfl rfl rfl (hK.1.c1)) ?_
 refine W.go 99 rfl ?_
 refine W.vf rfl rfl rfl rfl (Vf.load rfl rfl rfl (hK.1.bo.cell 3 _ rfl)) ?_
 refine W.go 99 rfl ?_
 refine W.split rfl rfl rfl (fun _ => ?_) (fun e => absurd e (by simp; omega))
 refine W.go 99 rfl ?_
 refine W.pub 8 (.inl ⟨_, rfl⟩) rfl rfl ?_
 intro b8 hb8 _
 refine W.go 99 rfl ?_
 refine W.vf rfl rfl rfl rfl (Vf.sliceW rfl Tryz.underlying185 size3 (by decide)) ?_
 refine W.go 99 rfl ?_
 refine W.eff rfl rfl rfl (Ef.copyO (c := #[Value.int .i64 0, .int .i64 0, .int .i64 0, .int .i64 0, .int .i64 0]) rfl rfl rfl rfl (YC.sl (hi.le (Le.put hb8 _)) encI_len rfl) h5 (put_same _ _ _) (by rw [flat_len encI_len]; show 0 + _ * 1 ≤ 5; omega) (fun u hu => by obtain ⟨a, _, hu⟩ := List.mem_flatMap.1 hu; exact encI_sg a u hu)) ?_
 rintro _ _ _ ⟨rfl, rfl, hL2⟩
 rename_i L2
 have hle2 : Le L L2 := by rw [hL2]; exact le_put_none (Le.put hb8 _) hb8 _
 have hp2 : L2 b8 = some (.cells (encH l).toArray 185 (0, 0), true) := by rw [hL2, putH h5]; exact put_same _ _ _
 clear hL2
 refine W.go 99 rfl ?_
 refine W.vf rfl rfl rfl rfl (Vf.load rfl rfl rfl (hle2.cell hK.1.c1)) ?_
 refine W.go 99 rfl ?_
 refine W.vf rfl rfl rfl rfl (Vf.loadN rfl rfl rfl (cellsAt_n hp2 (encH_len h5))) ?_
 refine W.go 99 rfl ?_
 refine W.vf rfl rfl rfl rfl (Vf.load rfl rfl rfl (hle2.cell hK.1.c2)) ?_
 refine W.go 99 rfl ?_
 refine W.eff rfl rfl rfl (Ef.call rfl (group_t bb b p m l pa pc ps _ (hK.1.bo.le hle2) ok hl (hK.1.sl.le hle2) hpb hpn)) ?_
 rintro _ _ _ ⟨_, rfl, rfl, rfl, hle3⟩
 rename_i L3
 have hJ3 := hJ.mono (hle2.trans hle3)
 have hgl : (groupB b l ps).length ≤ 3 := by rw [group_len]; exact ok.s3
 have hlen : (encG (l, groupB b l ps)).length = 12 := encG_len h5 hgl
 have hsg : ∀ u ∈ encG (l, groupB b l ps), single u = true := fun u hu => by
  unfold encG encH encGs at hu
  rcases List.mem_append.1 hu with hu | hu
  ·obtain ⟨z, _, rfl⟩ := List.mem_map.1 hu; rfl
  ·rcases List.mem_append.1 hu with hu | hu
   ·obtain ⟨a, _, hu⟩ := List.mem_flatMap.1 hu; exact encSp_sg a u hu
   ·cases List.mem_singleton.1 hu; rfl
 have hnth : nth ((encG (l, groupB b l ps)).map SV.v) 11 = some (.v (.int .i64 (sizeB (groupB b l ps)))) := by
  rw [nth_eq, List.getElem?_map]
  have : (encG (l, groupB b l ps))[11]? = some (.int .i64 (sizeB (groupB b l ps))) := by
   unfold encG
   rw [List.getElem?_append_right (by rw [encH_len h5]; omega), encH_len h5, List.getElem?_append_right (by rw [encGs_len hgl]; omega), encGs_len hgl]; rfl
  rw [this]; rfl
 refine W.go 1 rfl ?_
 refine W.eff0 rfl rfl (Ef.stoW rfl rfl rfl rfl hlen rfl hsg) ?_
 rintro _ _ _ ⟨rfl, rfl, rfl⟩
 refine W.goP [29] 99 rfl ?_
 refine W.vf rfl rfl rfl rfl (Vf.loadA rfl rfl rfl rfl (by exact hnth)) ?_
 refine W.go 99 rfl ?_
 have hdec : ∀ c : Bool, (sizeB (groupB b l ps) == 0) = c → (if sizeB (groupB b l ps) ≠ 0 then [(l, groupB b l ps)] else []) = if c then [] else [(l, groupB b l ps)] := fun c hc => by
  cases c
  ·rw [if_pos (by simpa using hc)]; rfl
  ·rw [if_neg (by simpa using hc)]; rfl
 refine W.split rfl rfl rfl (fun c1 => ?_) (fun c1 => ?_)
 ·refine W.go 99 rfl ?_
  refine W.ret r rfl rfl ?_
  rw [hdec _ c1]
  exact .inl ⟨rfl, G, ho, hG, by simpa using hJ3⟩
 ·rw [hdec _ c1] at hx
  refine W.goP [33] 99 rfl ?_
  refine W.vf rfl rfl rfl rfl (Vf.load rfl rfl rfl ((hFJ.trans (hY.inv _ _ hJ3).2).cell hFy)) ?_
  refine W.vf rfl rfl rfl rfl (Vf.loadAll rfl rfl rfl rfl rfl (by exact hlen)) ?_
  refine W.go 99 rfl ?_
  obtain ⟨yf, yt, yc, rfl⟩ := hY0.fn
  have hy := hY.yl pre (l, groupB b l ps) post _ (by rw [hx]; simp) hJ3
  rw [← hX] at hy
  refine W.eff rfl rfl rfl (Ef.callS rfl rfl rfl hy) ?_
  rintro _ _ _ ⟨_, rfl, rfl, hq⟩
  rcases hq with ⟨rfl, hq⟩ | ⟨rfl, hq⟩
  ·refine W.go 99 rfl ?_
   refine W.ret r rfl rfl ?_
   rw [hdec _ c1]
   exact .inl ⟨rfl, G, ho, hG, hq⟩
  ·refine W.go 99 rfl ?_
   refine W.ret r rfl rfl ?_
   obtain ⟨M1, g1, g2, g3⟩ := hq
   exact .inr ⟨rfl, M1, g1, g2, hFJ.trans g3⟩
end
end Go.Mz


set_option maxRecDepth 100000
namespace Go.Mz
open Go.Conc Go.Proofs
variable {X : Logic Tryz.prog}
variable {bb : Nat} {b : Bl} {p : BP} {m bs bp by_ bf bg : Nat} {pa : Option Addr} {pc : Nat} {ps : List Prf} {f : Spn} {yv : Value} {xs : List HG} {J : List HG → LH → Prop} {Z : LH → Prop}
theorem hs_snoc {b : Bl} (ok : BlOk b) {l : List Int} {s : Spn} {x : Int} (hs : b.heats[l.length]? = some s) (hl : l.length ≤ 5 ∧ ∀ x ∈ l, 0 ≤ x ∧ x ≤ 4) (h1 : s.lo ≤ x) (h2 : x ≤ s.hi) : (l ++ [x]).length ≤ 5 ∧ ∀ y ∈ l ++ [x], 0 ≤ y ∧ y ≤ 4 := by
 have hlt := (List.getElem?_eq_some_iff.1 hs).1
 have := ok.h5
 have hb := ok.hb s (List.mem_of_getElem? hs)
 refine ⟨by rw [List.length_append, List.length_singleton]; omega, fun y hy => ?_⟩
 rcases List.mem_append.1 hy with hy | hy
 ·exact hl.2 y hy
 ·cases List.mem_singleton.1 hy; omega
theorem GPost.le {F F1 : LH} {v : Value} {l : List Int} {ob : Option Nat} {pre : List HG} {u : Value} {L' : LH} (h : GPost J Z F1 v l ob pre u L') (hF : Le F F1) : Le F L' := by
 rcases h with ⟨_, G', _, _, L1, _, _, h3, _⟩ | ⟨_, L1, _, _, h3⟩
 ·exact hF.trans (join_le_left.trans h3)
 ·exact hF.trans h3
theorem _root_.Go.Mz.AppQ2.le2 {B B' : List (Option Bx)} {L L' F : LH} {k : Nat} {e : TypeId} {len : Nat} {cs : List Value} {ob : Option Nat} {sv : SV} (h : AppQ2 B L k e len cs ob sv B' L') (hF : Le F L) (ho : ∀ b, ob = some b → F b = none) : Le F L' ∧ B' = B := by
 obtain ⟨v1, ob1, rfl, rfl, _, ⟨rfl, _⟩ | ⟨b1, c1, rfl, rfl, ⟨rfl, _⟩ | hbn⟩⟩ := h
 ·exact ⟨hF, rfl⟩
 ·exact ⟨le_put_none hF (ho _ rfl) _, rfl⟩
 ·exact ⟨hF.trans (Le.put hbn _), rfl⟩
theorem grow_t (ok : BlOk b) (hf : b.heats[0]? = some f) (hpb : ∀ q ∈ ps, proofE b q = 0) (hpn : ps.length ≤ 1000) (hY0 : Yl X yv encGl xs (GK bs bp bf bb b p m pa pc ps f) J Z) :
  ∀ (n : Nat) (l : List Int) (ad : Option Addr) (cap : Nat) (ob : Option Nat) (pre post : List HG) (F G L : LH), F.cell? ⟨by_, 0, none⟩ = some yv → F.cell? ⟨bg, 0, none⟩ = some (growT bs bp by_ bf bg) → l.length + n = b.heats.length → (l.length ≤ 5 ∧ ∀ x ∈ l, 0 ≤ x ∧ x ≤ 4) →
  Own G 1 3 (.slice ad l.length cap) l.length (intV l) ob → (∀ b', G b' ≠ none → ob = some b') → (∀ b', ob = some b' → F b' = none) → xs = pre ++ GS b ps l ++ post → Fra J (F.join G) pre L →
  Sp X 216 [.slice ad l.length cap, pt bs, pt bp, pt by_, pt bf, pt bg] L (GPost J Z F (.slice ad l.length cap) l ob (pre ++ GS b ps l)) := by
 intro n
 induction n with
 | zero =>
  intro l ad cap ob pre post F G L hFy hFg hn hl ho hG hF hx hJ
  exact grow_leaf ok hpb hpn hY0 l ad cap ob pre post F G L hFy (by omega) ⟨by omega, hl.1, hl.2⟩ ho hG hF hx hJ
 | succ n ih =>
  intro l ad cap ob pre post F G L hFy hFg hn hl ho hG hF hx hJ
  have hY := hY0.frame (fun _ _ hl h => GK.le h hl)
  have hK := (hY (F.join G)).inv _ _ hJ
  have hlt : l.length < b.heats.length := by omega
  obtain ⟨s, hs⟩ : ∃ s, b.heats[l.length]? = some s := ⟨_, List.getElem?_eq_getElem hlt⟩
  obtain ⟨sb1, sb2, sb3⟩ := ok.hb s (List.mem_of_getElem? hs)
  rw [GS_step hs] at hx ⊢
  obtain ⟨N, hN⟩ : ∃ N : Nat, s.hi - s.lo + 1 = (N : Int) := ⟨(s.hi - s.lo + 1).toNat, by omega⟩
  rw [hN, Int.toNat_natCast] at hx ⊢
  have hFJ : Le F (F.join G) := join_le_left
  refine Sp.enter (n := 64) Tryz.func216 rfl rfl rfl rfl fun C hX _ hL0 r => ?_
  refine W.go 99 rfl ?_
  refine W.vf rfl rfl rfl rfl (Vf.load rfl rfl rfl (hK.1.c1)) ?_
  refine W.go 99 rfl ?_
  refine W.vf rfl rfl rfl rfl (Vf.load rfl rfl rfl (hK.1.bo.cell 3 _ rfl)) ?_
  refine W.go 99 rfl ?_
  refine W.split rfl rfl rfl (fun e => absurd e (by simp; omega)) (fun _ => ?_)
  refine W.go 99 rfl ?_
  refine W.vf rfl rfl rfl rfl (Vf.load rfl rfl rfl (hK.1.c1)) ?_
  refine W.go 99 rfl ?_
  refine W.vf rfl rfl rfl rfl (Vf.load rfl rfl rfl (hK.1.bo.cell 3 _ rfl)) ?_
  refine W.go 99 rfl ?_
  have h3 := hK.1.bo.bl.h3
  obtain ⟨ah, hah⟩ := h3.addr hlt
  rw [hah] at h3
  obtain ⟨a0, a1, a2, a3, a4, k0, k1, k2, k3, k4⟩ := p
  obtain rfl : a3 = some ah := hah
  refine W.vf rfl rfl rfl rfl (Vf.idx rfl rfl rfl rfl rfl rfl (hlt)) ?_
  refine W.go 99 rfl ?_
  refine W.vf rfl rfl rfl rfl (Vf.loadN rfl rfl rfl (h3.whole hs rfl)) ?_
  refine W.go 99 rfl ?_
  refine W.cut1 (fun E B L' => SubE E [(0, .v (.slice ad l.length cap)), (1, .v (pt bs)), (2, .v (pt bp)), (3, .v (pt by_)), (4, .v (pt bf)), (5, .v (pt bg)), (10, .p 0 0)] ∧ PreB B [some ⟨(encSp s).map .v, 88⟩] ∧ L = L') ?_ ?_
  ·rintro E B _ ⟨hE, hB, rfl⟩
   refine W.weak hE hB ?_
   refine W.go 99 rfl ?_
   refine W.loop (fun m' E B L' => ∃ (j : Nat) (G : LH) (x : Int), x = s.lo + (j : Int) ∧ j ≤ N ∧ m' = N - j ∧ Own G 1 3 (.slice ad l.length cap) l.length (intV l) ob ∧ (∀ b', G b' ≠ none → ob = some b') ∧ Fra J (F.join G) (pre ++ GSj b ps l s j) L' ∧
     E = [(0, .v (.slice ad l.length cap)), (1, .v (pt bs)), (2, .v (pt bp)), (3, .v (pt by_)), (4, .v (pt bf)), (5, .v (pt bg)), (10, .p 0 0), (11, .v (.int .i64 x))] ∧ B = [some ⟨(encSp s).map .v, 88⟩])
    ⟨0, G, s.lo, by simp, by omega, rfl, ho, hG, by simpa [GSj] using hJ, rfl, rfl⟩ (by exact ⟨rfl, rfl, rfl, rfl, rfl, rfl, rfl, rfl, trivial⟩) (by exact ⟨rfl, trivial⟩) ?_
   rintro _ _ _ L2 ⟨j, G2, x, hxj, hj, rfl, ho2, hG2, hJ2, rfl, rfl⟩ again
   have hK2 := (hY (F.join G2)).inv _ _ hJ2
   refine W.go 99 rfl ?_
   refine W.split rfl rfl rfl (fun d1 => W.go 99 rfl ?_) (fun d1 => W.go 99 rfl ?_)
   ·have hj1 : j + 1 ≤ N := by simp at d1; omega
    have hls := hs_snoc ok hs hl (x := x) (by omega) (by simp at d1; omega)
    have hFL : Le F L2 := join_le_left.trans hK2.2
    have hF2 : Le F (F.join G2) := join_le_left
    have hGJ : Le G2 (F.join G2) := join_le_right hF2 (fun b' y hy => by
     have hb := hG2 b' (by rw [hy]; simp)
     unfold LH.join
     rw [hF b' hb]; exact hy)
    refine W.drawn (by kernel_rfl) F hFL ?_
    refine DD.run' [1, 2, 3] rfl ?_
    refine DD.vf 0 rfl rfl rfl rfl rfl (Vf.load rfl rfl rfl (hFg)) ?_
    have hlen5 := hl.1
    refine DD.act 4 rfl rfl rfl rfl rfl (Ef.growA (len := l.length) (m := 1) (cs := intV l) (vs := [.int .i64 x]) rfl rfl rfl rfl rfl rfl rfl rfl rfl (by intro u hu; cases List.mem_singleton.1 hu; rfl) (ho2.le (hGJ.trans hK2.2)) (.own rfl rfl rfl rfl) (by omega)) ((fun _ _ _ h => ⟨(h.le2 hFL hF).1, congrArg List.length (h.le2 hFL hF).2, .inl (congrArg (List.take _) (h.le2 hFL hF).2)⟩)) ?_
    rintro _ _ _ ⟨v1, ob1, rfl, rfl, ho1, hc1⟩
    have hlen : (l ++ [x]).length = l.length + 1 := by simp
    have hiv : intV (l ++ [x]) = intV l ++ [.int .i64 x] := by simp
    obtain ⟨rst, hrst⟩ := GSj_split b ps l s (show j < N by omega)
    rw [← hxj] at hrst
    have hx2 : xs = (pre ++ GSj b ps l s j) ++ GS b ps (l ++ [x]) ++ (rst ++ post) := by rw [hx, hrst]; simp only [List.append_assoc]
    obtain ⟨ad1, cap1, rfl, _⟩ := ho1.slice
    rcases hc1 with ⟨rfl, rfl, rfl⟩ | ⟨b1, c1, rfl, rfl, ⟨rfl, c0, hc0, hsz⟩ | hbn⟩
    ·obtain ⟨_, h0, _⟩ := ho1
     omega
    ·have hFb := hF _ rfl
     have ho3 : Own (noL.put b1 (.cells c1 3)) 1 3 (.slice ad1 (l.length + 1) cap1) (l.length + 1) (intV l ++ [.int .i64 x]) (some b1) := ho1.keep fun b' hb' => by cases hb'; rw [put_same, put_same]
     have hG2b : G2 b1 ≠ none := by
      obtain ⟨_, c, _, h2, _⟩ := id ho2
      rw [h2]; simp
     have hFJb : F.join G2 b1 ≠ none := by
      unfold LH.join
      rw [hFb]; exact hG2b
     have hJ3 : Fra J (F.join (noL.put b1 (.cells c1 3))) (pre ++ GSj b ps l s j) (L2.put b1 (.cells c1 3)) := (hJ2.set hFJb (.cells c1 3)).less (join_le (le_put_none hF2 hFb _) (le_put2 (noL_le _) _ _))
     have hch := ih (l ++ [x]) ad1 cap1 (some b1) (pre ++ GSj b ps l s j) (rst ++ post) F (noL.put b1 (.cells c1 3)) (L2.put b1 (.cells c1 3)) hFy hFg (by omega) hls (by rw [hlen, hiv]; exact ho3)
      (fun b' hb' => by
       by_cases e : b' = b1
       ·rw [e]
       ·exact absurd (by rw [put_ne _ _ e]; rfl) hb') (fun b' hb' => by cases hb'; exact hFb) hx2 hJ3
     rw [hlen, ← hX] at hch
     refine DD.act 5 rfl rfl rfl rfl rfl (Ef.callS rfl rfl rfl (Sp.toV (f1 := []) (f2 := [pt bs, pt bp, pt by_, pt bf, pt bg]) hch)) ((by rintro _ _ _ ⟨_, rfl, rfl, hq⟩; exact ⟨hq.le (Le.refl _), rfl, .inl rfl⟩)) ?_
     rintro _ _ _ ⟨_, rfl, rfl, hq⟩
     rcases hq with ⟨rfl, G3, ho4, hG4, hJ4⟩ | ⟨rfl, hq⟩
     ·refine DD.run' [6] rfl ?_
      refine .fin rfl ?_
      refine W.go 99 rfl ?_
      refine W.split rfl rfl rfl (fun c => absurd c (by decide)) (fun c => ?_)
      refine W.go 99 rfl ?_
      rw [hlen, hiv] at ho4
      have had : ad = some ⟨b1, 0, none⟩ := by
       obtain ⟨_, _, h1, _⟩ := id ho2
       cases h1; rfl
      have hcap : cap1 = cap := by
       obtain ⟨_, cc, h1, h2, h3, _⟩ := id ho2
       cases h1
       obtain ⟨_, cd, g1, g2, g3, _⟩ := id ho3
       cases g1
       rw [put_same] at g2
       cases g2
       have := (hGJ.trans hK2.2) _ _ h2
       rw [hc0] at this
       cases this
       omega
      exact W.again (again _ _ _ _ (by omega) ⟨j + 1, G3, x + 1, by push_cast; omega, hj1, rfl, ho4.fewer had hcap (by simp), hG4, by rw [GSj_succ, ← hxj, ← List.append_assoc]; exact hJ4, rfl, rfl⟩) (by exact ⟨rfl, rfl, rfl, rfl, rfl, rfl, rfl, congrArg some (w64 rfl (by omega) (by omega)), trivial⟩) (by exact ⟨rfl, trivial⟩)
     ·refine DD.run' [6] rfl ?_
      refine .fin rfl ?_
      refine W.go 99 rfl ?_
      refine W.split rfl rfl rfl (fun c => ?_) (fun c => absurd c (by decide))
      refine W.go 99 rfl ?_
      refine W.ret r rfl rfl ?_
      exact .inr ⟨rfl, hq⟩
    ·have hFGb : F.join G2 b1 = none := none_of_le hK2.2 hbn
     have hFb : F b1 = none := none_of_le hFL hbn
     have ho3 : Own (noL.put b1 (.cells c1 3)) 1 3 (.slice ad1 (l.length + 1) cap1) (l.length + 1) (intV l ++ [.int .i64 x]) (some b1) := ho1.keep fun b' hb' => by cases hb'; rw [put_same, put_same]
     have hJ3 : Fra J ((F.join G2).join (noL.put b1 (.cells c1 3))) (pre ++ GSj b ps l s j) (L2.put b1 (.cells c1 3)) := (hJ2.put hbn (.cells c1 3)).less (join_le (Le.put hFGb _) (le_put2 (noL_le _) _ _))
     have hch := ih (l ++ [x]) ad1 cap1 (some b1) (pre ++ GSj b ps l s j) (rst ++ post) (F.join G2) (noL.put b1 (.cells c1 3)) (L2.put b1 (.cells c1 3)) (hF2.cell hFy) (hF2.cell hFg) (by omega) hls (by rw [hlen, hiv]; exact ho3)
      (fun b' hb' => by
       by_cases e : b' = b1
       ·rw [e]
       ·exact absurd (by rw [put_ne _ _ e]; rfl) hb') (fun b' hb' => by cases hb'; exact hFGb) hx2 hJ3
     rw [hlen, ← hX] at hch
     refine DD.act 5 rfl rfl rfl rfl rfl (Ef.callS rfl rfl rfl (Sp.toV (f1 := []) (f2 := [pt bs, pt bp, pt by_, pt bf, pt bg]) hch)) ((by rintro _ _ _ ⟨_, rfl, rfl, hq⟩; exact ⟨hq.le hF2, rfl, .inl rfl⟩)) ?_
     rintro _ _ _ ⟨_, rfl, rfl, hq⟩
     rcases hq with ⟨rfl, G3, ho4, hG4, hJ4⟩ | ⟨rfl, hq⟩
     ·refine DD.run' [6] rfl ?_
      refine .fin rfl ?_
      refine W.go 99 rfl ?_
      refine W.split rfl rfl rfl (fun c => absurd c (by decide)) (fun c => ?_)
      refine W.go 99 rfl ?_
      exact W.again (again _ _ _ _ (by omega) ⟨j + 1, G2, x + 1, by push_cast; omega, hj1, rfl, ho2, hG2, by rw [GSj_succ, ← hxj, ← List.append_assoc]; exact hJ4.less join_le_left, rfl, rfl⟩) (by exact ⟨rfl, rfl, rfl, rfl, rfl, rfl, rfl, congrArg some (w64 rfl (by omega) (by omega)), trivial⟩) (by exact ⟨rfl, trivial⟩)
     ·refine DD.run' [6] rfl ?_
      refine .fin rfl ?_
      refine W.go 99 rfl ?_
      refine W.split rfl rfl rfl (fun c => ?_) (fun c => absurd c (by decide))
      refine W.go 99 rfl ?_
      refine W.ret r rfl rfl ?_
      obtain ⟨M1, g1, g2, g3⟩ := hq
      exact .inr ⟨rfl, M1, g1, g2, hF2.trans g3⟩
   ·have hjN : j = N := by simp at d1; omega
    subst hjN
    refine W.ret r rfl rfl ?_
    exact .inl ⟨rfl, G2, ho2, hG2, hJ2⟩
  ·intro rest
   refine W.split rfl rfl rfl (fun e1 => ?_) (fun e1 => ?_)
   ·have hl0 : l = [] := by
     have : l.length = 0 := by simpa using e1
     exact List.eq_nil_of_length_eq_zero this
    have hsf : f = s := by
     rw [hl0] at hs
     have := hf.symm.trans hs
     cases this; rfl
    refine W.go 99 rfl ?_
    refine W.vf rfl rfl rfl rfl (Vf.loadN rfl rfl rfl (hK.1.c3)) ?_
    refine W.go 2 rfl ?_
    refine rest _ _ _ ⟨(by exact ⟨rfl, rfl, rfl, rfl, rfl, rfl, rfl, trivial⟩), (by rw [← hsf]; exact ⟨rfl, trivial⟩), rfl⟩
   ·refine W.go 2 rfl ?_
    refine rest _ _ _ ⟨(by exact ⟨rfl, rfl, rfl, rfl, rfl, rfl, rfl, trivial⟩), (by exact ⟨rfl, trivial⟩), rfl⟩
end Go.Mz


set_option maxRecDepth 100000
namespace Go.Mz
open Go.Conc Go.Proofs
variable {X : Logic Tryz.prog}
theorem GS_nil (b : Bl) (ps : List Prf) : GS b ps [] = knownB b ps := by
 unfold GS knownB
 simp only [List.length_nil, List.drop_zero, List.nil_append]
theorem groups1_it {bb : Nat} {b : Bl} {p : BP} {m bs bp bf : Nat} {pa : Option Addr} {pc : Nat} {ps : List Prf} {f : Spn} (ok : BlOk b) (hf : b.heats[0]? = some f) (hpb : ∀ q ∈ ps, proofE b q = 0) (hpn : ps.length ≤ 1000) :
  Iter X 215 [pt bs, pt bp, pt bf] encGl (knownB b ps) (GK bs bp bf bb b p m pa pc ps f) := by
 intro yv J Z L hY hJ
 obtain ⟨yf, yt, yc, rfl⟩ := hY.fn
 have hF := Fra.zero hJ
 refine Sp.enter (n := 9) Tryz.func215 rfl rfl rfl rfl fun C hX _ hL0 r => ?_
 refine W.goP [5] 99 rfl ?_
 refine W.pub 4 (.inl ⟨_, rfl⟩) rfl rfl ?_
 intro b4 h4 _
 refine W.goP [6] 99 rfl ?_
 refine W.pub 5 (.inl ⟨_, rfl⟩) rfl rfl ?_
 intro b5 h5 _
 have hne : b4 ≠ b5 := fun e => by subst e; rw [put_same] at h5; cases h5
 have hF1 := hF.put h4 (.cells #[.func yf yt yc] 358)
 have hF2 := hF1.put h5 (.cells #[.nilFunc] 63)
 have hF3 := hF2.set (b := b5) (by rw [put_same]; simp) (.cells #[growT bs bp b4 bf b5] 63)
 refine W.go 99 rfl ?_
 refine W.eff0 rfl rfl (Ef.stoF rfl ⟨_, rfl, rfl⟩ rfl (put_same _ _ _) rfl (Nat.le_refl _) (singles rfl)) ?_
 rintro _ _ _ ⟨rfl, rfl, rfl⟩
 refine W.go 99 rfl ?_
 refine W.vf rfl rfl rfl rfl (Vf.load rfl rfl rfl (cell_of (put_same _ _ _) rfl)) ?_
 refine W.go 99 rfl ?_
 have hg := grow_t (X := X) ok hf hpb hpn hY b.heats.length [] none 0 none [] [] (((noL.put b4 (.cells #[.func yf yt yc] 358)).put b5 (.cells #[.nilFunc] 63)).put b5 (.cells #[growT bs bp b4 bf b5] 63)) noL _ (cell_of (by rw [put_ne _ _ hne, put_ne _ _ hne]; exact put_same _ _ _) rfl) (cell_of (put_same _ _ _) rfl) (by simp) ⟨by simp, fun x hx => by cases hx⟩ Own.nil (fun b' h => absurd rfl h) (fun b' h => by cases h) (by rw [GS_nil]; simp) (hF3.less (join_le (Le.refl _) (noL_le _)))
 rw [← hX] at hg
 refine W.eff rfl rfl rfl (Ef.callS rfl rfl rfl (Sp.toV (f1 := []) (f2 := [pt bs, pt bp, pt b4, pt bf, pt b5]) hg)) ?_
 rintro _ _ _ ⟨_, rfl, rfl, hq⟩
 refine W.go 99 rfl ?_
 refine W.ret0 r rfl rfl ⟨rfl, ?_⟩
 rcases hq with ⟨_, G', _, _, hq⟩ | ⟨_, hq⟩
 ·rw [GS_nil, List.nil_append] at hq
  exact .inl (hq.less (noL_le _))
 ·obtain ⟨L1, g1, g2, _⟩ := hq
  exact .inr ⟨L1, g1, g2, noL_le _⟩
theorem groups_t (bb : Nat) (pa : Option Addr) (pl pc : Nat) (f : Spn) (L : LH) : Sp X 165 [pt bb, .slice pa pl pc, .agg (encSp f).toArray] L
  (fun v L' => ∃ bs bp bf, v = .func (.func 215) #[] #[pt bs, pt bp, pt bf] ∧ Le L L' ∧ L'.cell? ⟨bs, 0, none⟩ = some (pt bb) ∧ L'.cell? ⟨bp, 0, none⟩ = some (.slice pa pl pc) ∧ cellsAt L' ⟨bf, 0, none⟩ 2 (encSp f)) := by
 refine Sp.enter (n := 8) Tryz.func165 rfl rfl rfl rfl fun C hX _ hL0 r => ?_
 refine W.goP [4] 99 rfl ?_
 refine W.pub 3 (.inl ⟨_, rfl⟩) rfl rfl ?_
 intro b3 h3 _
 refine W.goP [5] 99 rfl ?_
 refine W.pub 4 (.inl ⟨_, rfl⟩) rfl rfl ?_
 intro b4 h4 _
 refine W.goP [6] 99 rfl ?_
 refine W.pub 5 (.inl ⟨_, rfl⟩) rfl rfl ?_
 intro b5 h5 _
 have n34 : b3 ≠ b4 := fun e => by subst e; rw [put_same] at h4; cases h4
 have n35 : b3 ≠ b5 := fun e => by subst e; rw [put_ne _ _ n34, put_same] at h5; cases h5
 have n45 : b4 ≠ b5 := fun e => by subst e; rw [put_same] at h5; cases h5
 refine W.go 99 rfl ?_
 refine W.ret r rfl rfl ?_
 exact ⟨b3, b4, b5, rfl, ((Le.put h3 _).trans (Le.put h4 _)).trans (Le.put h5 _), cell_of (by rw [put_ne _ _ n35, put_ne _ _ n34]; exact put_same _ _ _) rfl, cell_of (by rw [put_ne _ _ n45]; exact put_same _ _ _) rfl, cellsAt_all (put_same _ _ _)⟩
end Go.Mz


set_option maxRecDepth 100000
namespace Go.Mz
open Go.Conc Go.Proofs
variable {X : Logic Tryz.prog}
def mapG (xs : List HG) : Array MapEntry := (xs.zipIdx.map fun z => { key := .agg (encH z.1.1).toArray, val := .agg (encG z.1).toArray, born := z.2 }).toArray
theorem mapG_snoc (xs : List HG) (x : HG) : mapG (xs ++ [x]) = (mapG xs).push { key := .agg (encH x.1).toArray, val := .agg (encG x).toArray, born := xs.length } := by
 unfold mapG
 rw [List.zipIdx_append, List.map_append]
 simp
theorem mapG_mem {xs : List HG} {e : MapEntry} (h : e ∈ mapG xs) : ∃ x, xs[e.born]? = some x ∧ e = { key := .agg (encH x.1).toArray, val := .agg (encG x).toArray, born := e.born } := by
 unfold mapG at h
 obtain ⟨z, hz, rfl⟩ := List.mem_map.1 (List.mem_toArray.1 h)
 have := List.mem_zipIdx_iff_getElem?.1 hz
 exact ⟨z.1, this, rfl⟩
theorem mapG_get {xs : List HG} {i : Nat} {x : HG} (h : xs[i]? = some x) : (mapG xs)[i]? = some { key := .agg (encH x.1).toArray, val := .agg (encG x).toArray, born := i } := by
 unfold mapG
 rw [List.getElem?_toArray, List.getElem?_map, List.getElem?_zipIdx, h]
 simp
theorem encH_intsV (h : List Int) : Value.agg (encH h).toArray = intsV (padI 5 h) := rfl
theorem padI_inj {k : Nat} {h h' : List Int} (hl : h.length = h'.length) (he : padI k h = padI k h') : h = h' := by
 unfold padI at he
 exact (List.append_inj he hl).1
theorem encG_12 {x : HG} (h1 : x.1.length ≤ 5) (h2 : x.2.length ≤ 3) : ∃ y0 y1 y2 y3 y4 y5 y6 y7 y8 y9 y10 y11 : Int, encH x.1 = [.int .i64 y0, .int .i64 y1, .int .i64 y2, .int .i64 y3, .int .i64 y4] ∧
  encG x = [.int .i64 y0, .int .i64 y1, .int .i64 y2, .int .i64 y3, .int .i64 y4, .int .i64 y5, .int .i64 y6, .int .i64 y7, .int .i64 y8, .int .i64 y9, .int .i64 y10, .int .i64 y11] := by
 obtain ⟨x0, x1, x2, x3, x4, he⟩ := encH_five h1
 obtain ⟨a, b, c, e, _⟩ := padSp3 h2
 refine ⟨x0, x1, x2, x3, x4, a.lo, a.hi, b.lo, b.hi, c.lo, c.hi, sizeB x.2, he, ?_⟩
 unfold encG encGs
 rw [he, e]
 rfl
theorem calm_map {L : LH} {b : Nat} {es : Array MapEntry} {c : Nat} {wr : Bool} (h : L b = some (.map es c, wr)) : L.calm b = some (.map es c, wr) := by
 unfold LH.calm; rw [h]
def CLe (L L' : LH) : Prop := ∀ a v, L.cell? a = some v → L'.cell? a = some v
theorem CLe.sl {α : Type} {L L' : LH} (h : CLe L L') {ad : Option Addr} {n : Nat} {enc : α → List Value} {l : List α} (hs : SlAt L ad n enc l) : SlAt L' ad n enc l := fun i x hx => let ⟨a, h1, h2⟩ := hs i x hx; ⟨a, h1, fun j v hv => h _ _ (h2 j v hv)⟩
theorem CLe.at {L L' : LH} (h : CLe L L') {a : Addr} {n : Nat} {vs : List Value} (hc : cellsAt L a n vs) : cellsAt L' a n vs := ⟨hc.1, fun i v hv => h _ _ (hc.2 i v hv)⟩
theorem CLe.bl {L L' : LH} (h : CLe L L') {b : Bl} {p : BP} (hb : BlAt L b p) : BlAt L' b p := ⟨h.sl hb.h0, h.sl hb.h1, h.sl hb.h2, h.sl hb.h3, h.sl hb.h4, hb.n0, hb.n1, hb.n2, hb.n3, hb.n4, hb.k4⟩
theorem CLe.bo {L L' : LH} (h : CLe L L') {bb : Nat} {b : Bl} {p : BP} {m : Nat} (hb : BoAt L bb b p m) : BoAt L' bb b p m := ⟨fun i v hv => h _ _ (hb.cell i v hv), h.bl hb.bl⟩
theorem CLe.gk {L L' : LH} (h : CLe L L') {bs bp bf bb : Nat} {b : Bl} {p : BP} {m : Nat} {pa : Option Addr} {pc : Nat} {ps : List Prf} {f : Spn} (g : GK bs bp bf bb b p m pa pc ps f L) : GK bs bp bf bb b p m pa pc ps f L' := ⟨h _ _ g.c1, h _ _ g.c2, h.at g.c3, h.bo g.bo, h.sl g.sl⟩
theorem cle_but {L : LH} {r : Nat} {es : Array MapEntry} {c : Nat} {wr : Bool} (h : L r = some (.map es c, wr)) : CLe L (L.but r) := fun a v hv => but_cell hv (fun e => by
 unfold LH.cell? at hv
 rw [e, h] at hv
 cases hv)
theorem key185 {a b c d e : Int} (em : Bool) (Q : Unit → LH → Prop) (H : Value → LH → Prop) (R : LH) : wpS Tryz.prog Q H (Instr.checkKey em 10000 185 (.agg #[.int .i64 a, .int .i64 b, .int .i64 c, .int .i64 d, .int .i64 e])) R = Q () R := by
 kernel_rfl
structure KbAt (L : LH) (bb : Nat) (b : Bl) (p : BP) (m : Nat) : Prop where
 bo : BoAt L bb b p m
 mp : L m = some (.map (mapG (knownB b b.proofs)) (knownB b b.proofs).length, true)
theorem KbAt.le {L L' : LH} {bb : Nat} {b : Bl} {p : BP} {m : Nat} (h : KbAt L bb b p m) (hl : Le L L') : KbAt L' bb b p m := ⟨h.bo.le hl, hl _ _ h.mp⟩
theorem newBoil_t (b : Bl) (p : BP) (L : LH) (h : BlAt L b p) (ok : BlOk b) : Sp X 127 [blA b p] L (fun v L' => ∃ bb m, v = pt bb ∧ KbAt L' bb b p m ∧ Le L L') := by
 obtain ⟨f, hf⟩ : ∃ f, b.heats[0]? = some f := ⟨_, List.getElem?_eq_getElem (by have := ok.h1; omega)⟩
 have h1 := ok.h1
 obtain ⟨a0, a1, a2, a3, a4, k0, k1, k2, k3, k4⟩ := p
 have hh3 := h.h3
 obtain ⟨ah, hah⟩ := hh3.addr (show 0 < b.heats.length by omega)
 obtain rfl : a3 = some ah := hah
 refine Sp.enter (n := 26) Tryz.func127 rfl rfl rfl rfl fun C hX _ hL0 r => ?_
 refine W.go 99 rfl ?_
 refine W.eff rfl rfl rfl (Ef.makeMap) ?_
 rintro _ _ _ ⟨mr, rfl, rfl, hmr, rfl⟩
 refine W.goP [3] 99 rfl ?_
 refine W.pub 8 (.inl ⟨_, rfl⟩) rfl rfl ?_
 intro b8 hb8 _
 refine W.go 99 rfl ?_
 refine W.pub 3 (.inl ⟨_, rfl⟩) rfl rfl ?_
 intro b3 hb3 _
 have hnm8 : mr ≠ b8 := fun e => by subst e; rw [put_same] at hb8; cases hb8
 have hn83 : b8 ≠ b3 := fun e => by subst e; rw [put_same] at hb3; cases hb3
 have hnm3 : mr ≠ b3 := fun e => by subst e; rw [put_ne _ _ hnm8, put_same] at hb3; cases hb3
 have hle : Le L (((L.put mr (.map #[] 0)).put b8 (.cells (blL b ⟨a0, a1, a2, some ah, a4, k0, k1, k2, k3, k4⟩ ++ [Value.map (some mr)]).toArray 183)).put b3 (.cells #[pt b8] 106)) := ((Le.put hmr _).trans (Le.put hb8 _)).trans (Le.put hb3 _)
 refine W.drawn (by kernel_rfl) _ (Le.refl _) ?_
 refine DD.run' [1, 2, 3, 4] rfl ?_
 refine DD.vf 0 rfl rfl rfl rfl rfl (Vf.load rfl rfl rfl (cell_of (put_same _ _ _) rfl)) ?_
 refine DD.vf 5 rfl rfl rfl rfl rfl (Vf.idx rfl rfl rfl rfl rfl rfl (h1)) ?_
 refine DD.vf 6 rfl rfl rfl rfl rfl (Vf.loadN rfl rfl rfl ((hh3.le hle).whole hf rfl)) ?_
 refine DD.act 7 rfl rfl rfl rfl rfl (Ef.call rfl (groups_t b8 a4 b.proofs.length k4 f _)) ((by rintro _ _ _ ⟨_, rfl, rfl, _, _, _, rfl, hl, _⟩; exact ⟨hl, rfl, .inl rfl⟩)) ?_
 rintro _ _ _ ⟨_, rfl, rfl, bs, bp, bf, rfl, hle2, c1, c2, c3⟩
 rename_i L2
 have hmr2 : L2 mr = some (.map #[] 0, true) := hle2 _ _ (by rw [put_ne _ _ hnm3, put_ne _ _ hnm8]; exact put_same _ _ _)
 have hb32 : L2 b3 = some (.cells #[pt b8] 106, true) := hle2 _ _ (put_same _ _ _)
 have hbo2 : BoAt L2 b8 b ⟨a0, a1, a2, some ah, a4, k0, k1, k2, k3, k4⟩ mr := ⟨fun i v hv => hle2.cell (cell_of (by rw [put_ne _ _ hn83]; exact put_same _ _ _) (by rw [List.getElem?_toArray]; exact hv)), (h.le hle).le hle2⟩
 have hgk2 : GK bs bp bf b8 b ⟨a0, a1, a2, some ah, a4, k0, k1, k2, k3, k4⟩ mr a4 k4 b.proofs f L2 := ⟨c1, c2, c3, hbo2, hbo2.bl.h4⟩
 have hgkb := (cle_but hmr2).gk hgk2
 have hL2 : Le L (L2.but mr) := fun b' x hx => by
  rw [but_get (fun e => by subst e; rw [hmr] at hx; cases hx)]
  exact hle2 _ _ (hle _ _ hx)
 have hb3b : (L2.but mr) b3 = some (.cells #[pt b8] 106, true) := by rw [but_get hnm3.symm]; exact hb32
 clear c1 c2 c3 hle hle2 hmr
 refine .fin rfl ?_
 refine W.go 99 rfl ?_
 refine W.iter (L2.but mr) (but_le _ _) (fun pre L' => L' mr = some (.map (mapG pre) pre.length, true)) (fun _ _ => False) (groups1_it ok hf ok.pb (by have := ok.p8; omega)) ⟨_, rfl, rfl, rfl⟩ (by rw [r.ro]) [(16, .v (.func (.func 215) #[] #[pt bs, pt bp, pt bf])), (3, .v (pt b3))] (by exact ⟨rfl, rfl, trivial⟩) rfl rfl rfl
  (fun _ _ _ hl h => hl _ _ h) (fun _ _ _ _ h => h) (fun _ L' hl _ => hgkb.le hl) (calm_map hmr2) rfl (fun _ => rfl) ?_ ?_ ?_
 ·rintro d l pre x post L' q lb hx hl' hI hnl hnd hne g1 g2 C' k1 k2 hbeg hcont hbrk
  have hxm : x ∈ knownB b b.proofs := by rw [hx]; simp
  obtain ⟨m1, m2⟩ := known_mem hxm
  have hx5 := (ok.hs m1).l5
  have hx3 : x.2.length ≤ 3 := by rw [m2, group_len]; exact ok.s3
  obtain ⟨y0, y1, y2, y3, y4, y5, y6, y7, y8, y9, y10, y11, e1, e2⟩ := encG_12 hx5 hx3
  have e3 : encGl x = [.agg #[.int .i64 y0, .int .i64 y1, .int .i64 y2, .int .i64 y3, .int .i64 y4, .int .i64 y5, .int .i64 y6, .int .i64 y7, .int .i64 y8, .int .i64 y9, .int .i64 y10, .int .i64 y11]] := by
   show [Value.agg (encG x).toArray] = _
   rw [e2]
  have hkv : (Value.agg #[.int .i64 y0, .int .i64 y1, .int .i64 y2, .int .i64 y3, .int .i64 y4]) = intsV (padI 5 x.1) := by rw [← encH_intsV, e1]
  have hpl : (padI 5 x.1).length = 5 := by have := encH_len hx5; unfold encH at this; rw [List.length_map] at this; exact this
  have hnew : ∀ y ∈ (mapG pre).toList, ∃ ys : List Int, ys.length = 5 ∧ y.key = intsV ys ∧ ys ≠ padI 5 x.1 := by
   intro y hy
   obtain ⟨z, hz, hy2⟩ := mapG_mem (Array.mem_def.2 hy)
   have hzm : z ∈ pre := List.mem_of_getElem? hz
   have hzk : z ∈ knownB b b.proofs := by rw [hx]; exact List.mem_append_left _ hzm
   obtain ⟨z1, z2⟩ := known_mem hzk
   refine ⟨padI 5 z.1, ?_, by rw [hy2]; rfl, fun e => ?_⟩
   ·have := encH_len (ok.hs z1).l5; unfold encH at this; rw [List.length_map] at this; exact this
   ·have hp := known_nodup b b.proofs
    rw [hx] at hp
    have := (List.pairwise_append.1 hp).2.2 z hzm x List.mem_cons_self
    exact this (padI_inj (by rw [(ok.hs z1).len, (ok.hs m1).len]) e)
  rw [e3]
  refine W.go 99 rfl ?_
  have hn3l : b3 ≠ l := fun e => by subst e; rw [hb3b] at hnl; cases hnl
  have hnml : mr ≠ l := fun e => by rw [← e, hI] at g1; cases g1
  have hnmd : mr ≠ d := fun e => by rw [← e, hI] at g2; cases g2
  refine hbeg _ _ _ fun L3 r1 r2 => ?_
  refine W.go 99 rfl ?_
  have hr3 : L3 mr = some (.map (mapG pre) pre.length, true) := by rw [r2 _ hnml]; exact hI
  have hl3 : Le (L2.but mr) L3 := fun b' y hy => by rw [r2 _ (fun e => by subst e; rw [hnl] at hy; cases hy)]; exact hl' _ _ hy
  have hgk3 := hgkb.le hl3
  refine W.drawn (by kernel_rfl) (L3.but mr) (but_le _ _) ?_
  refine DD.run' [4, 5, 6] rfl ?_
  refine DD.vf 0 rfl rfl rfl rfl rfl (Vf.load rfl rfl rfl (cell_of (by rw [but_get hnm3.symm]; exact hl3 _ _ hb3b) rfl)) ?_
  refine DD.run' [1, 2] rfl ?_
  refine DD.vf 3 rfl rfl rfl rfl rfl (Vf.load rfl rfl rfl (cle_but hr3 _ _ (hgk3.bo.cell 5 _ rfl))) ?_
  refine DD.act 7 rfl rfl rfl rfl rfl (Ef.mapNew rfl rfl rfl rfl rfl Tryz.underlying181 hr3 (fun em Q H R => key185 em Q H R) (fun Q H R => by rw [hkv]; exact findKey_arr Tryz.underlying185 Tryz.underlying3 size3 agg3 hpl hnew Q)) ((by rintro _ _ _ ⟨rfl, rfl, rfl⟩; exact ⟨but_put, rfl, .inl rfl⟩)) ?_
  rintro _ _ _ ⟨rfl, rfl, rfl⟩
  refine .fin rfl ?_
  refine W.go 99 rfl ?_
  refine hcont _ _ _ _ .nil (by rw [put_ne _ _ (Ne.symm hnml)]; exact r1) (by rw [put_ne _ _ (Ne.symm hnmd), r2 _ hne.symm]; exact g2) (fun b' y hy => by
   by_cases e : b' = mr
   ·subst e; unfold LH.but at hy; rw [if_pos rfl] at hy; cases hy
   ·rw [put_ne _ _ e]; exact hl3 _ _ hy) (calm_map ?_)
  rw [put_same, mapG_snoc, e1, e2, List.length_append, List.length_singleton]
 ·rintro d l L' hl' - hnd hI hd
  refine W.go 99 rfl ?_
  refine W.vf rfl rfl rfl rfl (Vf.load rfl rfl rfl (cell_of (hl' _ _ hb3b) rfl)) ?_
  refine W.go 99 rfl ?_
  have hnmd : mr ≠ d := fun e => by rw [← e, hI] at hd; cases hd
  refine W.out (by rw [r.ro]) (.inr .ret) (WM.collected rfl hd (WM.ret r rfl rfl ⟨b8, mr, rfl, ⟨hgkb.bo.le (le_put_none hl' hnd _), by rw [put_ne _ _ hnmd]; exact hI⟩, hL2.trans (le_put_none hl' hnd _)⟩))
 ·rintro d l j L' hl' - hnd hI hd
  exact hI.elim
theorem possible_t (bb : Nat) (b : Bl) (p : BP) (m : Nat) (pa : Option Addr) (pc : Nat) (ps : List Prf) (L : LH) (hB : BoAt L bb b p m) (ok : BlOk b) (hps : SlAt L pa 3 encPr ps) (hpb : ∀ q ∈ ps, proofE b q = 0) (hpn : ps.length ≤ 1000) :
  Sp X 249 [pt bb, .slice pa ps.length pc] L (fun v L' => v = .bool (!(knownB b ps).isEmpty) ∧ Le L L') := by
 obtain ⟨f, hf⟩ : ∃ f, b.heats[0]? = some f := ⟨_, List.getElem?_eq_getElem (by have := ok.h1; omega)⟩
 have h1 := ok.h1
 obtain ⟨a0, a1, a2, a3, a4, k0, k1, k2, k3, k4⟩ := p
 have hh3 := hB.bl.h3
 obtain ⟨ah, hah⟩ := hh3.addr (show 0 < b.heats.length by omega)
 obtain rfl : a3 = some ah := hah
 refine Sp.enter (n := 18) Tryz.func249 rfl rfl rfl rfl fun C hX _ hL0 r => ?_
 refine W.go 99 rfl ?_
 refine W.pub 5 (.inl ⟨_, rfl⟩) rfl rfl ?_
 intro bi hbi _
 have hle := Le.put hbi (.cells #[.bool false] 4)
 refine W.go 99 rfl ?_
 refine W.vf rfl rfl rfl rfl (Vf.load rfl rfl rfl ((hle.cell (hB.cell 3 _ rfl)))) ?_
 refine W.go 99 rfl ?_
 refine W.vf rfl rfl rfl rfl (Vf.idx rfl rfl rfl rfl rfl rfl (h1)) ?_
 refine W.go 99 rfl ?_
 refine W.vf rfl rfl rfl rfl (Vf.loadN rfl rfl rfl ((hh3.le hle).whole hf rfl)) ?_
 refine W.go 99 rfl ?_
 refine W.eff rfl rfl rfl (Ef.call rfl (groups_t bb pa ps.length pc f _)) ?_
 rintro _ _ _ ⟨_, rfl, rfl, bs, bp, bf, rfl, hle2, c1, c2, c3⟩
 refine W.go 99 rfl ?_
 rename_i L2
 have hL2 : Le L L2 := hle.trans hle2
 have hbl : L2 bi = some (.cells #[.bool false] 4, true) := hle2 _ _ (put_same _ _ _)
 have hne : ∀ {a : Addr} {v : Value}, L2.cell? a = some v → v ≠ .bool false → a.block ≠ bi := fun {a v} hv hn e => by
  unfold LH.cell? at hv
  rw [e, hbl] at hv
  simp only at hv
  split at hv
  ·cases hv
  ·obtain ⟨hl, hg⟩ := Array.getElem?_eq_some_iff.1 hv
   have : a.off = 0 := by simp at hl; omega
   rw [← hg] at hn
   apply hn
   simp [this]
 have hLb : Le L (L2.but bi) := le_but hbi hL2
 have hgkb : GK bs bp bf bb b ⟨a0, a1, a2, some ah, a4, k0, k1, k2, k3, k4⟩ m pa pc ps f (L2.but bi) :=
  ⟨but_cell c1 (hne c1 (by simp)), but_cell c2 (hne c2 (by simp)), ⟨rfl, fun i v hv => but_cell (c3.2 i v hv) (hne (c3.2 i v hv) (fun e => by
   subst e
   simp only [encSp] at hv
   match i, hv with
   | 0, hv => cases hv
   | 1, hv => cases hv))⟩, hB.le hLb, hps.le hLb⟩
 refine W.iter (L2.but bi) (but_le _ _) (fun pre L' => pre = [] ∧ L' bi = some (.cells #[.bool false] 4, true)) (fun j L' => j = .exit 0 ∧ knownB b ps ≠ [] ∧ L' bi = some (.cells #[.bool true] 4, true)) (groups1_it ok hf hpb hpn) ⟨_, rfl, rfl, rfl⟩ (by rw [r.ro]) [(15, .v (.func (.func 215) #[] #[pt bs, pt bp, pt bf])), (5, .v (pt bi))] (by exact ⟨rfl, rfl, trivial⟩) rfl rfl rfl
  (fun _ _ _ hl h => ⟨h.1, hl _ _ h.2⟩) (fun _ _ _ hl h => ⟨h.1, h.2.1, hl _ _ h.2.2⟩) (fun _ L' hl _ => hgkb.le hl) ⟨rfl, calm_cells hbl⟩ rfl (fun _ => rfl) ?_ ?_ ?_
 ·rintro d l pre x post L' q lb hx hl' ⟨rfl, hb⟩ hnl hnd hne' g1 g2 C' c1 c2 hbeg hcont hbrk
  have hbl : bi ≠ l := fun e => by subst e; rw [g1] at hb; cases hb
  have hdb : bi ≠ d := fun e => by subst e; rw [g2] at hb; cases hb
  refine W.go 99 rfl ?_
  refine hbeg _ _ _ fun L3 r1 r2 => ?_
  refine W.go 99 rfl ?_
  refine W.eff0 rfl rfl (Ef.stoF rfl ⟨_, rfl, rfl⟩ rfl (by rw [r2 _ hbl]; exact hb) rfl (Nat.le_refl _) (singles rfl)) ?_
  rintro _ _ _ ⟨rfl, rfl, rfl⟩
  refine W.go 99 rfl ?_
  refine hbrk _ _ _ _ _ (.exit rfl) (by rw [put_ne _ _ (Ne.symm hbl)]; exact r1) (by rw [put_ne _ _ (Ne.symm hdb), r2 _ hne'.symm]; exact g2) (fun b' y hy => by
   by_cases e : b' = bi
   ·subst e; unfold LH.but at hy; rw [if_pos rfl] at hy; cases hy
   ·rw [put_ne _ _ e, r2 _ (fun e => by subst e; rw [hnl] at hy; cases hy)]; exact hl' _ _ hy) ⟨rfl, by rw [hx]; simp, calm_cells (put_same _ _ _)⟩
 ·rintro d l L' hl' - hnd ⟨hp, hb⟩ hd
  refine W.go 99 rfl ?_
  refine W.vf rfl rfl rfl rfl (Vf.load rfl rfl rfl (cell_of hb rfl)) ?_
  refine W.go 99 rfl ?_
  refine W.out (by rw [r.ro]) (.inr .ret) (WM.collected rfl hd (WM.ret r rfl rfl ⟨?_, hLb.trans (le_put_none hl' hnd _)⟩))
  show _ = Value.bool (!(knownB b ps).isEmpty)
  rw [hp]; rfl
 ·rintro d l j L' hl' - hnd ⟨rfl, hp, hb⟩ hd
  refine W.go 99 rfl ?_
  refine W.vf rfl rfl rfl rfl (Vf.load rfl rfl rfl (cell_of hb rfl)) ?_
  refine W.go 99 rfl ?_
  refine W.out (by rw [r.ro]) (.inr .ret) (WM.collected rfl hd (WM.ret r rfl rfl ⟨?_, hLb.trans (le_put_none hl' hnd _)⟩))
  show _ = Value.bool (!(knownB b ps).isEmpty)
  cases hh : knownB b ps with
  | nil => exact absurd hh hp
  | cons _ _ => rfl
end Go.Mz


set_option maxRecDepth 100000
namespace Go.Mz
open Go.Conc Go.Proofs
variable {X : Logic Tryz.prog}
def openT (b : Bl) (pans : List Int) : Int := if boilE b ≠ 0 then boilE b else if pans.all (fun n => inB n 0 ((b.starts.length : Int) - 1)) then 0 else 3
def OpenQ (b : Bl) (p : BP) (e : Int) (L : LH) (v : Value) (L' : LH) : Prop := Le L L' ∧ ((e = 0 ∧ ∃ bb m, v = .tuple #[pt bb, .int .i64 0] ∧ KbAt L' bb b p m) ∨ (e ≠ 0 ∧ v = .tuple #[.pointer none, .int .i64 e]))
theorem open_t (b : Bl) (p : BP) (ad : Option Addr) (cp : Nat) (pans : List Int) (L : LH) (h : BlAt L b p) (hp : IntsAt L ad pans) (hn : pans.length ≤ 1000000) :
  Sp X 88 [blA b p, .slice ad pans.length cp, .slice none 0 0, .slice none 0 0] L (OpenQ b p (openT b pans) L) := by
 have n0 := h.n0
 have n3 := h.n3
 refine Sp.enter (n := 57) Tryz.func88 rfl rfl rfl rfl fun C hX _ hL0 r => ?_
 refine W.go 99 rfl ?_
 refine W.eff rfl rfl rfl (Ef.call rfl (Check_t b p _ h)) ?_
 rintro _ _ _ ⟨_, rfl, rfl, rfl, rfl⟩
 refine W.go 99 rfl ?_
 refine W.split rfl rfl rfl (fun c1 => ?_) (fun c1 => ?_)
 ·refine W.go 99 rfl ?_
  have c1' : boilE b ≠ 0 := by simpa using c1
  refine W.ret r rfl rfl ?_
  unfold openT
  rw [if_pos c1']
  exact ⟨Le.refl _, .inr ⟨c1', rfl⟩⟩
 have hb0 : boilE b = 0 := by simpa using c1
 have ok := bl_ok hb0
 refine W.go 99 rfl ?_
 refine W.loopI ?_
 refine W.go 99 rfl ?_
 refine W.split rfl rfl rfl (fun c => ?_) (fun c => absurd c (by decide))
 refine W.go 99 rfl ?_
 refine W.vf rfl rfl rfl rfl (Vf.idxSl rfl rfl rfl rfl rfl rfl (show 0 < 3 by decide)) ?_
 refine W.go 99 rfl ?_
 refine W.loop (fun m' E B L' => ∃ i : Nat, m' = pans.length - i ∧ i ≤ pans.length ∧ (pans.take i).all (fun n => inB n 0 ((b.starts.length : Int) - 1)) = true ∧ L = L' ∧
   E = [(4, .p 0 0), (11, .v (.int .i64 0)), (23, .sl 1 0 3 3), (24, .v (.int .i64 3)), (25, .v (.int .i64 0)), (30, .v (.slice ad pans.length cp)), (31, .v (.int .i64 pans.length)), (32, .v (.int .i64 i))] ∧ B = [some ⟨cellsS (.v (blA b p)), 28⟩, some ⟨[.v (.slice ad pans.length cp), .v (.slice none 0 0), .v (.slice none 0 0)], 22⟩])
  ⟨0, rfl, by omega, rfl, rfl, rfl, rfl⟩ (by exact ⟨rfl, rfl, rfl, rfl, rfl, rfl, rfl, rfl, trivial⟩) (by exact ⟨rfl, rfl, trivial⟩) ?_
 rintro _ _ _ _ ⟨i, rfl, hi, hall, rfl, rfl, rfl⟩ again
 refine W.go 99 rfl ?_
 refine W.split rfl rfl rfl (fun d1 => W.go 99 rfl ?_) (fun d1 => W.go 99 rfl ?_)
 ·have hi : i < pans.length := by simpa using d1
  have htk : pans.take (i + 1) = pans.take i ++ [pans[i]] := List.take_succ_eq_append_getElem hi
  obtain ⟨a, rfl⟩ := hp.addr hi
  refine W.vf rfl rfl rfl rfl (Vf.idx1 rfl rfl rfl rfl rfl rfl rfl (hi)) ?_
  refine W.go 99 rfl ?_
  refine W.vf rfl rfl rfl rfl (Vf.load rfl rfl rfl (hp.int (List.getElem?_eq_getElem hi))) ?_
  refine W.go 99 rfl ?_
  rw [w1 n0]
  refine W.vf rfl rfl rfl rfl (Vf.index rfl rfl rfl Tryz.underlying142 size3 agg3 (show 0 < 3 by decide) rfl) ?_
  refine W.go 99 rfl ?_
  refine W.eff rfl rfl rfl (Ef.call rfl (within_t _ _ _ _)) ?_
  rintro _ _ _ ⟨_, rfl, rfl, rfl, rfl⟩
  refine W.go 99 rfl ?_
  refine W.split rfl rfl rfl (fun d2 => W.go 99 rfl ?_) (fun d2 => W.go 99 rfl ?_)
  ·refine W.ret r rfl rfl ?_
   have hne : ¬ (pans.all (fun n => inB n 0 ((b.starts.length : Int) - 1)) = true) := fun e => by
    have := List.all_eq_true.1 e _ (List.getElem_mem hi)
    simp at d2
    rw [d2] at this
    cases this
   have e3 : openT b pans = 3 := by unfold openT; rw [if_neg (by simpa using hb0), if_neg hne]
   rw [e3]
   exact ⟨Le.refl _, .inr ⟨by decide, rfl⟩⟩
  ·exact W.again (again _ _ _ _ (by omega) ⟨i + 1, rfl, by omega, by rw [htk, List.all_append, hall]; simp at d2; simp [d2], rfl, rfl, rfl⟩) ⟨rfl, rfl, rfl, rfl, rfl, rfl, rfl, congrArg some (inc64 (by omega)), trivial⟩ (by exact ⟨rfl, rfl, trivial⟩)
 ·have hie : i = pans.length := by simp at d1; omega
  rw [hie, List.take_length] at hall
  have e0 : openT b pans = 0 := by unfold openT; rw [if_neg (by simpa using hb0), if_pos hall]
  rw [e0] at r
  clear again
  refine W.inLoopI ?_
  refine W.go 99 rfl ?_
  refine W.split rfl rfl rfl (fun c => ?_) (fun c => absurd c (by decide))
  refine W.go 99 rfl ?_
  refine W.vf rfl rfl rfl rfl (Vf.idxSl rfl rfl rfl rfl rfl rfl (show 1 < 3 by decide)) ?_
  refine W.go 99 rfl ?_
  refine W.loopI ?_
  refine W.go 99 rfl ?_
  refine W.split rfl rfl rfl (fun c => absurd c (by decide)) (fun c => ?_)
  refine W.go 99 rfl ?_
  refine W.inLoopI ?_
  refine W.go 99 rfl ?_
  refine W.split rfl rfl rfl (fun c => ?_) (fun c => absurd c (by decide))
  refine W.go 99 rfl ?_
  refine W.vf rfl rfl rfl rfl (Vf.idxSl rfl rfl rfl rfl rfl rfl (show 2 < 3 by decide)) ?_
  refine W.go 99 rfl ?_
  refine W.loopI ?_
  refine W.go 99 rfl ?_
  refine W.split rfl rfl rfl (fun c => absurd c (by decide)) (fun c => ?_)
  refine W.go 99 rfl ?_
  refine W.inLoopI ?_
  refine W.go 99 rfl ?_
  refine W.split rfl rfl rfl (fun c => absurd c (by decide)) (fun c => ?_)
  refine W.go 99 rfl ?_
  refine W.eff rfl rfl rfl (Ef.call rfl (newBoil_t b p _ h ok)) ?_
  rintro _ _ _ ⟨_, rfl, rfl, bb, m, rfl, hk, hle⟩
  refine W.go 99 rfl ?_
  refine W.ret r rfl rfl ?_
  exact ⟨hle, .inl ⟨rfl, bb, m, rfl, hk⟩⟩
theorem mapG_size (xs : List HG) : (mapG xs).size = xs.length := by unfold mapG; simp
def knT (b : Bl) (pans : List Int) : Int := if openT b pans ≠ 0 then openT b pans else if knownB b b.proofs = [] then 9 else 0
theorem known_t (b : Bl) (p : BP) (ad : Option Addr) (cp : Nat) (pans : List Int) (L : LH) (h : BlAt L b p) (hp : IntsAt L ad pans) (hn : pans.length ≤ 1000000) :
  Sp X 55 [blA b p, .slice ad pans.length cp, .slice none 0 0, .slice none 0 0] L (OpenQ b p (knT b pans) L) := by
 refine Sp.enter (n := 32) Tryz.func55 rfl rfl rfl rfl fun C hX _ hL0 r => ?_
 refine W.go 99 rfl ?_
 refine W.eff rfl rfl rfl (Ef.call rfl (open_t b p ad cp pans _ h hp hn)) ?_
 rintro _ _ _ ⟨_, rfl, rfl, hle, hq⟩
 rcases hq with ⟨e0, bb, m, rfl, hk⟩ | ⟨e0, rfl⟩
 ·refine W.go 99 rfl ?_
  refine W.split rfl rfl rfl (fun c => ?_) (fun c => absurd c (by decide))
  refine W.go 99 rfl ?_
  refine W.vf rfl rfl rfl rfl (Vf.load rfl rfl rfl (hk.bo.cell 5 _ rfl)) ?_
  refine W.go 99 rfl ?_
  refine W.vf rfl rfl rfl rfl (Vf.lenMap rfl Tryz.underlying181 hk.mp) ?_
  rw [mapG_size]
  refine W.go 99 rfl ?_
  refine W.split rfl rfl rfl (fun c1 => W.go 99 rfl ?_) (fun c1 => W.go 99 rfl ?_)
  ·have hnil : knownB b b.proofs = [] := List.eq_nil_of_length_eq_zero (by simpa using c1)
   have e9 : knT b pans = 9 := by unfold knT; rw [if_neg (by simpa using e0), if_pos hnil]
   refine W.ret r rfl rfl ?_
   rw [e9]
   exact ⟨hle, .inr ⟨by decide, rfl⟩⟩
  ·have hnn : ¬ (knownB b b.proofs = []) := fun e => by rw [e] at c1; cases c1
   have e9 : knT b pans = 0 := by unfold knT; rw [if_neg (by simpa using e0), if_neg hnn]
   refine W.ret r rfl rfl ?_
   rw [e9]
   exact ⟨hle, .inl ⟨rfl, bb, m, rfl, hk⟩⟩
 ·refine W.go 99 rfl ?_
  have e9 : knT b pans = openT b pans := by unfold knT; rw [if_pos e0]
  have hf : (openT b pans == 0) = false := by simpa using e0
  refine W.split rfl rfl rfl (fun c => absurd c (by simp [hf])) (fun c => ?_)
  refine W.go 99 rfl ?_
  refine W.ret r rfl rfl ?_
  rw [e9]
  exact ⟨hle, .inr ⟨e0, rfl⟩⟩
end Go.Mz


set_option maxRecDepth 100000
namespace Go.Mz
open Go.Conc Go.Proofs
variable {X : Logic Tryz.prog}
theorem mapG_find {xs : List HG} {e : MapEntry} (h : e ∈ mapG xs) : (mapG xs).find? (fun x => x.born == e.born) = some e := by
 obtain ⟨x, hx, he⟩ := mapG_mem h
 have hlt := (List.getElem?_eq_some_iff.1 hx).1
 have hg := mapG_get hx
 rw [← he] at hg
 have hb : ∀ (j : Nat) (y : MapEntry), (mapG xs)[j]? = some y → y.born = j := fun j y hy => by
  unfold mapG at hy
  rw [List.getElem?_toArray, List.getElem?_map, List.getElem?_zipIdx] at hy
  obtain ⟨z, hz, rfl⟩ := Option.map_eq_some_iff.1 hy
  obtain ⟨u, _, rfl⟩ := Option.map_eq_some_iff.1 hz
  simp
 have hl : (mapG xs).toList[e.born]? = some e := by rw [Array.getElem?_toList]; exact hg
 rw [← Array.toArray_toList (xs := mapG xs), List.find?_toArray, List.find?_eq_some_iff_getElem]
 obtain ⟨h1, h2⟩ := List.getElem?_eq_some_iff.1 hl
 refine ⟨by simp, e.born, h1, h2, fun j hj => ?_⟩
 have := hb j (mapG xs).toList[j] (by rw [← Array.getElem?_toList, List.getElem?_eq_getElem])
 rw [this]
 simp
 omega
theorem seen_le {n : Nat} {sl : List Nat} (hn : sl.Nodup) (hm : ∀ i ∈ sl, i < n) : sl.length ≤ n := by
 have := List.Nodup.length_le_of_subset hn (l₂ := List.range n) fun i hi => List.mem_range.2 (hm i hi)
 simpa using this
def longG (b : Bl) (pan t : Nat) (x : HG) : Bool :=
 let s := x.2.getD pan ⟨0, 0⟩
 let n := thickB b x.1 pan t
 threadB b (s.lo + n) == 2 && threadB b (s.hi + n) == 2
theorem sure_all (b : Bl) (pan t : Nat) : sureB b pan t = (knownB b b.proofs).all (longG b pan t) := rfl
def seenS (p : HG → Bool) (xs : List HG) (seen : List Nat) : Bool := seen.all fun j => (xs[j]?.map p).getD true
theorem seenS_snoc {p : HG → Bool} {xs : List HG} {seen : List Nat} {j : Nat} {x : HG} (h : xs[j]? = some x) : seenS p xs (seen ++ [j]) = (seenS p xs seen && p x) := by
 unfold seenS
 rw [List.all_append]
 simp [h]
theorem seenS_all {p : HG → Bool} {xs : List HG} {seen : List Nat} (h : ∀ j, j < xs.length → j ∈ seen) : seenS p xs seen = xs.all p := by
 unfold seenS
 rw [Bool.eq_iff_iff, List.all_eq_true, List.all_eq_true]
 constructor
 ·intro h1 x hx
  obtain ⟨j, hj⟩ := List.mem_iff_getElem?.1 hx
  have := h1 j (h j (List.getElem?_eq_some_iff.1 hj).1)
  rw [hj] at this
  exact this
 ·intro h1 j _
  cases hj : xs[j]? with
  | none => rfl
  | some x => exact h1 x (List.mem_of_getElem? hj)
theorem strike_t (bb : Nat) (b : Bl) (p : BP) (m : Nat) (pan : Nat) (L : LH) (hk : KbAt L bb b p m) (ok : BlOk b) (hpan : pan < b.starts.length) :
  Sp X 56 [pt bb, .int .i64 pan] L (fun v L' => ∃ M : Nat, v = .int .u8 M ∧ M < 256 ∧ (∀ i, M.testBit i = (decide (i < b.heats.length + 1) && sureB b pan i)) ∧ Le L L') := by
 have h5 := ok.h5
 refine Sp.enter (n := 56) Tryz.func56 rfl rfl rfl rfl fun C hX _ hL0 r => ?_
 refine W.go 99 rfl ?_
 refine W.vf rfl rfl rfl rfl (Vf.load rfl rfl rfl (hk.bo.cell 3 _ rfl)) ?_
 refine W.go 99 rfl ?_
 rw [wrap64_in _ (by omega) (by omega)]
 refine W.loop (fun m' E B L' => ∃ (i M : Nat), m' = b.heats.length + 1 - i ∧ i ≤ b.heats.length + 1 ∧ M < 256 ∧ (∀ k, M.testBit k = (decide (k < i) && sureB b pan k)) ∧ Le L L' ∧
   E = [(0, .v (pt bb)), (1, .v (.int .i64 pan)), (5, .v (.int .u8 M)), (17, .v (.int .i64 ((b.heats.length : Int) + 1))), (18, .v (.int .i64 i))] ∧ B = [])
  ⟨0, 0, rfl, by omega, by decide, fun k => by simp, Le.refl _, rfl, rfl⟩ (by exact ⟨rfl, rfl, rfl, rfl, rfl, trivial⟩) trivial ?_
 rintro _ _ _ L1 ⟨i, M, rfl, hi, hM, hbits, hl1, rfl, rfl⟩ again
 have hk1 := hk.le hl1
 refine W.go 99 rfl ?_
 refine W.split rfl rfl rfl (fun d1 => W.go 99 rfl ?_) (fun d1 => W.go 99 rfl ?_)
 ·have hi : i < b.heats.length + 1 := by simp at d1; omega
  refine W.vf rfl rfl rfl rfl (Vf.load rfl rfl rfl (hk1.bo.cell 5 _ rfl)) ?_
  refine W.go 99 rfl ?_
  refine W.eff rfl rfl rfl (Ef.range rfl Tryz.underlying181 hk1.mp) ?_
  rintro _ _ _ ⟨q, rfl, rfl, hq, rfl⟩
  have hmq : m ≠ q := fun e => by subst e; rw [hk1.mp] at hq; cases hq
  refine W.go 99 rfl ?_
  refine W.unlit 7 rfl ?_
  refine W.loop (fun m' E B L' => ∃ (seen : Array Nat), m' = (knownB b b.proofs).length - seen.size ∧ seen.toList.Nodup ∧ (∀ j ∈ seen.toList, j < (knownB b b.proofs).length) ∧ Le L1 L' ∧ L' q = some (.mapIter (some m) (knownB b b.proofs).length seen (knownB b b.proofs).length, true) ∧
    E = [(0, .v (pt bb)), (1, .v (.int .i64 pan)), (5, .v (.int .u8 M)), (6, .v (.int .i64 i)), (7, .v (.bool (seenS (longG b pan i) (knownB b b.proofs) seen.toList))), (17, .v (.int .i64 ((b.heats.length : Int) + 1))), (18, .v (.int .i64 i)), (25, .v (.pointer (some ⟨q, 0, none⟩)))] ∧ B = [])
   ⟨#[], rfl, by simp, (fun j hj => by simp at hj), Le.put hq _, put_same _ _ _, rfl, rfl⟩ (by exact ⟨rfl, rfl, rfl, rfl, rfl, rfl, rfl, rfl, trivial⟩) (by exact trivial) ?_
  rintro _ _ _ L2 ⟨seen, rfl, hnd, hlt, hl2, hq2, rfl, rfl⟩ again2
  have hborn : ∀ e ∈ mapG (knownB b b.proofs), e.born < (knownB b b.proofs).length ∧ e.born < (knownB b b.proofs).length := fun e he => by
   obtain ⟨x, hx, _⟩ := mapG_mem he
   have := (List.getElem?_eq_some_iff.1 hx).1
   exact ⟨this, this⟩
  have hk2 := hk1.le hl2
  have h1q : L1 q = none := hq
  refine W.go 99 rfl ?_
  refine W.eff rfl rfl rfl (Ef.next rfl hq2 hk2.mp hborn) ?_
  rintro _ _ _ ⟨rfl, hcase⟩
  rcases hcase with ⟨rfl, hall, rfl⟩ | ⟨e, he, hns, rfl, rfl⟩
  ·have hsum : seenS (longG b pan i) (knownB b b.proofs) seen.toList = sureB b pan i := by
    rw [sure_all]
    refine seenS_all fun j hj => ?_
    have := hall _ (Array.mem_of_getElem? (mapG_get (List.getElem?_eq_getElem hj)))
    simpa using this
   rw [hsum]
   refine W.go 99 rfl ?_
   refine W.split rfl rfl rfl (fun c => absurd c (by decide)) (fun c => ?_)
   refine W.go 99 rfl ?_
   have hup : ∀ c : Bool, sureB b pan i = c → (∀ k, (if c then M ||| 2 ^ i else M).testBit k = (decide (k < i + 1) && sureB b pan k)) := fun c hc k => by
    have hik : k < i + 1 ↔ (k < i ∨ k = i) := by omega
    cases c with
    | true =>
     rw [if_pos rfl, Nat.testBit_or, hbits, Nat.testBit_two_pow]
     by_cases e : i = k
     ·subst e; simp [hc]
     ·simp [e, hik, Ne.symm e]
    | false =>
     rw [if_neg (by simp), hbits]
     by_cases e : i = k
     ·subst e; simp [hc]
     ·simp [hik, Ne.symm e]
   refine W.split rfl rfl rfl (fun c1 => W.go 99 rfl ?_) (fun c1 => W.go 99 rfl ?_)
   ·have hlt : M ||| 2 ^ i < 256 := Nat.or_lt_two_pow (n := 8) hM (Nat.pow_lt_pow_right (by decide) (by omega))
    refine W.eff rfl rfl rfl (Ef.call rfl (with_t M i _ hM (by omega))) ?_
    rintro _ _ _ ⟨_, rfl, rfl, rfl, rfl⟩
    refine W.go 99 rfl ?_
    exact W.again (again _ _ _ _ (by omega) ⟨i + 1, M ||| 2 ^ i, rfl, by omega, hlt, hup true c1, hl1.trans hl2, rfl, rfl⟩) (by exact ⟨rfl, rfl, rfl, rfl, congrArg some (inc64 (by omega)), trivial⟩) trivial
   ·exact W.again (again _ _ _ _ (by omega) ⟨i + 1, M, rfl, by omega, hM, hup false c1, hl1.trans hl2, rfl, rfl⟩) (by exact ⟨rfl, rfl, rfl, rfl, congrArg some (inc64 (by omega)), trivial⟩) trivial
  ·obtain ⟨x, hx, hxe⟩ := mapG_mem he
   have hfe := mapG_find he
   obtain ⟨ek, ev, eb⟩ := e
   obtain ⟨rfl, rfl⟩ : ek = .agg (encH x.1).toArray ∧ ev = .agg (encG x).toArray := by cases hxe; exact ⟨rfl, rfl⟩
   dsimp only at hx hfe hns
   have hxl := (List.getElem?_eq_some_iff.1 hx).1
   have hxm := List.mem_of_getElem? hx
   obtain ⟨m1, m2⟩ := known_mem hxm
   have hh := ok.hs m1
   have hx3 : x.2.length ≤ 3 := by rw [m2, group_len]; exact ok.s3
   have hnew : eb ∉ seen.toList := fun hm => by
    have : seen.contains eb = true := by simpa using hm
    rw [this] at hns; cases hns
   have hnd2 : (seen.push eb).toList.Nodup := by
    rw [Array.toList_push, List.nodup_append]
    exact ⟨hnd, by simp, fun a ha b hb => by rw [List.mem_singleton.1 hb]; exact fun e => hnew (e ▸ ha)⟩
   have hlt2 : ∀ j ∈ (seen.push eb).toList, j < (knownB b b.proofs).length := fun j hj => by
    rw [Array.toList_push] at hj
    rcases List.mem_append.1 hj with h | h
    ·exact hlt j h
    ·rw [List.mem_singleton.1 h]; exact hxl
   have hsz := seen_le hnd2 hlt2
   rw [Array.toList_push, List.length_append, List.length_singleton, Array.length_toList] at hsz
   have hms : (knownB b b.proofs).length - (seen.push eb).size < (knownB b b.proofs).length - seen.size := by rw [Array.size_push]; omega
   obtain ⟨s, hs⟩ : ∃ s, x.2[pan]? = some s := ⟨_, List.getElem?_eq_getElem (by rw [m2, group_len]; exact hpan)⟩
   have hsm : smS s := group_sm ok hh ok.pb (starts_sm ok) s (by
    have := List.mem_of_getElem? hs
    rw [m2] at this
    exact this)
   have hput : Le L1 (L2.put q (.mapIter (some m) (knownB b b.proofs).length (seen.push eb) (knownB b b.proofs).length)) := le_put_none hl2 h1q _
   have hk3 := hk1.le hput
   have hth := thick_t (X := X) bb b p m x s pan i _ hk3.bo ok hh hx3 hs hsm hpan (by omega)
   have hlong : longG b pan i x = (threadB b (s.lo + thickB b x.1 pan i) == 2 && threadB b (s.hi + thickB b x.1 pan i) == 2) := by
    unfold longG
    rw [List.getD_eq_getElem?_getD, hs]; rfl
   have hsn : seenS (longG b pan i) (knownB b b.proofs) (seen.push eb).toList = (seenS (longG b pan i) (knownB b b.proofs) seen.toList && (threadB b (s.lo + thickB b x.1 pan i) == 2 && threadB b (s.hi + thickB b x.1 pan i) == 2)) := by
    rw [Array.toList_push, seenS_snoc hx, hlong]
   have hII : ∀ z : Nat, ((z : Int) == 2) = (z == 2) := fun z => by
    rw [Bool.eq_iff_iff, beq_iff_eq, beq_iff_eq]; omega
   obtain ⟨y0, y1, y2, y3, y4, y5, y6, y7, y8, y9, y10, y11, e1, e2⟩ := encG_12 hh.l5 hx3
   rw [e2] at hth hfe ⊢
   rw [e1] at hfe ⊢
   generalize hu : upS s (thickB b x.1 pan i) = u at hth
   have hu1 : s.lo + thickB b x.1 pan i = u.lo := by rw [← hu]; rfl
   have hu2 : s.hi + thickB b x.1 pan i = u.hi := by rw [← hu]; rfl
   rw [hu1, hu2, ← hII, ← hII] at hsn
   refine W.go 99 rfl ?_
   refine W.split rfl rfl rfl (fun c => ?_) (fun c => absurd c (by decide))
   refine W.go 99 rfl ?_
   refine W.vf rfl rfl rfl rfl (Vf.entry (e := ⟨.agg #[.int .i64 y0, .int .i64 y1, .int .i64 y2, .int .i64 y3, .int .i64 y4], .agg #[.int .i64 y0, .int .i64 y1, .int .i64 y2, .int .i64 y3, .int .i64 y4, .int .i64 y5, .int .i64 y6, .int .i64 y7, .int .i64 y8, .int .i64 y9, .int .i64 y10, .int .i64 y11], eb⟩) rfl (put_same _ _ _) (hput _ _ hk1.mp) (by simp) hfe) ?_
   refine W.go 99 rfl ?_
   rw [← hX] at hth
   refine W.eff rfl rfl rfl (Ef.call rfl (hth)) ?_
   rintro _ _ _ ⟨_, rfl, rfl, rfl, rfl⟩
   refine W.go 99 rfl ?_
   refine W.split rfl rfl rfl (fun c1 => ?_) (fun c1 => ?_)
   ·refine W.go 99 rfl ?_
    refine W.eff rfl rfl rfl (Ef.call rfl (thread_t bb b p m u.lo _ hk3.bo ok)) ?_
    rintro _ _ _ ⟨_, rfl, rfl, rfl, rfl⟩
    refine W.go 99 rfl ?_
    refine W.split rfl rfl rfl (fun c2 => ?_) (fun c2 => ?_)
    ·refine W.go 99 rfl ?_
     refine W.eff rfl rfl rfl (Ef.call rfl (thread_t bb b p m u.hi _ hk3.bo ok)) ?_
     rintro _ _ _ ⟨_, rfl, rfl, rfl, rfl⟩
     refine W.go 99 rfl ?_
     exact W.again (again2 _ _ _ _ hms ⟨seen.push eb, rfl, hnd2, hlt2, hput, put_same _ _ _, rfl, rfl⟩) (by exact ⟨rfl, rfl, rfl, rfl, congrArg (fun z => some (SV.v (.bool z))) (by rw [hsn, c1, c2]; rfl), rfl, rfl, rfl, trivial⟩) (by exact trivial)
    ·refine W.go 99 rfl ?_
     refine W.unlit 7 rfl ?_
     exact W.again (again2 _ _ _ _ hms ⟨seen.push eb, rfl, hnd2, hlt2, hput, put_same _ _ _, rfl, rfl⟩) (by exact ⟨rfl, rfl, rfl, rfl, congrArg (fun z => some (SV.v (.bool z))) (by rw [hsn, c1, c2]; rfl), rfl, rfl, rfl, trivial⟩) (by exact trivial)
   ·refine W.go 99 rfl ?_
    refine W.unlit 7 rfl ?_
    exact W.again (again2 _ _ _ _ hms ⟨seen.push eb, rfl, hnd2, hlt2, hput, put_same _ _ _, rfl, rfl⟩) (by exact ⟨rfl, rfl, rfl, rfl, congrArg (fun z => some (SV.v (.bool z))) (by rw [hsn, c1]; rfl), rfl, rfl, rfl, trivial⟩) (by exact trivial)
 ·have hie : i = b.heats.length + 1 := by simp at d1; omega
  subst hie
  refine W.ret r rfl rfl ?_
  exact ⟨M, rfl, hM, hbits, hl1⟩
end Go.Mz


set_option maxRecDepth 100000
namespace Go.Mz
open Go.Conc Go.Proofs
variable {X : Logic Tryz.prog}
theorem natI_flt (p : Nat → Bool) (i : Nat) : (natI ((List.range i).filter p)).length ≤ i := by
 unfold natI; rw [List.length_map]
 have := List.length_filter_le p (List.range i)
 simpa using this
theorem ints0 {L : LH} {ad : Option Addr} : IntsAt L ad [] := fun i z hz => by simp at hz
theorem StrikeE_bad {b : Bl} {pan : Int} (h : knT b [pan] ≠ 0) : StrikeE b pan = ([], knT b [pan]) := by
 unfold knT openT at h ⊢
 unfold StrikeE
 by_cases c1 : boilE b ≠ 0
 ·rw [if_pos c1] at h ⊢
  rw [if_pos c1]
  rw [if_pos c1]
 ·rw [if_neg c1] at h ⊢
  rw [if_neg c1]
  by_cases c2 : inB pan 0 ((b.starts.length : Int) - 1) = true
  ·simp only [List.all_cons, List.all_nil, Bool.and_true, c2, if_true] at h ⊢
   simp only [ne_eq, not_true_eq_false, if_false] at h ⊢
   by_cases c3 : knownB b b.proofs = []
   ·simp [c3]
   ·simp [c3] at h
  ·simp [c2]
theorem StrikeE_ok {b : Bl} {pan : Int} (h : knT b [pan] = 0) : BlOk b ∧ 0 ≤ pan ∧ pan < b.starts.length ∧ StrikeE b pan = if strikeB b pan.toNat = [] then ([], 11) else (strikeB b pan.toNat, 0) := by
 unfold knT openT at h
 unfold StrikeE
 by_cases c1 : boilE b ≠ 0
 ·simp only [c1, ne_eq, not_false_eq_true, if_true] at h
 ·rw [if_neg c1] at h ⊢
  have c1' : boilE b = 0 := by simpa using c1
  by_cases c2 : inB pan 0 ((b.starts.length : Int) - 1) = true
  ·simp only [List.all_cons, List.all_nil, Bool.and_true, c2, if_true, ne_eq, not_true_eq_false, if_false] at h
   by_cases c3 : knownB b b.proofs = []
   ·simp [c3] at h
   ·have := inB_iff.1 c2
    refine ⟨bl_ok c1', by omega, by omega, ?_⟩
    simp [c2, c3]
  ·simp only [List.all_cons, List.all_nil, Bool.and_true, c2] at h
   simp at h
def IntsQ (l : List Int) (e : Int) (L : LH) (v : Value) (L' : LH) : Prop := ∃ ad cap, v = .tuple #[.slice ad l.length cap, .int .i64 e] ∧ Le L L' ∧ IntsAt L' ad l ∧ l.length ≤ cap
theorem Strike_t (b : Bl) (p : BP) (pan : Int) (L : LH) (h : BlAt L b p) : Sp X 12 [blA b p, .int .i64 pan] L (IntsQ (natI (StrikeE b pan).1) (StrikeE b pan).2 L) := by
 refine Sp.enter (n := 45) Tryz.func12 rfl rfl rfl rfl fun C hX _ hL0 r => ?_
 refine W.goP [16] 99 rfl ?_
 refine W.pub 15 (.inr ⟨_, _, _, rfl⟩) rfl rfl ?_
 intro b1 hb1 _
 have hle1 := Le.put hb1 (.cells #[.int .i64 pan] 3)
 have hpi : IntsAt (L.put b1 (.cells #[.int .i64 pan] 3)) (some ⟨b1, 0, none⟩) [pan] := sl_block (e := 3) encI_len (put_same _ _ _)
 refine W.eff rfl rfl rfl (Ef.call rfl (known_t b p (some ⟨b1, 0, none⟩) 1 [pan] _ (h.le hle1) hpi (by simp))) ?_
 rintro _ _ _ ⟨_, rfl, rfl, hle2, hq⟩
 rcases hq with ⟨e0, bb, m, rfl, hk⟩ | ⟨e0, rfl⟩
 ·obtain ⟨ok, hp0, hpl, hS⟩ := StrikeE_ok e0
  obtain ⟨pn, rfl⟩ : ∃ pn : Nat, pan = (pn : Int) := ⟨pan.toNat, by omega⟩
  rw [Int.toNat_natCast] at hS
  rw [hS] at r
  have h5 := ok.h5
  have hle := hle1.trans hle2
  rename_i L2
  refine W.go 99 rfl ?_
  refine W.split rfl rfl rfl (fun c => absurd c (by decide)) (fun c => ?_)
  refine W.go 99 rfl ?_
  refine W.eff rfl rfl rfl (Ef.call rfl (strike_t bb b p m pn _ hk ok (by omega))) ?_
  rintro _ _ _ ⟨_, rfl, rfl, M, rfl, hM, hbits, hle3⟩
  refine W.go 99 rfl ?_
  rename_i L3
  rw [wrap64_in _ (by omega) (by omega)]
  refine W.loop (fun n E B L' => ∃ (i : Nat) (v : Value), n = b.heats.length + 1 - i ∧ i ≤ b.heats.length + 1 ∧ Grow L3 1 3 encI L' v (natI ((List.range i).filter (sureB b pn))) ∧
    E = [(8, .v (.int .u8 M)), (9, .f (.func 57) [] []), (10, .v v), (28, .v (.int .i64 ((b.heats.length : Int) + 1))), (29, .v (.int .i64 i))] ∧ B = [])
   ⟨0, _, rfl, by omega, Grow.nil (Le.refl _), rfl, rfl⟩ (by exact ⟨rfl, rfl, rfl, rfl, rfl, trivial⟩) trivial ?_
  rintro _ _ _ L4 ⟨i, v, rfl, h1, hg, rfl, rfl⟩ again
  refine W.go 99 rfl ?_
  refine W.split rfl rfl rfl (fun c1 => ?_) (fun c1 => ?_)
  ·have hi : i < b.heats.length + 1 := by simp at c1; omega
   refine W.go 99 rfl ?_
   have hb := range_filter (sureB b pn) i
   have hbi : M.testBit i = sureB b pn i := by rw [hbits, decide_eq_true hi]; rfl
   refine W.eff rfl rfl rfl (Ef.callV rfl rfl rfl rfl (has_t M i _ hM (by omega))) ?_
   rintro _ _ _ ⟨_, rfl, rfl, rfl, rfl⟩
   rw [hbi]
   refine W.go 99 rfl ?_
   refine W.split rfl rfl rfl (fun c2 => W.go 99 rfl ?_) (fun c2 => W.go 99 rfl ?_)
   ·refine W.eff rfl rfl rfl (Ef.grow rfl rfl rfl rfl rfl rfl rfl rfl rfl encI_len encI_sg hg (ls := [(i : Int)]) (.own rfl rfl rfl rfl) (by have := natI_flt (sureB b pn) i; simp only [List.length_singleton]; omega)) ?_
    rintro _ _ _ ⟨v', rfl, rfl, hg', _⟩
    refine W.go 99 rfl ?_
    exact W.again (again _ _ _ _ (by omega) ⟨i + 1, v', rfl, by omega, by rw [hb, if_pos c2, natI_snoc]; exact hg', rfl, rfl⟩) ⟨rfl, rfl, rfl, rfl, congrArg some (inc64 (by omega)), trivial⟩ trivial
   ·exact W.again (again _ _ _ _ (by omega) ⟨i + 1, v, rfl, by omega, by rw [hb]; simpa [c2] using hg, rfl, rfl⟩) ⟨rfl, rfl, rfl, rfl, congrArg some (inc64 (by omega)), trivial⟩ trivial
  ·have hi : i = b.heats.length + 1 := by simp at c1; omega
   subst hi
   obtain ⟨ad, cap, rfl, hcap⟩ := hg.slice
   have hat := (hg.at encI_len).2
   have hL4 : Le L L4 := (hle.trans hle3).trans hg.1
   have hlen : natI ((List.range (b.heats.length + 1)).filter (sureB b pn)) = natI (strikeB b pn) := rfl
   rw [hlen] at hat hcap ⊢
   refine W.go 99 rfl ?_
   refine W.split rfl rfl rfl (fun c2 => W.go 99 rfl ?_) (fun c2 => W.go 99 rfl ?_)
   ·have hnil : strikeB b pn = [] := by
     have : (natI (strikeB b pn)).length = 0 := by simpa using c2
     unfold natI at this
     rw [List.length_map] at this
     exact List.eq_nil_of_length_eq_zero this
    refine W.ret r rfl rfl ?_
    rw [if_pos hnil]
    exact ⟨none, 0, rfl, hL4, ints0, Nat.le_refl _⟩
   ·have hnn : ¬ strikeB b pn = [] := fun e => by rw [e] at c2; cases c2
    refine W.ret r rfl rfl ?_
    rw [if_neg hnn]
    exact ⟨ad, cap, rfl, hL4, hat, hcap⟩
 ·have hS := StrikeE_bad (b := b) (pan := pan) e0
  rw [hS] at r
  have hf : (knT b [pan] != 0) = true := by simpa using e0
  refine W.go 99 rfl ?_
  refine W.split rfl rfl rfl (fun c => ?_) (fun c => absurd c (by simp [hf]))
  refine W.go 99 rfl ?_
  refine W.ret r rfl rfl ?_
  exact ⟨none, 0, rfl, hle1.trans hle2, ints0, Nat.le_refl _⟩
end Go.Mz


set_option maxRecDepth 100000
namespace Go.Mz
open Go.Conc Go.Proofs
variable {X : Logic Tryz.prog}
abbrev bp0 : BP := ⟨none, none, none, none, none, 0, 0, 0, 0, 0⟩
theorem sl0 {α : Type} {L : LH} {ad : Option Addr} {n : Nat} {enc : α → List Value} : SlAt L ad n enc [] := fun i z hz => by simp at hz
theorem bl0_at (L : LH) : BlAt L bl0 bp0 := ⟨sl0, sl0, sl0, sl0, sl0, by decide, by decide, by decide, by decide, by decide, by decide⟩
def BlQ (b : Bl) (e : Int) (L : LH) (v : Value) (L' : LH) : Prop := ∃ p, v = .tuple #[blA b p, .int .i64 e] ∧ Le L L' ∧ BlAt L' b p
theorem AddPE_open {b : Bl} {x : Prf} (h : openT b [] ≠ 0) : AddPE b x = (bl0, openT b []) := by
 unfold openT at h ⊢
 unfold AddPE
 by_cases c1 : boilE b ≠ 0
 ·rw [if_pos c1] at h ⊢
  rw [if_pos c1]
 ·rw [if_neg c1] at h
  simp at h
theorem AddPE_go {b : Bl} {x : Prf} (h : openT b [] = 0) : BlOk b ∧ AddPE b x = if b.proofs.length = 8 then (bl0, 6) else if proofE b x ≠ 0 then (bl0, proofE b x) else if knownB b b.proofs ≠ [] ∧ knownB b (b.proofs ++ [x]) = [] then (bl0, 9) else ({ b with proofs := b.proofs ++ [x] }, 0) := by
 unfold openT at h
 unfold AddPE
 by_cases c1 : boilE b ≠ 0
 ·rw [if_pos c1] at h
  exact absurd h c1
 ·rw [if_neg c1]
  exact ⟨bl_ok (by simpa using c1), rfl⟩
theorem Add_t (b : Bl) (p : BP) (x : Prf) (L : LH) (h : BlAt L b p) : Sp X 223 [blA b p, .agg (encPr x).toArray] L (BlQ (AddPE b x).1 (AddPE b x).2 L) := by
 have hk4 := h.k4
 have n0 := h.n0
 refine Sp.enter (n := 79) Tryz.func223 rfl rfl rfl rfl fun C hX _ hL0 r => ?_
 refine W.go 99 rfl ?_
 refine W.eff rfl rfl rfl (Ef.call rfl (open_t b p none 0 [] _ h ints0 (by simp))) ?_
 rintro _ _ _ ⟨_, rfl, rfl, hle, hq⟩
 rcases hq with ⟨e0, bb, m, rfl, hk⟩ | ⟨e0, rfl⟩
 ·obtain ⟨ok, hA⟩ := AddPE_go (x := x) e0
  rw [hA] at r
  refine W.go 99 rfl ?_
  refine W.split rfl rfl rfl (fun c => absurd c (by decide)) (fun c => ?_)
  refine W.go 99 rfl ?_
  refine W.split rfl rfl rfl (fun c1 => W.go 99 rfl ?_) (fun c1 => W.go 99 rfl ?_)
  ·have c1' : b.proofs.length = 8 := by simp at c1; omega
   rw [if_pos c1'] at r
   refine W.ret r rfl rfl ?_
   exact ⟨bp0, rfl, hle, bl0_at _⟩
  have c1' : ¬ b.proofs.length = 8 := by simp at c1; omega
  rw [if_neg c1'] at r
  refine W.eff rfl rfl rfl (Ef.call rfl (checkProof_t b p x n0 _)) ?_
  rintro _ _ _ ⟨_, rfl, rfl, rfl, rfl⟩
  refine W.go 99 rfl ?_
  refine W.split rfl rfl rfl (fun c2 => W.go 99 rfl ?_) (fun c2 => W.go 99 rfl ?_)
  ·have c2' : proofE b x ≠ 0 := by simpa using c2
   rw [if_pos c2'] at r
   refine W.ret r rfl rfl ?_
   exact ⟨bp0, rfl, hle, bl0_at _⟩
  have c2' : proofE b x = 0 := by simpa using c2
  rw [if_neg (by simpa using c2')] at r
  refine W.drawn (by kernel_rfl) _ (Le.refl _) ?_
  refine DD.run' [0, 1, 2, 3, 4, 5, 6, 7, 9, 10] rfl ?_
  refine DD.vf 8 rfl rfl rfl rfl rfl (Vf.slice3 rfl rfl rfl Tryz.underlying26 size35 (Nat.le_refl _) hk4) ?_
  have h4 := hk.bo.bl.h4
  have p8 := ok.p8
  refine DD.act 11 rfl rfl rfl rfl rfl (Ef.appF (enc := encPr) (l := b.proofs) (ls := [x]) rfl rfl rfl rfl rfl rfl rfl rfl rfl encPr_len h4 (.own rfl rfl rfl rfl) (by simp) (by simp; omega)) ((by rintro _ _ _ ⟨_, _, _, _, rfl, hb, rfl, _⟩; exact ⟨Le.put hb _, rfl, .inl rfl⟩)) ?_
  rintro _ _ _ ⟨bn, cn, capn, rfl, rfl, hbn, rfl, hown⟩
  refine DD.run' [12] rfl ?_
  refine .fin rfl ?_
  refine W.go 99 rfl ?_
  have hkn := hk.le (Le.put hbn (.cells cn 35))
  have hLn := hle.trans (Le.put hbn (.cells cn 35))
  have hpn : SlAt _ (some ⟨bn, 0, none⟩) 3 encPr (b.proofs ++ [x]) := hown.at encPr_len
  have hcapn : (b.proofs ++ [x]).length ≤ capn := by
   obtain ⟨_, _, g1, g2⟩ := hown.slice
   cases g1; exact g2
  have hval : ∀ q ∈ b.proofs ++ [x], proofE b q = 0 := fun q hq => by
   rcases List.mem_append.1 hq with hq | hq
   ·exact ok.pb q hq
   ·rw [List.mem_singleton.1 hq]; exact c2'
  refine W.vf rfl rfl rfl rfl (Vf.load rfl rfl rfl (hkn.bo.cell 5 _ rfl)) ?_
  refine W.go 99 rfl ?_
  refine W.vf rfl rfl rfl rfl (Vf.lenMap rfl Tryz.underlying181 hkn.mp) ?_
  rw [mapG_size]
  refine W.cut2 (fun E B L' => (¬ (knownB b b.proofs ≠ [] ∧ knownB b (b.proofs ++ [x]) = [])) ∧ Le L L' ∧ BlAt L' b p ∧ SlAt L' (some ⟨bn, 0, none⟩) 3 encPr (b.proofs ++ [x]) ∧
   SubE E [(2, .p 0 0), (4, .p 2 0), (9, .v (.slice (some ⟨bn, 0, none⟩) (b.proofs ++ [x]).length capn))] ∧ PreB B [some ⟨cellsS (.v (blA b p)), 28⟩, some ⟨(encPr x).map .v, 35⟩, some ⟨ti28.z.cells.toList.map .v, 28⟩]) ?_ ?_
  ·rintro E B L1 ⟨hno, hl1, hb1, hp1, hE, hB⟩
   rw [if_neg hno] at r
   refine W.weak hE hB ?_
   have nn1 := hb1.n1
   have nn2 := hb1.n2
   have nn3 := hb1.n3
   refine W.goP [57] 99 rfl ?_
   refine W.pub 56 (.inr ⟨_, _, _, rfl⟩) rfl rfl ?_
   intro q1 hq1 _
   refine W.go 99 rfl ?_
   refine W.eff rfl rfl rfl (Ef.grow rfl rfl rfl rfl rfl rfl rfl rfl rfl encSp_len encSp_sg (Grow.new (Le.put hq1 _) (put_same _ _ _) hq1) (ls := b.starts) (YC.sl ((hb1.h0).le (Le.put hq1 _)) encSp_len rfl) ((by simp; omega))) ?_
   rintro _ _ _ ⟨v1, rfl, rfl, hg1, _⟩
   obtain ⟨ad1, cap1, rfl, hcap1⟩ := hg1.slice
   have hsl1 := (hg1.at encSp_len).2
   have hle1 := hg1.1
   have hb2 := hb1.le hle1
   refine W.goP [61] 99 rfl ?_
   refine W.weak (E' := [(2, .p 0 0), (4, .p 2 0), (9, .v (.slice (some ⟨bn, 0, none⟩) (b.proofs ++ [x]).length capn))]) (B' := [some ⟨[.v (.slice ad1 b.starts.length cap1), .v (.slice p.a1 b.rates.length p.c1), .v (.slice p.a2 b.marks.length p.c2), .v (.slice p.a3 b.heats.length p.c3), .v (.slice p.a4 b.proofs.length p.c4)], 28⟩, some ⟨(encPr x).map .v, 35⟩, some ⟨ti28.z.cells.toList.map .v, 28⟩]) (by exact ⟨rfl, rfl, rfl, trivial⟩) (by exact ⟨rfl, rfl, rfl, trivial⟩) ?_
   refine W.goP [62] 99 rfl ?_
   refine W.pub 61 (.inr ⟨_, _, _, rfl⟩) rfl rfl ?_
   intro q2 hq2 _
   refine W.go 99 rfl ?_
   refine W.eff rfl rfl rfl (Ef.grow rfl rfl rfl rfl rfl rfl rfl rfl rfl encI_len encI_sg (Grow.new (Le.put hq2 _) (put_same _ _ _) hq2) (ls := b.rates) (YC.sl ((hb2.h1).le (Le.put hq2 _)) encI_len rfl) ((by simp; omega))) ?_
   rintro _ _ _ ⟨v2, rfl, rfl, hg2, _⟩
   obtain ⟨ad2, cap2, rfl, hcap2⟩ := hg2.slice
   have hsl2 := (hg2.at encI_len).2
   have hle2 := hg2.1
   have hb3 := hb2.le hle2
   refine W.goP [66] 99 rfl ?_
   refine W.weak (E' := [(2, .p 0 0), (4, .p 2 0), (9, .v (.slice (some ⟨bn, 0, none⟩) (b.proofs ++ [x]).length capn))]) (B' := [some ⟨[.v (.slice ad1 b.starts.length cap1), .v (.slice ad2 b.rates.length cap2), .v (.slice p.a2 b.marks.length p.c2), .v (.slice p.a3 b.heats.length p.c3), .v (.slice p.a4 b.proofs.length p.c4)], 28⟩, some ⟨(encPr x).map .v, 35⟩, some ⟨ti28.z.cells.toList.map .v, 28⟩]) (by exact ⟨rfl, rfl, rfl, trivial⟩) (by exact ⟨rfl, rfl, rfl, trivial⟩) ?_
   refine W.goP [67] 99 rfl ?_
   refine W.pub 66 (.inr ⟨_, _, _, rfl⟩) rfl rfl ?_
   intro q3 hq3 _
   refine W.go 99 rfl ?_
   refine W.eff rfl rfl rfl (Ef.grow rfl rfl rfl rfl rfl rfl rfl rfl rfl encI_len encI_sg (Grow.new (Le.put hq3 _) (put_same _ _ _) hq3) (ls := b.marks) (YC.sl ((hb3.h2).le (Le.put hq3 _)) encI_len rfl) ((by simp; omega))) ?_
   rintro _ _ _ ⟨v3, rfl, rfl, hg3, _⟩
   obtain ⟨ad3, cap3, rfl, hcap3⟩ := hg3.slice
   have hsl3 := (hg3.at encI_len).2
   have hle3 := hg3.1
   have hb4 := hb3.le hle3
   refine W.goP [71] 99 rfl ?_
   refine W.weak (E' := [(2, .p 0 0), (4, .p 2 0), (9, .v (.slice (some ⟨bn, 0, none⟩) (b.proofs ++ [x]).length capn))]) (B' := [some ⟨[.v (.slice ad1 b.starts.length cap1), .v (.slice ad2 b.rates.length cap2), .v (.slice ad3 b.marks.length cap3), .v (.slice p.a3 b.heats.length p.c3), .v (.slice p.a4 b.proofs.length p.c4)], 28⟩, some ⟨(encPr x).map .v, 35⟩, some ⟨ti28.z.cells.toList.map .v, 28⟩]) (by exact ⟨rfl, rfl, rfl, trivial⟩) (by exact ⟨rfl, rfl, rfl, trivial⟩) ?_
   refine W.goP [72] 99 rfl ?_
   refine W.pub 71 (.inr ⟨_, _, _, rfl⟩) rfl rfl ?_
   intro q4 hq4 _
   refine W.go 99 rfl ?_
   refine W.eff rfl rfl rfl (Ef.grow rfl rfl rfl rfl rfl rfl rfl rfl rfl encSp_len encSp_sg (Grow.new (Le.put hq4 _) (put_same _ _ _) hq4) (ls := b.heats) (YC.sl ((hb4.h3).le (Le.put hq4 _)) encSp_len rfl) ((by simp; omega))) ?_
   rintro _ _ _ ⟨v4, rfl, rfl, hg4, _⟩
   obtain ⟨ad4, cap4, rfl, hcap4⟩ := hg4.slice
   have hsl4 := (hg4.at encSp_len).2
   have hle4 := hg4.1
   have hb5 := hb4.le hle4
   refine W.goP [76] 99 rfl ?_
   refine W.weak (E' := [(2, .p 0 0), (4, .p 2 0), (9, .v (.slice (some ⟨bn, 0, none⟩) (b.proofs ++ [x]).length capn))]) (B' := [some ⟨[.v (.slice ad1 b.starts.length cap1), .v (.slice ad2 b.rates.length cap2), .v (.slice ad3 b.marks.length cap3), .v (.slice ad4 b.heats.length cap4), .v (.slice p.a4 b.proofs.length p.c4)], 28⟩, some ⟨(encPr x).map .v, 35⟩, some ⟨ti28.z.cells.toList.map .v, 28⟩]) (by exact ⟨rfl, rfl, rfl, trivial⟩) (by exact ⟨rfl, rfl, rfl, trivial⟩) ?_
   refine W.go 99 rfl ?_
   refine W.ret r rfl rfl ?_
   have np : (b.proofs ++ [x]).length ≤ 1000000 := by simp; omega
   exact ⟨⟨ad1, ad2, ad3, ad4, some ⟨bn, 0, none⟩, cap1, cap2, cap3, cap4, capn⟩, rfl, hl1.trans ((hle1.trans hle2).trans (hle3.trans hle4)), ⟨hsl1.le (hle2.trans (hle3.trans hle4)), hsl2.le (hle3.trans hle4), hsl3.le hle4, hsl4, hp1.le ((hle1.trans hle2).trans (hle3.trans hle4)), n0, nn1, nn2, nn3, np, hcapn⟩⟩
  ·intro rest
   refine W.go 99 rfl ?_
   refine W.split rfl rfl rfl (fun c3 => ?_) (fun c3 => ?_)
   ·have hne : knownB b b.proofs ≠ [] := fun e => by rw [e] at c3; simp at c3
    refine W.go 99 rfl ?_
    refine W.eff rfl rfl rfl (Ef.call rfl (possible_t bb b p m (some ⟨bn, 0, none⟩) capn (b.proofs ++ [x]) _ hkn.bo ok hpn hval (by simp; omega))) ?_
    rintro _ _ _ ⟨_, rfl, rfl, rfl, hle2⟩
    refine W.go 99 rfl ?_
    refine W.split rfl rfl rfl (fun c4 => ?_) (fun c4 => ?_)
    ·have hnil : knownB b (b.proofs ++ [x]) = [] := by
      cases hh : knownB b (b.proofs ++ [x]) with
      | nil => rfl
      | cons _ _ => rw [hh] at c4; cases c4
     rw [if_pos ⟨hne, hnil⟩] at r
     refine W.go 99 rfl ?_
     refine W.ret r rfl rfl ?_
     exact ⟨bp0, rfl, hLn.trans hle2, bl0_at _⟩
    ·have hnn : knownB b (b.proofs ++ [x]) ≠ [] := fun e => by rw [e] at c4; cases c4
     refine W.go 2 rfl ?_
     exact rest _ _ _ ⟨fun h => hnn h.2, hLn.trans hle2, (hkn.bo.bl.le hle2), hpn.le hle2, (by exact ⟨rfl, rfl, rfl, trivial⟩), (by exact ⟨rfl, rfl, rfl, trivial⟩)⟩
   ·have hnil : knownB b b.proofs = [] := by
     cases hh : knownB b b.proofs with
     | nil => rfl
     | cons _ _ => rw [hh] at c3; simp at c3
    refine W.go 8 rfl ?_
    exact rest _ _ _ ⟨fun h => h.1 hnil, hLn, hkn.bo.bl, hpn, (by exact ⟨rfl, rfl, rfl, trivial⟩), (by exact ⟨rfl, rfl, rfl, trivial⟩)⟩
 ·rw [AddPE_open e0] at r
  have hf : (openT b [] != 0) = true := by simpa using e0
  refine W.go 99 rfl ?_
  refine W.split rfl rfl rfl (fun c => ?_) (fun c => absurd c (by simp [hf]))
  refine W.go 99 rfl ?_
  refine W.ret r rfl rfl ?_
  exact ⟨bp0, rfl, hle, bl0_at _⟩
end Go.Mz


set_option maxRecDepth 100000
namespace Go.Mz
open Go.Conc Go.Proofs
variable {X : Logic Tryz.prog}
theorem hasL_t (x i : Nat) (L : LH) (hx : x < 256) (hi : i < 8) : Sp X 119 [.int .u8 x, .int .i64 i] L (fun v L' => v = .bool (x.testBit i) ∧ L = L') := by
 refine Sp.enter (n := 10) Tryz.func119 rfl rfl rfl rfl fun C hX _ hL0 r => ?_
 refine W.go 99 rfl ?_
 exact W.ret r rfl rfl ⟨congrArg Value.bool (has_u8 ⟨x, hx⟩ ⟨i, hi⟩), rfl⟩
theorem withL_t (x i : Nat) (L : LH) (hx : x < 256) (hi : i < 8) : Sp X 135 [.int .u8 x, .int .i64 i] L (fun v L' => v = .int .u8 ((x ||| 2 ^ i : Nat) : Int) ∧ L = L') := by
 refine Sp.enter (n := 9) Tryz.func135 rfl rfl rfl rfl fun C hX _ hL0 r => ?_
 refine W.go 99 rfl ?_
 exact W.ret r rfl rfl ⟨congrArg (Value.int .u8) (with_u8 ⟨x, hx⟩ ⟨i, hi⟩), rfl⟩
structure Fi where
 b : Bl
 ro : Ro
 s : Sw
structure Fp where
 b : BP
 r : BP
 s : Wp
abbrev fiL (f : Fi) (p : Fp) : List Value := blL f.b p.b ++ roL f.ro p.r ++ encSw f.s p.s
structure DkAt (I L : LH) (bf : Nat) (f : Fi) (p : Fp) : Prop where
 le : Le I L
 n : I bf = none
 o : L bf = some (.cells (fiL f p).toArray 123 (0, 0), true)
 b : BlAt I f.b p.b
 r : RoAt I f.ro p.r
 s : SwAt I f.s p.s
def deskV (bf : Nat) : Value := .agg #[pt bf, .func (.func 175) #[pt bf] #[], .func (.func 176) #[pt bf] #[], .func (.func 177) #[pt bf] #[]]
theorem newDesk_t (k : Bk) (p : Kp) (L : LH) (hk : BkAt L k p) : Sp X 133 [bkA k p] L (fun v L' => ∃ bf, v = deskV bf ∧ DkAt L L' bf ⟨k.b, k.ro, k.s⟩ ⟨p.b, p.r, p.s⟩) := by
 refine Sp.enter (n := 20) Tryz.func133 rfl rfl rfl rfl fun C hX _ hL0 r => ?_
 refine W.go 17 rfl ?_
 refine W.pub 3 (.inl ⟨_, rfl⟩) rfl rfl ?_
 intro bf hbf _
 refine W.go 99 rfl ?_
 refine W.ret r rfl rfl ?_
 exact ⟨bf, rfl, Le.put hbf _, hbf, put_same _ _ _, hk.b, hk.r, hk.s⟩
theorem Post.all {I L J L' : LH} (hIL : Le I L) (hIJ : Le I J) (h : Post I L J L') : Le L L' := fun b x hx => by
 cases e : I b with
 | none => exact h.keep b x e hx
 | some y =>
  have := hIL _ _ e
  rw [hx] at this
  cases this
  exact h.le _ _ (hIJ _ _ e)
theorem DkAt.step {I J L L' : LH} {bf : Nat} {f : Fi} {p : Fp} (h : DkAt I L bf f p) (hIJ : Le I J) (hp : Post I L J L') : DkAt J L' bf f p := by
 refine ⟨hp.le, ?_, hp.keep _ _ h.n h.o, h.b.le hIJ, h.r.le hIJ, h.s.le hIJ⟩
 cases e : J bf with
 | none => rfl
 | some y =>
  rcases hp.fresh bf (by rw [e]; simp) with h1 | h1
  ·exact absurd h.n h1
  ·rw [h.o] at h1; cases h1
def proofF (f : Fi) (x : Prf) : Fi × Int := if (AddPE f.b x).2 = 0 then ({ f with b := (AddPE f.b x).1 }, 0) else (f, (AddPE f.b x).2)
def StepQ (I L : LH) (bf : Nat) (f : Fi) (e : Int) (v : Value) (L' : LH) : Prop := v = .int .i64 e ∧ ∃ J p, Le I J ∧ DkAt J L' bf f p
theorem cellsAt_mid {L : LH} {b off n : Nat} {c : List Value} {vs : List Value} {e : TypeId} {fz : Nat × Nat} {wr : Bool} (h : L b = some (.cells c.toArray e fz, wr)) (hn : vs.length = n) (hc : (c.drop off).take n = vs) : cellsAt L ⟨b, off, none⟩ n vs := by
 refine ⟨hn, fun j v hv => ?_⟩
 rw [add_of]
 refine cell_of h ?_
 subst hc
 rw [List.getElem?_take] at hv
 split at hv
 ·rw [List.getElem?_drop] at hv
  simpa using hv
 ·cases hv
theorem proof_t (I L : LH) (bf : Nat) (f : Fi) (p : Fp) (x : Prf) (ad : Option Addr) (cap : Nat) (h : DkAt I L bf f p) (ha : IntsAt I ad [x.pan, x.tick, x.thread]) : Sp X 175 [pt bf, .slice ad 3 cap] L (StepQ I L bf (proofF f x).1 (proofF f x).2) := by
 obtain ⟨a, rfl⟩ := ha.addr (i := 0) (by simp)
 have hA := (Add_t (X := X) f.b p.b x I h.b).frame h.le
 have haL := ha.le h.le
 refine Sp.enter (n := 32) Tryz.func175 rfl rfl rfl rfl fun C hX _ hL0 r => ?_
 refine W.go 99 rfl ?_
 refine W.drawn (by kernel_rfl) _ (Le.refl _) ?_
 refine DD.run' [0, 1, 2, 4, 7, 10] rfl ?_
 refine DD.vf 5 rfl rfl rfl rfl rfl (Vf.idx1 rfl rfl rfl rfl rfl rfl rfl ((show 0 < 3 by decide))) ?_
 refine DD.vf 8 rfl rfl rfl rfl rfl (Vf.idx1 rfl rfl rfl rfl rfl rfl rfl ((show 1 < 3 by decide))) ?_
 refine DD.vf 11 rfl rfl rfl rfl rfl (Vf.idx1 rfl rfl rfl rfl rfl rfl rfl ((show 2 < 3 by decide))) ?_
 refine DD.vf 3 rfl rfl rfl rfl rfl (Vf.loadN rfl rfl rfl (cellsAt_mid (vs := blL f.b p.b) h.o rfl rfl)) ?_
 refine DD.vf 6 rfl rfl rfl rfl rfl (Vf.load rfl rfl rfl (haL.int (i := 0) rfl)) ?_
 refine DD.vf 9 rfl rfl rfl rfl rfl (Vf.load rfl rfl rfl (haL.int (i := 1) rfl)) ?_
 refine DD.vf 12 rfl rfl rfl rfl rfl (Vf.load rfl rfl rfl (haL.int (i := 2) rfl)) ?_
 refine DD.run' [13, 18] rfl ?_
 rw [← hX] at hA
 refine DD.act 14 rfl rfl rfl rfl rfl (Ef.call rfl (hA)) ((by rintro _ _ _ ⟨_, rfl, rfl, J, ⟨_, _, hIJ, _⟩, hP⟩; exact ⟨hP.all h.le hIJ, rfl, .inl rfl⟩)) ?_
 rintro _ _ _ ⟨_, rfl, rfl, J, ⟨p', rfl, hIJ, hb'⟩, hP⟩
 refine DD.run' [15, 16, 17] rfl ?_
 rename_i L1
 have hLL := hP.all h.le hIJ
 refine DD.act 19 rfl rfl rfl rfl rfl (Ef.sto rfl) ((by rintro _ _ _ ⟨rfl, rfl, rfl⟩; exact ⟨hLL, rfl, .inl rfl⟩)) ?_
 rintro _ _ _ ⟨rfl, rfl, rfl⟩
 refine DD.run' [20] rfl ?_
 refine .fin rfl ?_
 refine W.go 99 rfl ?_
 have h1 := h.step hIJ hP
 by_cases c : (AddPE f.b x).2 = 0
 ·have hr : proofF f x = ({ f with b := (AddPE f.b x).1 }, 0) := if_pos c
  rw [hr] at r
  rw [c]
  refine W.split rfl rfl rfl (fun c => ?_) (fun c => absurd c (by decide))
  refine W.go 99 rfl ?_
  refine W.eff0 rfl rfl (Ef.stoO rfl ⟨_, rfl, rfl⟩ rfl (add_of _ _ _) h1.o rfl (show 5 ≤ 14 by decide) (singles rfl)) ?_
  rintro _ _ _ ⟨rfl, rfl, rfl⟩
  refine W.go 99 rfl ?_
  refine W.ret r rfl rfl ?_
  exact ⟨rfl, J, { p with b := p' }, hIJ, le_put_none h1.le h1.n _, h1.n, put_same _ _ _, hb', h1.r, h1.s⟩
 ·have hr : proofF f x = (f, (AddPE f.b x).2) := if_neg c
  rw [hr] at r
  refine W.split rfl rfl rfl (fun h => absurd h (by simpa using c)) (fun _ => ?_)
  refine W.go 99 rfl ?_
  refine W.ret r rfl rfl ?_
  exact ⟨rfl, J, p, hIJ, h1⟩
end Go.Mz


set_option maxRecDepth 100000
namespace Go.Mz
open Go.Conc Go.Proofs
variable {X : Logic Tryz.prog}
def prfOf (a : List Int) : Prf := ⟨a.getD 0 0, a.getD 1 0, a.getD 2 0⟩
theorem prf3 : ∀ {a : List Int}, a.length = 3 → a = [(prfOf a).pan, (prfOf a).tick, (prfOf a).thread]
 | [_, _, _], _ => rfl
theorem enter0_t (I L : LH) (bf : Nat) (f : Fi) (p : Fp) (a : List Int) (ad : Option Addr) (cap : Nat) (h : DkAt I L bf f p) (ha : IntsAt I ad a) (hn : a.length = 3) : Sp X 134 [deskV bf, .agg #[.int .i64 0, .slice ad a.length cap]] L (StepQ I L bf (proofF f (prfOf a)).1 (proofF f (prfOf a)).2) := by
 rw [hn]
 rw [prf3 hn] at ha
 generalize prfOf a = x at ha ⊢
 unfold deskV
 refine Sp.enter (n := 30) Tryz.func134 rfl rfl rfl rfl fun C hX _ hL0 r => ?_
 refine W.go 99 rfl ?_
 refine W.split rfl rfl rfl (fun c => ?_) (fun c => absurd c (by decide))
 refine W.go 99 rfl ?_
 refine W.callVP (v1 := [pt bf]) (v2 := []) rfl rfl rfl rfl rfl rfl (proof_t I L bf f p x ad cap h ha) ?_ (fun _ _ h => h.elim)
 rintro _ L' ⟨rfl, J, p', hIJ, hD⟩
 refine W.go 99 rfl ?_
 refine W.ret r rfl rfl ?_
 exact ⟨rfl, J, p', hIJ, hD⟩
def entB (out i : Nat) (x : Nat × List Int) (s : Fi × Nat) : Fi × Nat :=
 if x.1 = 0 ∧ out.testBit i = false then ((proofF s.1 (prfOf x.2)).1, if (proofF s.1 (prfOf x.2)).2 = 0 then s.2 ||| 2 ^ i else s.2) else s
def deskB (out : Nat) : Nat → List (Nat × List Int) → Fi × Nat → Fi × Nat
 | _, [], s => s
 | i, x :: l, s => deskB out (i + 1) l (entB out i x s)
theorem deskB_snoc (out : Nat) (x : Nat × List Int) : ∀ (i : Nat) (l : List (Nat × List Int)) (s : Fi × Nat), deskB out i (l ++ [x]) s = entB out (i + l.length) x (deskB out i l s)
 | _, [], _ => rfl
 | i, y :: l, s => by
  show deskB out (i + 1) (l ++ [x]) _ = _
  rw [deskB_snoc out x (i + 1) l]
  show _ = entB out (i + (l.length + 1)) x _
  rw [show i + 1 + l.length = i + (l.length + 1) by omega]
  rfl
theorem or_lt {x i : Nat} (hx : x < 256) (hi : i < 8) : x ||| 2 ^ i < 256 := Nat.or_lt_two_pow (n := 8) hx (Nat.pow_lt_pow_right (by decide) hi)
theorem entB_lt {out i : Nat} {x : Nat × List Int} {s : Fi × Nat} (hi : i < 8) (h : s.2 < 256) : (entB out i x s).2 < 256 := by
 unfold entB
 split
 ·simp only
  split
  ·exact or_lt h hi
  ·exact h
 ·exact h
theorem sl_zero {α : Type} {L : LH} {ad : Option Addr} {k c m : Nat} {enc : α → List Value} {l : List α} (h : SlAt L ad k enc l) : SlAt L (if c = 0 then ad else Option.map (fun a : Addr => a.add (0 * m)) ad) k enc l := by
 split
 ·exact h
 ·intro i x hx
  obtain ⟨a, rfl, h2⟩ := h i x hx
  refine ⟨a.add (0 * m), rfl, fun j v hv => ?_⟩
  rw [add_add, Nat.zero_mul, Nat.zero_add]
  exact h2 j v hv
theorem desk_t (bc : Nat) (k : Bk) (p : Kp) (xs : List (Nat × List Int)) (us : List AP) (ua : Option Addr) (uc n out : Nat) (L : LH) (hc : CkAt L bc k p xs us ua uc) (hl : us.length ≤ 6) (hn : n ≤ us.length) (ho : out < 256) (hv : ∀ u ∈ us, (u.v = 0 ∧ u.a.length = 3) ∨ u.v = 3 ∨ u.v = 4 ∨ u.v = 5 ∨ u.v = 6) :
  Sp X 95 [pt bc, .int .i64 n, .int .u8 out] L (fun v L' => ∃ bf J fp, v = .tuple #[deskV bf, .int .u8 (deskB out 0 (xs.take n) (⟨k.b, k.ro, k.s⟩, 0)).2] ∧ Le L J ∧ DkAt J L' bf (deskB out 0 (xs.take n) (⟨k.b, k.ro, k.s⟩, 0)).1 fp) := by
 refine Sp.enter (n := 55) Tryz.func95 rfl rfl rfl rfl fun C hX _ hL0 r => ?_
 refine W.go 99 rfl ?_
 refine W.vf rfl rfl rfl rfl (Vf.loadN rfl rfl rfl (cellsAt_mid (vs := bkL k p) hc.o rfl rfl)) ?_
 refine W.go 99 rfl ?_
 refine W.eff rfl rfl rfl (Ef.call rfl (newDesk_t k p L hc.k)) ?_
 rintro _ _ _ ⟨_, rfl, rfl, bf, rfl, hD⟩
 refine W.go 99 rfl ?_
 have hD0 : Le L ‹LH› := hD.le
 rename_i L1
 refine W.vf rfl rfl rfl rfl (Vf.load rfl rfl rfl (cell_of (hD.le _ _ hc.o) rfl)) ?_
 refine W.go 99 rfl ?_
 refine W.vf rfl rfl rfl rfl (Vf.slice2 (i := 0) (j := n) rfl Tryz.underlying151 size159 rfl rfl rfl rfl (Nat.zero_le _) (by have := hc.c; omega)) ?_
 have hs2 := sl_zero (c := uc) (m := 1) hc.s
 rw [Nat.sub_zero, Nat.sub_zero]
 generalize (if uc = 0 then ua else Option.map (fun a : Addr => a.add (0 * 1)) ua) = ta at hs2 ⊢
 refine W.go 99 rfl ?_
 have hxl : us.length = xs.length := by rw [← hc.x, List.length_map]
 have hst : ∀ i, i ≤ 6 → (deskB out 0 (xs.take i) (⟨k.b, k.ro, k.s⟩, 0)).2 < 256 := fun i => by
  induction i with
  | zero => exact fun _ => (by decide : 0 < 256)
  | succ i ih =>
   intro h
   by_cases e : i < xs.length
   ·rw [List.take_succ_eq_append_getElem e, deskB_snoc]
    refine entB_lt ?_ (ih (by omega))
    rw [List.length_take]; omega
   ·have := ih (by omega)
    rw [List.take_of_length_le (by omega)] at this
    rw [List.take_of_length_le (by omega)]
    exact this
 refine W.loop (fun m' E B L' => ∃ (i : Nat) (J : LH) (fp : Fp), m' = n - i ∧ i ≤ n ∧ Le L J ∧ DkAt J L' bf (deskB out 0 (xs.take i) (⟨k.b, k.ro, k.s⟩, 0)).1 fp ∧
   E = [(2, .v (.int .u8 out)), (6, .p 0 0), (8, .p 1 0), (9, .v (.int .u8 (deskB out 0 (xs.take i) (⟨k.b, k.ro, k.s⟩, 0)).2)), (24, .v (.slice ta n uc)), (25, .v (.int .i64 n)), (26, .v (.int .i64 i))] ∧
   B = [some ⟨ti118.z.cells.toList.map .v, 118⟩, some ⟨(deskV bf).cells.toList.map .v, 118⟩])
  ⟨0, L, ⟨p.b, p.r, p.s⟩, rfl, Nat.zero_le _, Le.refl _, hD, rfl, rfl⟩ (by exact ⟨rfl, rfl, rfl, rfl, rfl, rfl, rfl, trivial⟩) (by exact ⟨rfl, rfl, trivial⟩) ?_
 rintro _ _ _ L2 ⟨i, J, fp, rfl, hi, hLJ, hD, rfl, rfl⟩ again
 have hin := hst i (by omega)
 refine W.go 99 rfl ?_
 refine W.split rfl rfl rfl (fun c1 => W.go 99 rfl ?_) (fun c1 => W.go 99 rfl ?_)
 ·have hi : i < n := by simpa using c1
  have hiu : i < us.length := by omega
  have hix : i < xs.length := by omega
  obtain ⟨a, rfl⟩ := hs2.addr hiu
  have hu := List.getElem?_eq_getElem hiu
  have hvu := hv _ (List.getElem_mem hiu)
  have hau := hc.a _ (List.getElem_mem hiu)
  have hxu : xs[i] = us[i].x := by
   have := congrArg (fun l => l[i]?) hc.x
   simp only [List.getElem?_map, hu, Option.map_some, List.getElem?_eq_getElem hix] at this
   exact (Option.some.inj this).symm
  have htk : xs.take (i + 1) = xs.take i ++ [xs[i]] := List.take_succ_eq_append_getElem hix
  have hsn := deskB_snoc out xs[i] 0 (xs.take i) (⟨k.b, k.ro, k.s⟩, 0)
  rw [← htk, List.length_take, Nat.min_eq_left (by omega), Nat.zero_add] at hsn
  rw [hxu] at hsn
  generalize us[i] = u at hu hvu hau hsn
  obtain ⟨v, a', ad, cap⟩ := u
  have hcell : L2.cell? (a.add i) = some (actV v ad cap a') := by
   have := (hs2.le (hLJ.trans hD.le)).get hu (j := 0) (v := actV v ad cap a') rfl
   simpa using this
  have hJL := hD.le
  refine W.vf rfl rfl rfl rfl (Vf.idx1 rfl rfl rfl rfl rfl rfl rfl (hi)) ?_
  refine W.go 99 rfl ?_
  rcases hvu with ⟨h0, h3⟩ | h0 | h0 | h0 | h0
  ·simp only at h0 h3
   subst h0
   refine W.vf rfl rfl rfl rfl (Vf.load rfl rfl rfl ((show _ = some (Value.iface 252 (.agg #[.int .i64 0, .slice ad a'.length cap])) from hcell))) ?_
   refine W.go 99 rfl ?_
   refine W.split rfl rfl rfl (fun c => ?_) (fun c => absurd c (by decide))
   refine W.go 99 rfl ?_
   refine W.eff rfl rfl rfl (Ef.call rfl (hasL_t out i _ ho (by omega))) ?_
   rintro _ _ _ ⟨_, rfl, rfl, rfl, rfl⟩
   refine W.go 99 rfl ?_
   refine W.split rfl rfl rfl (fun c2 => ?_) (fun c2 => ?_)
   ·have c2' : out.testBit i = false := by simpa using c2
    have hs' : deskB out 0 (xs.take (i + 1)) (⟨k.b, k.ro, k.s⟩, 0) = ((proofF (deskB out 0 (xs.take i) (⟨k.b, k.ro, k.s⟩, 0)).1 (prfOf a')).1, if (proofF (deskB out 0 (xs.take i) (⟨k.b, k.ro, k.s⟩, 0)).1 (prfOf a')).2 = 0 then (deskB out 0 (xs.take i) (⟨k.b, k.ro, k.s⟩, 0)).2 ||| 2 ^ i else (deskB out 0 (xs.take i) (⟨k.b, k.ro, k.s⟩, 0)).2) := by
     rw [hsn]; exact if_pos ⟨rfl, c2'⟩
    refine W.go 99 rfl ?_
    refine W.eff rfl rfl rfl (Ef.call rfl (enter0_t J L2 bf _ fp a' ad cap hD (hau.le hLJ) h3)) ?_
    rintro _ _ _ ⟨_, rfl, rfl, rfl, J', p', hJJ, hD'⟩
    rename_i L3
    have ag := again _ _ _ L3 (by omega) ⟨i + 1, J', p', rfl, hi, hLJ.trans hJJ, by rw [hs']; exact hD', rfl, rfl⟩
    rw [hs'] at ag
    simp only at ag
    refine W.go 99 rfl ?_
    refine W.split rfl rfl rfl (fun c3 => ?_) (fun c3 => ?_)
    ·rw [if_pos (by simpa using c3)] at ag
     refine W.go 99 rfl ?_
     refine W.eff rfl rfl rfl (Ef.call rfl (withL_t _ i _ hin (by omega))) ?_
     rintro _ _ _ ⟨_, rfl, rfl, rfl, rfl⟩
     refine W.go 99 rfl ?_
     exact W.again ag (by exact ⟨rfl, rfl, rfl, rfl, rfl, rfl, congrArg some (inc64 (by omega)), trivial⟩) (by exact ⟨rfl, rfl, trivial⟩)
    ·rw [if_neg (by simpa using c3)] at ag
     refine W.go 99 rfl ?_
     exact W.again ag (by exact ⟨rfl, rfl, rfl, rfl, rfl, rfl, congrArg some (inc64 (by omega)), trivial⟩) (by exact ⟨rfl, rfl, trivial⟩)
   ·have c2' : ¬ out.testBit i = false := by simpa using c2
    have hs' : deskB out 0 (xs.take (i + 1)) (⟨k.b, k.ro, k.s⟩, 0) = deskB out 0 (xs.take i) (⟨k.b, k.ro, k.s⟩, 0) := by
     rw [hsn]; exact if_neg (fun h => c2' h.2)
    have ag := again _ _ _ L2 (by omega) ⟨i + 1, J, fp, rfl, hi, hLJ, by rw [hs']; exact hD, rfl, rfl⟩
    rw [hs'] at ag
    refine W.go 99 rfl ?_
    exact W.again ag (by exact ⟨rfl, rfl, rfl, rfl, rfl, rfl, congrArg some (inc64 (by omega)), trivial⟩) (by exact ⟨rfl, rfl, trivial⟩)
  ·simp only at h0
   subst h0
   refine W.vf rfl rfl rfl rfl (Vf.load rfl rfl rfl ((show _ = some (Value.iface 209 (.agg #[.int .i64 (a'.getD 0 0)])) from hcell))) ?_
   refine W.go 99 rfl ?_
   have hs' : deskB out 0 (xs.take (i + 1)) (⟨k.b, k.ro, k.s⟩, 0) = deskB out 0 (xs.take i) (⟨k.b, k.ro, k.s⟩, 0) := by
    rw [hsn]; exact if_neg (fun h => absurd (show 3 = 0 from h.1) (by decide))
   have ag := again _ _ _ L2 (by omega) ⟨i + 1, J, fp, rfl, hi, hLJ, by rw [hs']; exact hD, rfl, rfl⟩
   rw [hs'] at ag
   refine W.split rfl rfl rfl (fun c => absurd c (by decide)) (fun c => ?_)
   refine W.go 99 rfl ?_
   exact W.again ag (by exact ⟨rfl, rfl, rfl, rfl, rfl, rfl, congrArg some (inc64 (by omega)), trivial⟩) (by exact ⟨rfl, rfl, trivial⟩)
  ·simp only at h0
   subst h0
   refine W.vf rfl rfl rfl rfl (Vf.load rfl rfl rfl ((show _ = some (Value.iface 153 (.agg #[.int .i64 (a'.getD 0 0)])) from hcell))) ?_
   refine W.go 99 rfl ?_
   have hs' : deskB out 0 (xs.take (i + 1)) (⟨k.b, k.ro, k.s⟩, 0) = deskB out 0 (xs.take i) (⟨k.b, k.ro, k.s⟩, 0) := by
    rw [hsn]; exact if_neg (fun h => absurd (show 4 = 0 from h.1) (by decide))
   have ag := again _ _ _ L2 (by omega) ⟨i + 1, J, fp, rfl, hi, hLJ, by rw [hs']; exact hD, rfl, rfl⟩
   rw [hs'] at ag
   refine W.split rfl rfl rfl (fun c => absurd c (by decide)) (fun c => ?_)
   refine W.go 99 rfl ?_
   exact W.again ag (by exact ⟨rfl, rfl, rfl, rfl, rfl, rfl, congrArg some (inc64 (by omega)), trivial⟩) (by exact ⟨rfl, rfl, trivial⟩)
  ·simp only at h0
   subst h0
   refine W.vf rfl rfl rfl rfl (Vf.load rfl rfl rfl ((show _ = some (Value.iface 155 (.agg #[.int .i64 (a'.getD 0 0)])) from hcell))) ?_
   refine W.go 99 rfl ?_
   have hs' : deskB out 0 (xs.take (i + 1)) (⟨k.b, k.ro, k.s⟩, 0) = deskB out 0 (xs.take i) (⟨k.b, k.ro, k.s⟩, 0) := by
    rw [hsn]; exact if_neg (fun h => absurd (show 5 = 0 from h.1) (by decide))
   have ag := again _ _ _ L2 (by omega) ⟨i + 1, J, fp, rfl, hi, hLJ, by rw [hs']; exact hD, rfl, rfl⟩
   rw [hs'] at ag
   refine W.split rfl rfl rfl (fun c => absurd c (by decide)) (fun c => ?_)
   refine W.go 99 rfl ?_
   exact W.again ag (by exact ⟨rfl, rfl, rfl, rfl, rfl, rfl, congrArg some (inc64 (by omega)), trivial⟩) (by exact ⟨rfl, rfl, trivial⟩)
  ·simp only at h0
   subst h0
   refine W.vf rfl rfl rfl rfl (Vf.load rfl rfl rfl ((show _ = some (Value.iface 157 (.agg #[])) from hcell))) ?_
   refine W.go 99 rfl ?_
   have hs' : deskB out 0 (xs.take (i + 1)) (⟨k.b, k.ro, k.s⟩, 0) = deskB out 0 (xs.take i) (⟨k.b, k.ro, k.s⟩, 0) := by
    rw [hsn]; exact if_neg (fun h => absurd (show 6 = 0 from h.1) (by decide))
   have ag := again _ _ _ L2 (by omega) ⟨i + 1, J, fp, rfl, hi, hLJ, by rw [hs']; exact hD, rfl, rfl⟩
   rw [hs'] at ag
   refine W.split rfl rfl rfl (fun c => absurd c (by decide)) (fun c => ?_)
   refine W.go 99 rfl ?_
   exact W.again ag (by exact ⟨rfl, rfl, rfl, rfl, rfl, rfl, congrArg some (inc64 (by omega)), trivial⟩) (by exact ⟨rfl, rfl, trivial⟩)
 ·have hie : i = n := by simp at c1; omega
  subst hie
  refine W.ret r rfl rfl ?_
  exact ⟨bf, J, fp, rfl, hLJ, hD⟩
end Go.Mz


set_option maxRecDepth 100000
namespace Go.Mz
open Go.Conc
section
variable {P : Program} {L : LH} {H : Value → LH → Prop}
theorem wpS_shape {r : Nat} {c : Array Value} {e : TypeId} {fz : Nat × Nat} {wr : Bool} {Q : Option (TypeId × Nat) → LH → Prop} (h : L r = some (.cells c e fz, wr)) : wpS P Q H (shape r) L = Q (some (e, c.size)) L := by
 unfold shape
 simp only [wpS, h]
theorem wpS_viewAt {r : Nat} {c : Array Value} {e : TypeId} {fz : Nat × Nat} {wr : Bool} {Q : Option (Addr × TypeId) → LH → Prop} (h : L r = some (.cells c e fz, wr)) : wpS P Q H (viewAt r) L = Q none L := by
 unfold viewAt
 rw [wpS_bind, wpS_shape h]
 rfl
theorem wpS_cellsIn {r : Nat} {c : Array Value} {e : TypeId} {fz : Nat × Nat} {wr : Bool} {Q : Option Nat → LH → Prop} (h : L r = some (.cells c e fz, wr)) : wpS P Q H (cellsIn r) L = Q (some c.size) L := by
 unfold cellsIn
 rw [wpS_bind, wpS_shape h]
 rfl
theorem wpS_seenAt {a : Addr} {c : Array Value} {e : TypeId} {fz : Nat × Nat} {wr : Bool} {Q : Addr → LH → Prop} (h : L a.block = some (.cells c e fz, wr)) : wpS P Q H (Conv.seenAt a) L = Q a L := by
 unfold Conv.seenAt
 rw [wpS_bind, wpS_viewAt h]
 rfl
end
section
variable {P : Program} {E : Look} {B : List (Option Bx)} {L : LH}
theorem Vf.toUns {s d t : TypeId} {x : Operand} {b off m : Nat} {c : Array Value} {e : TypeId} {fz : Nat × Nat} {wr : Bool} (hx : evS E x = some (.v (.pointer (some ⟨b, off, none⟩)))) (h1 : P.underlying s = some (.pointer t)) (h2 : P.underlying d = some .unsafePointer) (hn : (P.info? t).map (·.size) = some (m + 1)) (hb : L b = some (.cells c e fz, wr)) (ho : off < c.size) : Vf P (.convert s d x) E B L (.v (.pointer (some ⟨b, off, none⟩))) := fun T R β hE _ hL => by
 have ex := (Option.some.inj (hE.val hx)).symm
 refine ⟨_, rfl, fun ty dst pos af gd Q H hq => ?_⟩
 have hR := hL _ _ hb
 simp only [execOp, ex]
 rw [wpS_bind]
 unfold convert
 rw [wpS_bind, wpS_underlying h1, wpS_bind, wpS_underlying h2]
 simp only
 unfold Conv.unsafePointer
 rw [wpS_bind, wpS_underlying h1, wpS_bind, wpS_underlying h2]
 simp only
 rw [wpS_bind, wpS_seenAt (a := ⟨b, off, none⟩) hR, wpS_bind, wpS_cellsIn (r := b) hR]
 simp only [wpS_bind, wpS_pure]
 rw [wpS_sizeOf hn]
 have h3 : decide (off ≥ c.size) = false := decide_eq_false (by omega)
 simp only [h3, Bool.false_and, Nat.succ_ne_zero, decide_false, Bool.false_or, Bool.false_eq_true, if_false]
 exact hq
theorem Vf.ofUns {s d t : TypeId} {x : Operand} {b off m : Nat} {c : Array Value} {e : TypeId} {fz : Nat × Nat} {wr : Bool} (hx : evS E x = some (.v (.pointer (some ⟨b, off, none⟩)))) (h1 : P.underlying s = some .unsafePointer) (h2 : P.underlying d = some (.pointer t)) (hn : (P.info? t).map (·.size) = some (m + 1)) (hb : L b = some (.cells c e fz, wr))
  (ho : liesAt P P.depth e (c.size / P.cellsOf e) off t 1 = true) : Vf P (.convert s d x) E B L (.v (.pointer (some ⟨b, off, none⟩))) := fun T R β hE _ hL => by
 have ex := (Option.some.inj (hE.val hx)).symm
 refine ⟨_, rfl, fun ty dst pos af gd Q H hq => ?_⟩
 have hR := hL _ _ hb
 simp only [execOp, ex]
 rw [wpS_bind]
 unfold convert
 rw [wpS_bind, wpS_underlying h1, wpS_bind, wpS_underlying h2]
 simp only
 unfold Conv.unsafePointer
 rw [wpS_bind, wpS_underlying h1, wpS_bind, wpS_underlying h2]
 simp only
 rw [wpS_bind, wpS_seenAt (a := ⟨b, off, none⟩) hR, wpS_bind, wpS_sizeOf hn]
 simp only [Nat.succ_ne_zero, decide_false, Bool.false_or]
 rw [wpS_bind]
 unfold variablesAt
 simp only [wpS_bind]
 rw [wpS_program, wpS_shape (r := b) hR]
 simp only [wpS_bind, wpS_pure, ho, Bool.or_true, if_true]
 exact hq
theorem Vf.sliceData {t : TypeId} {x : Operand} {a : Addr} {len cap : Nat} (hx : evS E x = some (.v (.slice (some a) len cap))) (hc : cap ≠ 0) : Vf P (.call { callee := .builtin .unsafeSliceData, args := #[x], argTypes := #[t] }) E B L (.v (.pointer (some a))) := fun T R β hE _ hL => by
 have ex := (Option.some.inj (hE.val hx)).symm
 refine ⟨_, rfl, fun ty dst pos af gd Q H hq => ?_⟩
 simp only [execOp, resolve, List.map_toArray, List.map_cons, List.map_nil, ex, pure, Sem.bind, bind, invoke, builtin]
 show wpS P _ _ (Builtin.unsafeSliceData_ _ _ _ >>= fun u => pure (Next.value u)) R
 rw [wpS_bind]
 show wpS P _ _ (if cap ≠ 0 then pure (Value.pointer (some a)) else _) R
 rw [if_pos hc, wpS_pure]
 exact hq
theorem wpS_loadBytes {H : Value → LH → Prop} {Q : ByteArray → LH → Prop} {b : Nat} : ∀ (l : List UInt8) (off : Nat) (acc : List UInt8), (∀ (i : Nat) (x : UInt8), l[i]? = some x → L.cell? ⟨b, off + i, none⟩ = some (byteV x)) → wpS P Q H (loadBytes ⟨b, off, none⟩ ⟨⟨acc⟩⟩ l.length) L = Q ⟨⟨acc ++ l⟩⟩ L
 | [], _, acc, _ => by
  rw [List.append_nil]; rfl
 | x :: l, off, acc, h => by
  have h0 := h 0 x rfl
  rw [Nat.add_zero] at h0
  have ih := wpS_loadBytes (Q := Q) (H := H) l (off + 1) (acc ++ [x]) fun i y hy => by
   have := h (i + 1) y hy
   rw [show off + (i + 1) = off + 1 + i by omega] at this
   exact this
  rw [List.append_assoc] at ih
  show wpS P Q H (loadBytes ⟨b, off, none⟩ ⟨⟨acc⟩⟩ (l.length + 1)) L = _
  unfold loadBytes
  rw [wpS_bind, wpS_load h0]
  have hp : (ByteArray.mk ⟨acc⟩).push ((x.toNat : Int).toNat.toUInt8) = ⟨⟨acc ++ [x]⟩⟩ := by
   show ByteArray.mk ((Array.mk acc).push _) = _
   simp
  show wpS P Q H (loadBytes ((⟨b, off, none⟩ : Addr).add 1) ((ByteArray.mk ⟨acc⟩).push ((x.toNat : Int).toNat.toUInt8)) l.length) L = _
  rw [add_of, hp]
  exact ih
theorem string_eq {t tz ty : TypeId} {b n : Nat} (h0 : 0 < n) (h9 : n ≤ 9223372036854775807) : Builtin.unsafeString_ #[t, tz] ty #[.pointer (some ⟨b, 0, none⟩), .int .i64 (n : Int)] = (elemOf t >>= fun e' => variablesAt ⟨b, 0, none⟩ e' n >>= fun ok => if ok = true then (loadBytes ⟨b, 0, none⟩ .empty n >>= fun s => freeze ⟨b, 0, none⟩ n >>= fun _ => pure (Value.string s)) else unsupported (.unsafePointer "String: not so many bytes at ptr")) := by
 have h1 : ¬ (n : Int) < 0 := by omega
 have h2 : ¬ (n : Int) > IntKind.i64.max := by show ¬ (n : Int) > 9223372036854775807; omega
 have h3 : ¬ (n : Int) = 0 := by omega
 show (asInt (.int .i64 (n : Int)) >>= _) = _
 have e0 : (#[t, tz] : Array TypeId)[0]? = some t := rfl
 simp only [asInt, asIntOf, bind, Sem.bind, pure, e0, h1, h2, h3, if_false, Int.toNat_natCast]
theorem Ef.string {C : Cx P} {dst : Option Tmp} {ty : TypeId} {pos : String} {af : Array Edge} {gd : Option (Nat × Bool)} {t te tz e : TypeId} {x y : Operand} {b : Nat} {c : Array Value} {fz : Nat × Nat} {l : List UInt8} (hx : evS E x = some (.v (.pointer (some ⟨b, 0, none⟩)))) (hy : evS E y = some (.v (.int .i64 l.length))) (h0 : 0 < l.length) (h9 : l.length ≤ 9223372036854775807)
  (hu : P.underlying t = some (.pointer te)) (hb : L b = some (.cells c e fz, true)) (hl : liesAt P P.depth e (c.size / P.cellsOf e) 0 te l.length = true) (hc : ∀ (i : Nat) (z : UInt8), l[i]? = some z → c[i]? = some (byteV z)) :
  Ef C ⟨dst, .call { callee := .builtin .unsafeString, args := #[x, y], argTypes := #[t, tz] }, ty, pos, af, gd⟩ E B L (fun sv B' L' => sv = .v (str l) ∧ B' = B ∧ L' = L.put b (.cells c e (frz fz ⟨b, 0, none⟩ l.length))) := by
 intro T R β hE hH
 have ex := (Option.some.inj (hE.val hx)).symm
 have ey := (Option.some.inj (hE.val hy)).symm
 have hR := hH.le _ _ hb
 refine ⟨rfl, ?_⟩
 simp only [execOp, resolve, List.map_toArray, List.map_cons, List.map_nil, ex, ey, pure, Sem.bind, bind, invoke, builtin]
 show wpS P _ _ (Builtin.unsafeString_ _ _ _ >>= fun u => pure (Next.value u)) R
 rw [wpS_bind, string_eq h0 h9]
 unfold elemOf variablesAt freeze
 simp only [wpS_bind]
 rw [wpS_underlying hu]
 simp only [wpS_pure]
 rw [wpS_program, wpS_shape (r := b) hR]
 simp only [wpS_pure, wpS_bind, hl, if_true]
 have hld := fun Q H => wpS_loadBytes (P := P) (L := R) (Q := Q) (H := H) (b := b) l 0 [] fun i z hz => cell_of hR (by rw [Nat.zero_add]; exact hc i z hz)
 show wpS P _ _ (loadBytes ⟨b, 0, none⟩ ⟨⟨[]⟩⟩ l.length) R
 rw [hld]
 show wpS P _ _ (.freeze ⟨b, 0, none⟩ l.length (.pure ())) R
 simp only [wpS, hR]
 exact ⟨.v (str l), B, _, ⟨rfl, rfl, rfl⟩, rfl, hH.setF hb (put_same _ _ _) (fun b' hb' => put_ne _ _ hb'), fun _ _ => rfl⟩
end
section
variable {P : Program} {E : Look} {B : List (Option Bx)} {L : LH}
theorem Vf.samePtr {t t2 e : TypeId} {x y : Operand} {a : Addr} {op : BinOp} {m : Nat} (hx : evS E x = some (.v (.pointer (some a)))) (hy : evS E y = some (.v (.pointer (some a)))) (hu : P.underlying t = some (.pointer e)) (hn : (P.info? e).map (·.size) = some (m + 1)) (ho : op = .eql ∨ op = .neq) : Vf P (.binOp op t x y t2) E B L (.v (.bool (eqC op true))) := fun T R β hE _ hL => by
 have ex := (Option.some.inj (hE.val hx)).symm
 have ey := (Option.some.inj (hE.val hy)).symm
 have hs : ∀ (Q : Bool → LH → Prop) (H : Value → LH → Prop) (n : Nat), Q true R → wpS P Q H (Op.equalIn (n + 1) t (.pointer (some a)) (.pointer (some a))) R := fun Q H n hq => by
  rw [Op.equalIn, wpS_bind, wpS_underlying hu]
  show wpS P Q H (sizeOf e >>= _) R
  rw [wpS_bind, wpS_sizeOf hn]
  show wpS P Q H (if m + 1 ≠ 0 then sameAddr a a else _) R
  rw [if_pos (Nat.succ_ne_zero m)]
  unfold sameAddr
  rw [beq_self_eq_true, if_pos rfl, beq_self_eq_true]
  exact hq
 refine ⟨_, rfl, ?_⟩
 rcases ho with rfl | rfl
 ·exact fun ty => Val.eqB ex ey (fun _ _ hq => by exact hq) (fun n _ _ hq => hs _ _ _ hq) rfl
 ·exact fun ty => Val.eqB ex ey (fun _ _ hq => by exact hq) (fun n _ _ hq => hs _ _ _ hq) rfl
end
theorem Vf.quo {P : Program} {E : Look} {B : List (Option Bx)} {L : LH} {t t2 : TypeId} {x y : Operand} {k : IntKind} {a b : Int} (hx : evS E x = some (.v (.int k a))) (hy : evS E y = some (.v (.int k b))) (hb : b ≠ 0) : Vf P (.binOp .quo t x y t2) E B L (.v (.int k (k.wrap (a.tdiv b)))) := fun T R β hE _ _ =>
 ⟨_, rfl, fun ty => Val.bin ((Option.some.inj (hE.val hx)).symm) ((Option.some.inj (hE.val hy)).symm) (if_neg hb)⟩
theorem liesAt_row {P : Program} {e : TypeId} {n m off : Nat} (h1 : P.cellsOf e = 1) (hm : off + n ≤ m) (hd : 0 < P.depth) : liesAt P P.depth e (m / P.cellsOf e) off e n = true := by
 obtain ⟨d, hd⟩ : ∃ d, P.depth = d + 1 := ⟨P.depth - 1, by omega⟩
 have hs : sameLayout P P.depth e e = true := by
  rw [hd]; unfold sameLayout; rw [beq_self_eq_true, Bool.true_or]
 rw [h1, Nat.div_one]
 rw [hd] at hs ⊢
 unfold liesAt
 rw [hd]
 unfold rowAt
 simp only [h1, Nat.div_one, Nat.mod_one, hs, beq_self_eq_true, Bool.true_and, Bool.and_true]
 rw [decide_eq_true hm]
 simp
end Go.Mz

