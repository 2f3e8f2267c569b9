/- Lemmas on which the claim leans. -/
import Derived.Test.YtjhpkghkgaekcaaGreatDoorMzLh
import Derived.KernelRfl
set_option maxRecDepth 100000
namespace Go.Mz
open Go.Conc Go.Proofs
variable {X : Logic Tryz.prog}
theorem Grow.at2 {α : Type} {I L : LH} {k n cap : Nat} {e : TypeId} {enc : α → List Value} {ad : Option Addr} {l : List α} (h : Grow I k e enc L (.slice ad n cap) l) (hk : ∀ x, (enc x).length = k) (hn : l.length = n) : SlAt L ad k enc l := by
 subst hn
 exact (h.at hk).2
theorem boiling_t (L : LH) : Sp X 30 [] L (fun v L' => ∃ p, v = blA boilK p ∧ Le L L' ∧ BlAt L' boilK p ∧ p.c4 = 1) := by
 refine Sp.enter (n := 13) Tryz.func30 rfl rfl rfl rfl fun C hX _ hL0 r => ?_
 refine W.goP [12] 99 rfl ?_
 refine W.pub 3 (.inr ⟨_, _, _, rfl⟩) rfl rfl ?_
 intro b0 h0 _
 refine W.pub 4 (.inr ⟨_, _, _, rfl⟩) rfl rfl ?_
 intro b1 h1 _
 refine W.pub 5 (.inr ⟨_, _, _, rfl⟩) rfl rfl ?_
 intro b2 h2 _
 refine W.pub 9 (.inr ⟨_, _, _, rfl⟩) rfl rfl ?_
 intro b3 h3 _
 refine W.pub 11 (.inr ⟨_, _, _, rfl⟩) rfl rfl ?_
 intro b4 h4 _
 have s0 : SlAt _ (some ⟨b0, 0, none⟩) 2 encSp [⟨4, 6⟩, ⟨8, 8⟩] := sl_block (L := L.put b0 (.cells ([⟨4, 6⟩, ⟨8, 8⟩].flatMap encSp).toArray 88)) encSp_len (put_same _ _ _)
 have s1 := sl_block (l := ([1, 2] : List Int)) (e := 3) encI_len (put_same (L.put b0 (.cells ([⟨4, 6⟩, ⟨8, 8⟩].flatMap encSp).toArray 88)) b1 (.cells (([1, 2] : List Int).flatMap encI).toArray 3))
 have s2 := sl_block (l := ([8, 12, 16] : List Int)) (e := 3) encI_len (put_same ((L.put b0 (.cells ([⟨4, 6⟩, ⟨8, 8⟩].flatMap encSp).toArray 88)).put b1 (.cells (([1, 2] : List Int).flatMap encI).toArray 3)) b2 (.cells (([8, 12, 16] : List Int).flatMap encI).toArray 3))
 have s3 := sl_block (l := ([⟨1, 2⟩, ⟨2, 2⟩, ⟨1, 3⟩] : List Spn)) (e := 88) encSp_len (put_same (((L.put b0 (.cells ([⟨4, 6⟩, ⟨8, 8⟩].flatMap encSp).toArray 88)).put b1 (.cells (([1, 2] : List Int).flatMap encI).toArray 3)).put b2 (.cells (([8, 12, 16] : List Int).flatMap encI).toArray 3)) b3 (.cells (([⟨1, 2⟩, ⟨2, 2⟩, ⟨1, 3⟩] : List Spn).flatMap encSp).toArray 88))
 have s4 := sl_block (l := ([⟨0, 2, 1⟩] : List Prf)) (e := 35) encPr_len (put_same ((((L.put b0 (.cells ([⟨4, 6⟩, ⟨8, 8⟩].flatMap encSp).toArray 88)).put b1 (.cells (([1, 2] : List Int).flatMap encI).toArray 3)).put b2 (.cells (([8, 12, 16] : List Int).flatMap encI).toArray 3)).put b3 (.cells (([⟨1, 2⟩, ⟨2, 2⟩, ⟨1, 3⟩] : List Spn).flatMap encSp).toArray 88)) b4 (.cells (([⟨0, 2, 1⟩] : List Prf).flatMap encPr).toArray 35))
 have l0 := Le.put h0 (.cells ([⟨4, 6⟩, ⟨8, 8⟩].flatMap encSp).toArray 88)
 have l1 := Le.put h1 (.cells (([1, 2] : List Int).flatMap encI).toArray 3)
 have l2 := Le.put h2 (.cells (([8, 12, 16] : List Int).flatMap encI).toArray 3)
 have l3 := Le.put h3 (.cells (([⟨1, 2⟩, ⟨2, 2⟩, ⟨1, 3⟩] : List Spn).flatMap encSp).toArray 88)
 have l4 := Le.put h4 (.cells (([⟨0, 2, 1⟩] : List Prf).flatMap encPr).toArray 35)
 refine W.go 99 rfl ?_
 refine W.ret r rfl rfl ?_
 exact ⟨⟨some ⟨b0, 0, none⟩, some ⟨b1, 0, none⟩, some ⟨b2, 0, none⟩, some ⟨b3, 0, none⟩, some ⟨b4, 0, none⟩, 2, 2, 3, 3, 1⟩, rfl, l0.trans (l1.trans (l2.trans (l3.trans l4))), ⟨s0.le (l1.trans (l2.trans (l3.trans l4))), s1.le (l2.trans (l3.trans l4)), s2.le (l3.trans l4), s3.le l4, s4, by decide, by decide, by decide, by decide, by decide, Nat.le_refl _⟩, rfl⟩
theorem colours_t (L : LH) : Sp X 18 [] L (fun v L' => ∃ p, v = roA rowK p ∧ Le L L' ∧ RoAt L' rowK p) := by
 refine Sp.enter (n := 19) Tryz.func18 rfl rfl rfl rfl fun C hX _ hL0 r => ?_
 refine W.goP [1] 99 rfl ?_
 refine W.pub 8 (.inr ⟨_, _, _, rfl⟩) rfl rfl ?_
 intro b0 h0 _
 refine W.goP [18] 99 rfl ?_
 refine W.pub 10 (.inr ⟨_, _, _, rfl⟩) rfl rfl ?_
 intro b1 h1 _
 refine W.pub 11 (.inr ⟨_, _, _, rfl⟩) rfl rfl ?_
 intro b2 h2 _
 refine W.pub 14 (.inr ⟨_, _, _, rfl⟩) rfl rfl ?_
 intro b3 h3 _
 refine W.pub 17 (.inr ⟨_, _, _, rfl⟩) rfl rfl ?_
 intro b4 h4 _
 have s0 := sl_block (l := ([⟨0, 20, ⟨0, 1⟩⟩, ⟨0, 30, ⟨1, 2⟩⟩, ⟨5, 12, ⟨0, 0⟩⟩, ⟨5, 18, ⟨0, 0⟩⟩] : List Gl)) (e := 90) encGa_len (put_same (L) b0 (.cells ((([⟨0, 20, ⟨0, 1⟩⟩, ⟨0, 30, ⟨1, 2⟩⟩, ⟨5, 12, ⟨0, 0⟩⟩, ⟨5, 18, ⟨0, 0⟩⟩] : List Gl)).flatMap encGa).toArray 90))
 have l0 := Le.put h0 (.cells ((([⟨0, 20, ⟨0, 1⟩⟩, ⟨0, 30, ⟨1, 2⟩⟩, ⟨5, 12, ⟨0, 0⟩⟩, ⟨5, 18, ⟨0, 0⟩⟩] : List Gl)).flatMap encGa).toArray 90)
 have s1 := sl_block (l := ([10, 18] : List Int)) (e := 3) encI_len (put_same ((L).put b0 (.cells ((([⟨0, 20, ⟨0, 1⟩⟩, ⟨0, 30, ⟨1, 2⟩⟩, ⟨5, 12, ⟨0, 0⟩⟩, ⟨5, 18, ⟨0, 0⟩⟩] : List Gl)).flatMap encGa).toArray 90)) b1 (.cells ((([10, 18] : List Int)).flatMap encI).toArray 3))
 have l1 := Le.put h1 (.cells ((([10, 18] : List Int)).flatMap encI).toArray 3)
 have s2 := sl_block (l := ([3, 5, 8] : List Int)) (e := 3) encI_len (put_same (((L).put b0 (.cells ((([⟨0, 20, ⟨0, 1⟩⟩, ⟨0, 30, ⟨1, 2⟩⟩, ⟨5, 12, ⟨0, 0⟩⟩, ⟨5, 18, ⟨0, 0⟩⟩] : List Gl)).flatMap encGa).toArray 90)).put b1 (.cells ((([10, 18] : List Int)).flatMap encI).toArray 3)) b2 (.cells ((([3, 5, 8] : List Int)).flatMap encI).toArray 3))
 have l2 := Le.put h2 (.cells ((([3, 5, 8] : List Int)).flatMap encI).toArray 3)
 have s3 := sl_block (l := ([⟨8, 24⟩, ⟨5, 15⟩] : List Spn)) (e := 88) encSp_len (put_same ((((L).put b0 (.cells ((([⟨0, 20, ⟨0, 1⟩⟩, ⟨0, 30, ⟨1, 2⟩⟩, ⟨5, 12, ⟨0, 0⟩⟩, ⟨5, 18, ⟨0, 0⟩⟩] : List Gl)).flatMap encGa).toArray 90)).put b1 (.cells ((([10, 18] : List Int)).flatMap encI).toArray 3)).put b2 (.cells ((([3, 5, 8] : List Int)).flatMap encI).toArray 3)) b3 (.cells ((([⟨8, 24⟩, ⟨5, 15⟩] : List Spn)).flatMap encSp).toArray 88))
 have l3 := Le.put h3 (.cells ((([⟨8, 24⟩, ⟨5, 15⟩] : List Spn)).flatMap encSp).toArray 88)
 have s4 := sl_block (l := ([⟨0, 0, 4, 2⟩, ⟨0, 2, 5, 0⟩] : List Sg)) (e := 126) encSg_len (put_same (((((L).put b0 (.cells ((([⟨0, 20, ⟨0, 1⟩⟩, ⟨0, 30, ⟨1, 2⟩⟩, ⟨5, 12, ⟨0, 0⟩⟩, ⟨5, 18, ⟨0, 0⟩⟩] : List Gl)).flatMap encGa).toArray 90)).put b1 (.cells ((([10, 18] : List Int)).flatMap encI).toArray 3)).put b2 (.cells ((([3, 5, 8] : List Int)).flatMap encI).toArray 3)).put b3 (.cells ((([⟨8, 24⟩, ⟨5, 15⟩] : List Spn)).flatMap encSp).toArray 88)) b4 (.cells ((([⟨0, 0, 4, 2⟩, ⟨0, 2, 5, 0⟩] : List Sg)).flatMap encSg).toArray 126))
 have l4 := Le.put h4 (.cells ((([⟨0, 0, 4, 2⟩, ⟨0, 2, 5, 0⟩] : List Sg)).flatMap encSg).toArray 126)
 refine W.go 99 rfl ?_
 refine W.ret r rfl rfl ?_
 exact ⟨⟨some ⟨b0, 0, none⟩, some ⟨b1, 0, none⟩, some ⟨b2, 0, none⟩, some ⟨b3, 0, none⟩, some ⟨b4, 0, none⟩, 4, 2, 3, 2, 2⟩, rfl, l0.trans (l1.trans (l2.trans (l3.trans (l4)))), s0.le (l1.trans (l2.trans (l3.trans (l4)))), s1.le (l2.trans (l3.trans (l4))), s2.le (l3.trans (l4)), s3.le l4, s4, by decide, by decide, by decide, by decide, by decide, Nat.le_refl _⟩
def sawK : Sw := ⟨[[5, 3, 2], [4, 2]], [2, 2], 1, []⟩
theorem loaves_t (L : LH) : Sp X 19 [.slice none 0 0] L (fun v L' => ∃ p, v = swA sawK p ∧ Le L L' ∧ SwAt L' sawK p) := by
 refine Sp.enter (n := 9) Tryz.func19 rfl rfl rfl rfl fun C hX _ hL0 r => ?_
 refine W.goP [5] 99 rfl ?_
 refine W.pub 3 (.inr ⟨_, _, _, rfl⟩) rfl rfl ?_
 intro b0 h0 _
 refine W.pub 4 (.inr ⟨_, _, _, rfl⟩) rfl rfl ?_
 intro b1 h1 _
 refine W.goP [8] 99 rfl ?_
 refine W.pub 5 (.inr ⟨_, _, _, rfl⟩) rfl rfl ?_
 intro b2 h2 _
 refine W.pub 6 (.inr ⟨_, _, _, rfl⟩) rfl rfl ?_
 intro b3 h3 _
 have s0 := sl_block (l := ([5, 3, 2] : List Int)) (e := 3) encI_len (put_same (L) b0 (.cells ((([5, 3, 2] : List Int)).flatMap encI).toArray 3))
 have l0 := Le.put h0 (.cells ((([5, 3, 2] : List Int)).flatMap encI).toArray 3)
 have s1 := sl_block (l := ([4, 2] : List Int)) (e := 3) encI_len (put_same ((L).put b0 (.cells ((([5, 3, 2] : List Int)).flatMap encI).toArray 3)) b1 (.cells ((([4, 2] : List Int)).flatMap encI).toArray 3))
 have l1 := Le.put h1 (.cells ((([4, 2] : List Int)).flatMap encI).toArray 3)
 have s2 := sl_block (l := ([((some ⟨b0, 0, none⟩, 3, 3), [5, 3, 2]), ((some ⟨b1, 0, none⟩, 2, 2), [4, 2])] : List (Rw Int))) (e := 22) encRw_len (put_same (((L).put b0 (.cells ((([5, 3, 2] : List Int)).flatMap encI).toArray 3)).put b1 (.cells ((([4, 2] : List Int)).flatMap encI).toArray 3)) b2 (.cells ((([((some ⟨b0, 0, none⟩, 3, 3), [5, 3, 2]), ((some ⟨b1, 0, none⟩, 2, 2), [4, 2])] : List (Rw Int))).flatMap encRw).toArray 22))
 have l2 := Le.put h2 (.cells ((([((some ⟨b0, 0, none⟩, 3, 3), [5, 3, 2]), ((some ⟨b1, 0, none⟩, 2, 2), [4, 2])] : List (Rw Int))).flatMap encRw).toArray 22)
 have s3 := sl_block (l := ([2, 2] : List Int)) (e := 3) encI_len (put_same ((((L).put b0 (.cells ((([5, 3, 2] : List Int)).flatMap encI).toArray 3)).put b1 (.cells ((([4, 2] : List Int)).flatMap encI).toArray 3)).put b2 (.cells ((([((some ⟨b0, 0, none⟩, 3, 3), [5, 3, 2]), ((some ⟨b1, 0, none⟩, 2, 2), [4, 2])] : List (Rw Int))).flatMap encRw).toArray 22)) b3 (.cells ((([2, 2] : List Int)).flatMap encI).toArray 3))
 have l3 := Le.put h3 (.cells ((([2, 2] : List Int)).flatMap encI).toArray 3)
 refine W.go 99 rfl ?_
 refine W.ret r rfl rfl ?_
 refine ⟨⟨some ⟨b2, 0, none⟩, some ⟨b3, 0, none⟩, none, 2, 2, 0⟩, rfl, l0.trans (l1.trans (l2.trans (l3))), ⟨_, rfl, s2.le l3, fun x hx => ?_⟩, s3, sl0, Nat.le_refl _⟩
 rcases List.mem_cons.1 hx with rfl | hx
 ·exact ⟨s0.le (l1.trans (l2.trans (l3))), rfl, Nat.le_refl _⟩
 ·rw [List.mem_singleton.1 hx]
  exact ⟨s1.le (l2.trans (l3)), rfl, Nat.le_refl _⟩
def tornB : Bs := [63]
def bookK (b : Bl) (ro : Ro) (s : Sw) (ls : List Bs) : Bk := ⟨b, ro, s, ls, List.replicate ls.length tornB⟩
theorem bookOf_t (b : Bl) (ro : Ro) (s : Sw) (ls : List Bs) (pb pr : BP) (ps : Wp) (la : Option Addr) (lc : Nat) (L : LH) (hb : BlAt L b pb) (hr : RoAt L ro pr) (hs : SwAt L s ps) (hl : SlAt L la 1 encS ls) (hn : ls.length ≤ 1000) :
  Sp X 17 [blA b pb, roA ro pr, swA s ps, .slice la ls.length lc] L (fun v L' => ∃ p, v = bkA (bookK b ro s ls) p ∧ Le L L' ∧ BkAt L' (bookK b ro s ls) p) := by
 refine Sp.enter (n := 28) Tryz.func17 rfl rfl rfl rfl fun C hX _ hL0 r => ?_
 refine W.go 99 rfl ?_
 refine W.loop (fun w E B L' => ∃ (i : Nat) (aa : Option Addr) (ac : Nat), w = ls.length - i ∧ i ≤ ls.length ∧ Grow L 1 9 encS L' (.slice aa i ac) (List.replicate i tornB) ∧ E = [(3, .v (.slice la ls.length lc)), (8, .p 3 0), (9, .p 4 0), (10, .v (.int .i64 i))] ∧
   B = [some ⟨(blL b pb).map .v, 28⟩, some ⟨(roL ro pr).map .v, 48⟩, some ⟨(encSw s ps).map .v, 52⟩, some ⟨ti56.z.cells.toList.map .v, 56⟩, some ⟨(blL b pb ++ roL ro pr ++ encSw s ps ++ [Value.slice la ls.length lc, .slice aa i ac]).map .v, 56⟩])
  ⟨0, none, 0, rfl, Nat.zero_le _, Grow.nil (Le.refl _), rfl, rfl⟩ (by exact ⟨rfl, rfl, rfl, rfl, trivial⟩) (by exact ⟨rfl, rfl, rfl, rfl, rfl, trivial⟩) ?_
 rintro _ _ _ L1 ⟨i, aa, ac, rfl, hi, hg, rfl, rfl⟩ again
 refine W.go 99 rfl ?_
 refine W.split rfl rfl rfl (fun e1 => W.go 99 rfl ?_) (fun e1 => W.go 99 rfl ?_)
 ·have hil : i < ls.length := by have := of_decide_eq_true e1; omega
  have hrl : (List.replicate i tornB).length = i := List.length_replicate
  have hrs : List.replicate i tornB ++ [tornB] = List.replicate (i + 1) tornB := by rw [List.replicate_succ']
  refine W.eff rfl rfl rfl (Ef.grow rfl rfl rfl rfl rfl rfl rfl rfl rfl encS_len encS_sg hg (ls := [tornB]) (.own rfl rfl rfl rfl) ((by rw [hrl, List.length_singleton]; omega))) ?_
  rintro _ _ _ ⟨v1, rfl, rfl, hg1, _⟩
  rw [hrs] at hg1
  obtain ⟨ad1, cap1, rfl, _⟩ := hg1.slice
  rw [List.length_replicate] at hg1 ⊢
  refine W.go 99 rfl ?_
  exact W.again (again _ _ _ _ (by omega) ⟨i + 1, ad1, cap1, rfl, hil, hg1, rfl, rfl⟩) (by exact ⟨rfl, rfl, rfl, congrArg some (inc64 (by omega)), trivial⟩) (by exact ⟨rfl, rfl, rfl, rfl, rfl, trivial⟩)
 ·have hil : i = ls.length := by have := of_decide_eq_false e1; omega
  subst hil
  have hll : (List.replicate ls.length tornB).length = ls.length := List.length_replicate
  refine W.ret r rfl rfl ?_
  refine ⟨⟨pb, pr, ps, la, lc, aa, ac⟩, ?_, hg.1, hb.le hg.1, hr.le hg.1, hs.le hg.1, hl.le hg.1, ?_⟩
  ·show _ = Value.agg (blL b pb ++ roL ro pr ++ encSw s ps ++ [Value.slice la ls.length lc, .slice aa (List.replicate ls.length tornB).length ac]).toArray
   rw [hll]; rfl
  ·have hg2 : Grow L 1 9 encS L1 (.slice aa (List.replicate ls.length tornB).length ac) (List.replicate ls.length tornB) := by rw [hll]; exact hg
   exact (hg2.at encS_len).2
theorem says_t (b : Bl) (ro : Ro) (s : Sw) (ls : List Bs) (xs : List (Nat × List Int)) (pb pr : BP) (ps : Wp) (la da : Option Addr) (lc dc : Nat) (L : LH) (hgl : GlOk L) (hb : BlAt L b pb) (hr : RoAt L ro pr) (hs : SwAt L s ps) (hl : SlAt L la 1 encS ls) (w : WkOk (bookK b ro s ls) xs) (hd : SlAt L da 1 encS (workN ⟨b, ro, s⟩ xs xs.length)) :
  Sp X 21 [blA b pb, roA ro pr, swA s ps, .slice la ls.length lc, .slice da xs.length dc] L (fun v L' => v = .bool true ∧ Le L L') := by
 have hn : ls.length ≤ 6 := w.ok.l6
 have hx6 := w.l6
 have hwl := workN_len ⟨b, ro, s⟩ xs xs.length
 refine Sp.enter (n := 29) Tryz.func21 rfl rfl rfl rfl fun C hX _ hL0 r => ?_
 refine W.go 99 rfl ?_
 refine W.eff rfl rfl rfl (Ef.call rfl (bookOf_t b ro s ls pb pr ps la lc _ hb hr hs hl (by omega))) ?_
 rintro _ _ _ ⟨_, rfl, rfl, p, rfl, hle, hbk⟩
 refine W.eff rfl rfl rfl (Ef.call rfl (Work_t (bookK b ro s ls) p xs _ (hgl.le hle) hbk w)) ?_
 rintro _ _ _ ⟨_, rfl, rfl, aa, ac, rfl, hg⟩
 have hat := hg.at2 encS_len hwl
 have hle2 := hle.trans hg.1
 refine W.go 99 rfl ?_
 refine W.split rfl rfl rfl (fun c => ?_) (fun c => absurd c (by decide))
 refine W.go 99 rfl ?_
 have hE := EqWords_t (X := C.X) aa da ac dc (workN ⟨b, ro, s⟩ xs xs.length) _ hat (hd.le hle2) (by omega)
 rw [hwl] at hE
 refine W.eff rfl rfl rfl (Ef.call rfl (hE)) ?_
 rintro _ _ _ ⟨_, rfl, rfl, rfl, rfl⟩
 refine W.go 99 rfl ?_
 refine W.ret r rfl rfl ?_
 exact ⟨rfl, hle2⟩
def boilK2 : Bl := { boilK with proofs := boilK.proofs ++ [⟨1, 1, 1⟩] }
def linesA : List Bs := [[112, 114, 111, 111, 102, 32, 49, 32, 49, 32, 49], [119, 104, 101, 110, 32, 49]]
def duesA : List Bs := [[111, 107], [50]]
def xsA : List (Nat × List Int) := [(0, [1, 1, 1]), (4, [1])]
theorem sawK_ok : sawE sawK = 0 := by decide +kernel
theorem sawK_sm : Sm sawK := ⟨by decide, by decide, by decide, fun l hl => by
 have : ∀ l ∈ sawK.loaves, l.length ≤ 1000 := by decide
 exact this l hl⟩
theorem linesA_p : linesA.map parseB = xsA.map some := by decide +kernel
theorem linesA_t : ∀ l ∈ linesA, l.length ≤ 100 ∧ cntB l 63 = 0 := by decide +kernel
theorem linesA_w : workN ⟨boilK, rowK, sawK⟩ xsA 2 = duesA := by decide +kernel
theorem linesA_e : ∀ i : Fin 2, (ansP (deskAt ⟨boilK, rowK, sawK⟩ xsA i.val) (xsA.getD i.val (0, []))).2 = 0 := by decide +kernel
theorem book_ok {b : Bl} {ls : List Bs} {xs : List (Nat × List Int)} (hb : boilE b = 0) (h6 : ls.length ≤ 6) (hp : ls.map parseB = xs.map some) (ht : ∀ l ∈ ls, l.length ≤ 100 ∧ cntB l 63 = 0) : BkOk (bookK b rowK sawK ls) := by
 refine ⟨hb, rowK_ok.1, sawK_ok, sawK_sm, h6, fun l hl => ⟨(ht l hl).1, (ht l hl).2, ?_⟩, List.length_replicate, fun l hl => ?_⟩
 ·have : parseB l ∈ xs.map some := by rw [← hp]; exact List.mem_map_of_mem hl
  obtain ⟨⟨v, a⟩, _, h⟩ := List.mem_map.1 this
  exact ⟨v, a, h.symm⟩
 ·rw [(List.mem_replicate.1 hl).2]; decide
theorem wkA : WkOk (bookK boilK rowK sawK linesA) xsA := by
 refine ⟨book_ok boilK_ok.1 (by decide) linesA_p linesA_t, linesA_p, by decide, fun i hi => ⟨0, by decide, ?_⟩⟩
 exact linesA_e ⟨i, hi⟩
theorem timed_t (L : LH) (hgl : GlOk L) : Sp X 22 [] L (fun v L' => v = .bool true ∧ Le L L') := by
 refine Sp.enter (n := 31) Tryz.func22 rfl rfl rfl rfl fun C hX _ hL0 r => ?_
 refine W.go 99 rfl ?_
 refine W.eff rfl rfl rfl (Ef.call rfl (boiling_t _)) ?_
 rintro _ _ _ ⟨_, rfl, rfl, p, rfl, hle1, hb1, hc4⟩
 rename_i L1
 obtain ⟨p0, p1, p2, p3, p4, c0, c1, c2, c3, c4⟩ := p
 have hc4 : c4 = 1 := hc4
 subst hc4
 refine W.go 99 rfl ?_
 refine W.eff rfl rfl rfl (Ef.appF (enc := encPr) (l := boilK.proofs) (ls := [(⟨1, 1, 1⟩ : Prf)]) rfl rfl rfl rfl rfl rfl rfl rfl rfl encPr_len hb1.h4 (.own rfl rfl rfl rfl) (by decide) (by decide)) ?_
 rintro _ _ _ ⟨bn, cn, capn, rfl, rfl, hbn, rfl, hown⟩
 refine W.go 99 rfl ?_
 have hle2 := Le.put hbn (.cells cn 35)
 rename_i L0
 have hcapn : (boilK.proofs ++ [(⟨1, 1, 1⟩ : Prf)]).length ≤ capn := by
  obtain ⟨_, _, g1, g2⟩ := hown.slice
  cases g1; exact g2
 have hb2 := hb1.le hle2
 have hbK : BlAt (L1.put bn (.cells cn 35)) boilK2 ⟨p0, p1, p2, p3, some ⟨bn, 0, none⟩, c0, c1, c2, c3, capn⟩ := ⟨hb2.h0, hb2.h1, hb2.h2, hb2.h3, hown.at encPr_len, hb2.n0, hb2.n1, hb2.n2, hb2.n3, by decide, hcapn⟩
 have hle12 := hle1.trans hle2
 have hS := Strike_t (X := C.X) boilK2 ⟨p0, p1, p2, p3, some ⟨bn, 0, none⟩, c0, c1, c2, c3, capn⟩ 1 _ hbK
 rw [show StrikeE boilK2 1 = ([2], 0) from boilK_ok.2.1] at hS
 generalize L1.put bn (.cells cn 35) = L2 at hS hle12 ⊢
 clear hbK hb2 hown hb1 hle1 hle2
 refine W.eff rfl rfl rfl (Ef.call rfl (hS)) ?_
 rintro _ _ _ ⟨_, rfl, rfl, ad, cap, rfl, hle3, hat, hcp⟩
 have hle13 := hle12.trans hle3
 rename_i L3
 refine W.go 99 rfl ?_
 refine W.split rfl rfl rfl (fun c => ?_) (fun c => absurd c (by decide))
 refine W.goP [21] 99 rfl ?_
 refine W.pub 20 (.inr ⟨_, _, _, rfl⟩) rfl rfl ?_
 intro b2 hb2 _
 have hput := Le.put hb2 (.cells (([2] : List Int).flatMap encI).toArray 3)
 have h2 := sl_block (l := ([2] : List Int)) (e := 3) encI_len (put_same L3 b2 (.cells (([2] : List Int).flatMap encI).toArray 3))
 have hle14 := hle13.trans hput
 refine W.eff rfl rfl rfl (Ef.call rfl (EqInts_sp ad (some ⟨b2, 0, none⟩) cap 1 [2] [2] _ (hat.le hput) h2 (by decide) (by decide))) ?_
 rintro _ _ _ ⟨_, rfl, rfl, rfl, rfl⟩
 rw [decide_eq_true rfl]
 refine W.go 99 rfl ?_
 refine W.split rfl rfl rfl (fun c => ?_) (fun c => absurd c (by decide))
 refine W.go 99 rfl ?_
 change W C _ _ _ _ _ (L3.put b2 (.cells (([2] : List Int).flatMap encI).toArray 3))
 generalize L3.put b2 (.cells (([2] : List Int).flatMap encI).toArray 3) = L4 at hle14 ⊢
 clear h2 hput hle13 hle12
 refine W.eff rfl rfl rfl (Ef.call rfl (boiling_t _)) ?_
 rintro _ _ _ ⟨_, rfl, rfl, pb, rfl, hle5, hb5, _⟩
 refine W.eff rfl rfl rfl (Ef.call rfl (colours_t _)) ?_
 rintro _ _ _ ⟨_, rfl, rfl, pr, rfl, hle6, hr6⟩
 refine W.eff rfl rfl rfl (Ef.call rfl (loaves_t _)) ?_
 rintro _ _ _ ⟨_, rfl, rfl, ps, rfl, hle7, hs7⟩
 have hle17 := hle14.trans (hle5.trans (hle6.trans hle7))
 rename_i L7
 refine W.goP [29] 99 rfl ?_
 refine W.pub 27 (.inr ⟨_, _, _, rfl⟩) rfl rfl ?_
 intro b8 hb8 _
 refine W.pub 28 (.inr ⟨_, _, _, rfl⟩) rfl rfl ?_
 intro b9 hb9 _
 have m8 := Le.put hb8 (.cells (linesA.flatMap encS).toArray 9)
 have m9 := Le.put hb9 (.cells (duesA.flatMap encS).toArray 9)
 have s8 := sl_block (l := linesA) (e := 9) encS_len (put_same L7 b8 (.cells (linesA.flatMap encS).toArray 9))
 have s9 := sl_block (l := duesA) (e := 9) encS_len (put_same (L7.put b8 (.cells (linesA.flatMap encS).toArray 9)) b9 (.cells (duesA.flatMap encS).toArray 9))
 have m89 := m8.trans m9
 have hsay := says_t (X := C.X) boilK rowK sawK linesA xsA pb pr ps (some ⟨b8, 0, none⟩) (some ⟨b9, 0, none⟩) 2 2 _ (hgl.le (hle17.trans m89)) ((hb5.le (hle6.trans hle7)).le m89) ((hr6.le hle7).le m89) (hs7.le m89) (s8.le m9) wkA (by rw [show workN ⟨boilK, rowK, sawK⟩ xsA xsA.length = duesA from linesA_w]; exact s9)
 refine W.eff rfl rfl rfl (Ef.call rfl (hsay)) ?_
 rintro _ _ _ ⟨_, rfl, rfl, rfl, hle9⟩
 refine W.go 99 rfl ?_
 refine W.ret r rfl rfl ?_
 exact ⟨rfl, hle17.trans (m89.trans hle9)⟩
end Go.Mz


set_option maxRecDepth 100000
namespace Go.Mz
open Go.Conc Go.Proofs
theorem spanE_0 {s : Spn} {m : Int} (h : 0 ≤ s.lo ∧ s.lo ≤ s.hi ∧ s.hi ≤ m) : spanE s m = 0 := by
 have h1 : inB s.lo 0 m = true := inB_iff.2 ⟨by omega, by omega⟩
 have h2 : inB s.hi 0 m = true := inB_iff.2 ⟨by omega, by omega⟩
 unfold spanE
 rw [h1, h2, if_neg (by decide), if_neg (by omega)]
theorem spanLE_0 {m : Int} : ∀ {l : List Spn}, (∀ s ∈ l, 0 ≤ s.lo ∧ s.lo ≤ s.hi ∧ s.hi ≤ m) → spanLE m l = 0
 | [], _ => rfl
 | s :: l, h => by
  have h1 := spanE_0 (h s (List.mem_cons_self ..))
  unfold spanLE
  rw [if_neg (by rw [h1]; decide)]
  exact spanLE_0 fun s hs => h s (List.mem_cons_of_mem _ hs)
theorem spansE_0 {l : List Spn} {k m : Int} (h1 : 1 ≤ l.length) (h2 : (l.length : Int) ≤ k) (h : ∀ s ∈ l, 0 ≤ s.lo ∧ s.lo ≤ s.hi ∧ s.hi ≤ m) : spansE l k m = 0 := by
 have h3 : sizedE l.length 1 k = 0 := by unfold sizedE; rw [if_neg (by omega), if_neg (by omega)]
 unfold spansE
 rw [if_neg (by rw [h3]; decide)]
 exact spanLE_0 h
theorem ratesB_0 : ∀ {l : List Int}, (∀ r ∈ l, 1 ≤ r ∧ r ≤ 3) → ratesB l = true
 | [], _ => rfl
 | r :: l, h => by
  unfold ratesB
  rw [inB_iff.2 (h r (List.mem_cons_self ..)), ratesB_0 fun r hr => h r (List.mem_cons_of_mem _ hr)]; rfl
theorem proofsE_0 {b : Bl} : ∀ {l : List Prf}, (∀ p ∈ l, proofE b p = 0) → proofsE b l = 0
 | [], _ => rfl
 | p :: l, h => by
  unfold proofsE
  rw [if_neg (by rw [h p (List.mem_cons_self ..)]; decide)]
  exact proofsE_0 fun p hp => h p (List.mem_cons_of_mem _ hp)
theorem boil_ok {x0 : Bl} {ps : List Prf} (h : BoilM x0 2 3) (hp : ∀ q ∈ ps, proofE x0 q = 0) (h8 : ps.length ≤ 8) : boilE { x0 with proofs := ps } = 0 := by
 obtain ⟨m0, m1, m2, hm, a1, a2, a3, a4⟩ := h.mrk
 have s2 := h.s2
 have h2 := h.h2
 have hpe : ∀ q, proofE { x0 with proofs := ps } q = proofE x0 q := fun q => rfl
 have e1 : spansE x0.starts 3 40 = 0 := spansE_0 h.s1 (by omega) fun s hs => by have := h.sb s hs; omega
 have e2 : ratesB x0.rates = true := ratesB_0 h.rb
 have e3 : marksE x0.marks = 0 := by
  have b0 : inB m0 1 60 = true := inB_iff.2 ⟨by omega, by omega⟩
  have b1 : inB m1 1 60 = true := inB_iff.2 ⟨by omega, by omega⟩
  have b2 : inB m2 1 60 = true := inB_iff.2 ⟨by omega, by omega⟩
  rw [hm]
  unfold marksE
  rw [if_neg (show ¬ [m0, m1, m2].length ≠ 3 from fun h => h rfl), if_neg (by simp [b0, b1, b2]), if_neg]
  show ¬ (m1 ≤ m0 ∨ m2 ≤ m1)
  omega
 have e4 : spansE x0.heats 5 4 = 0 := spansE_0 h.h1 (by omega) h.hb
 show (if spansE x0.starts 3 40 ≠ 0 then spansE x0.starts 3 40 else if x0.rates.length ≠ x0.starts.length then 9 else if (!ratesB x0.rates) = true then 1 else if marksE x0.marks ≠ 0 then marksE x0.marks else if spansE x0.heats 5 4 ≠ 0 then spansE x0.heats 5 4 else if 8 < ps.length then 6 else proofsE { x0 with proofs := ps } ps) = 0
 rw [if_neg (by rw [e1]; decide), if_neg (by rw [h.rl]; exact fun h => h rfl), if_neg (by rw [e2]; decide), if_neg (by rw [e3]; decide), if_neg (by rw [e4]; decide), if_neg (by omega)]
 exact proofsE_0 fun q hq => by rw [hpe]; exact hp q hq
section
variable {x0 : Bl} {st hs : List Int}
theorem run_x {ps : List Prf} (hr : RunOk x0 st hs) : RunOk { x0 with proofs := ps } st hs := ⟨hr.xl, hr.xi, hr.hl, hr.hi⟩
theorem known_ne {ps qs : List Prf} (hr : RunOk x0 st hs) (hq : ∀ q ∈ qs, PrfR x0 st hs q) : knownB { x0 with proofs := ps } qs ≠ [] := by
 have := run_known (b := { x0 with proofs := ps }) (ps := qs) (run_x hr) fun q h => (hq q h).r
 exact List.ne_nil_of_mem this
theorem add_ok {ps : List Prf} {q : Prf} (h : BoilM x0 2 3) (hr : RunOk x0 st hs) (hp : ∀ z ∈ ps, PrfR x0 st hs z) (hq : PrfR x0 st hs q) (h8 : ps.length < 8) : AddPE { x0 with proofs := ps } q = ({ x0 with proofs := ps ++ [q] }, 0) := by
 have hb := boil_ok (ps := ps) h (fun z hz => (hp z hz).e) (by omega)
 have hk : knownB { x0 with proofs := ps } (ps ++ [q]) ≠ [] := known_ne hr fun z hz => by
  rcases List.mem_append.1 hz with hz | hz
  ·exact hp z hz
  ·rw [List.mem_singleton.1 hz]; exact hq
 have hpe : proofE { x0 with proofs := ps } q = 0 := hq.e
 unfold AddPE
 rw [if_neg (by rw [hb]; decide), if_neg (show ¬ ps.length = 8 by omega), if_neg (by rw [hpe]; decide), if_neg (fun h => hk h.2)]
theorem strike_ok {ps : List Prf} {pan : Nat} (h : BoilM x0 2 3) (hr : RunOk x0 st hs) (hp : ∀ z ∈ ps, PrfR x0 st hs z) (h8 : ps.length ≤ 8) (hpan : pan < x0.starts.length) : StrikeE { x0 with proofs := ps } pan = if strikeB { x0 with proofs := ps } pan = [] then ([], 11) else (strikeB { x0 with proofs := ps } pan, 0) := by
 have hb := boil_ok (ps := ps) h (fun z hz => (hp z hz).e) h8
 have hi : inB (pan : Int) 0 ((x0.starts.length : Int) - 1) = true := inB_iff.2 ⟨by omega, by omega⟩
 unfold StrikeE
 rw [if_neg (by rw [hb]; decide), if_neg (show ¬ (!inB (pan : Int) 0 ((x0.starts.length : Int) - 1)) = true by rw [hi]; decide), if_neg (known_ne hr hp), Int.toNat_natCast]
def lnP (q : Prf) : Nat × List Int := (0, [q.pan, q.tick, q.thread])
def xsOf (ps : List Prf) (pan : Nat) : List (Nat × List Int) := ps.map lnP ++ [(4, [(pan : Int)])]
theorem desk_ok {ps : List Prf} {pan : Nat} {ro : Ro} {s : Sw} (h : BoilM x0 2 3) (hr : RunOk x0 st hs) (hp : ∀ z ∈ ps, PrfR x0 st hs z) (h8 : ps.length ≤ 8) : ∀ i, i ≤ ps.length → deskAt ⟨{ x0 with proofs := [] }, ro, s⟩ (xsOf ps pan) i = ⟨{ x0 with proofs := ps.take i }, ro, s⟩
 | 0, _ => rfl
 | i + 1, hi => by
  have ih := desk_ok (pan := pan) (ro := ro) (s := s) h hr hp h8 i (by omega)
  have hil : i < ps.length := by omega
  have hxl : (ps.map lnP).length = ps.length := List.length_map ..
  have hg : (xsOf ps pan)[i]? = some (lnP ps[i]) := by
   unfold xsOf
   rw [List.getElem?_append_left (by omega), List.getElem?_map, List.getElem?_eq_getElem hil]; rfl
  obtain ⟨hlt, hge⟩ := List.getElem?_eq_some_iff.1 hg
  have htk : (xsOf ps pan).take (i + 1) = (xsOf ps pan).take i ++ [lnP ps[i]] := by rw [List.take_succ_eq_append_getElem hlt, hge]
  have hmem := List.getElem_mem hil
  have hadd := add_ok (ps := ps.take i) (q := ps[i]) h hr (fun z hz => hp z (List.mem_of_mem_take hz)) (hp _ hmem) (by rw [List.length_take]; omega)
  have hps : ps.take (i + 1) = ps.take i ++ [ps[i]] := List.take_succ_eq_append_getElem hil
  unfold deskAt at ih ⊢
  rw [htk, deskB_snoc]
  generalize hd : deskB 0 0 ((xsOf ps pan).take i) (⟨{ x0 with proofs := [] }, ro, s⟩, 0) = d at ih ⊢
  obtain ⟨f, n⟩ := d
  simp only at ih
  subst ih
  unfold entB
  rw [if_pos ⟨rfl, Nat.zero_testBit _⟩]
  have hpf : proofF ⟨{ x0 with proofs := ps.take i }, ro, s⟩ (prfOf (lnP ps[i]).2) = (⟨{ x0 with proofs := ps.take (i + 1) }, ro, s⟩, 0) := by
   have e1 : prfOf (lnP ps[i]).2 = ps[i] := rfl
   rw [e1]
   unfold proofF
   rw [hadd, if_pos rfl, ← hps]
  rw [hpf]
theorem desk_end {ps : List Prf} {pan : Nat} {ro : Ro} {s : Sw} (h : BoilM x0 2 3) (hr : RunOk x0 st hs) (hp : ∀ z ∈ ps, PrfR x0 st hs z) (h8 : ps.length ≤ 8) : deskAt ⟨{ x0 with proofs := [] }, ro, s⟩ (xsOf ps pan) (xsOf ps pan).length = ⟨{ x0 with proofs := ps }, ro, s⟩ := by
 have hd := desk_ok (pan := pan) (ro := ro) (s := s) h hr hp h8 ps.length (Nat.le_refl _)
 rw [List.take_length] at hd
 have hxl : (ps.map lnP).length = ps.length := List.length_map ..
 have htk : (xsOf ps pan).take ps.length = ps.map lnP := by
  unfold xsOf
  rw [List.take_append_of_le_length (by omega), List.take_of_length_le (by omega)]
 unfold deskAt at hd ⊢
 rw [List.take_length]
 rw [htk] at hd
 show (deskB 0 0 (ps.map lnP ++ [(4, [(pan : Int)])]) _).1 = _
 rw [deskB_snoc]
 unfold entB
 rw [if_neg (fun h => absurd (show 4 = 0 from h.1) (by decide))]
 exact hd
def dueOf (x : Bl) (pan : Nat) : Bs := if strikeB x pan = [] then errorB 11 else joinB ((strikeB x pan).map itoaB)
theorem ans_ok {ps : List Prf} {pan i : Nat} {ro : Ro} {s : Sw} (h : BoilM x0 2 3) (hr : RunOk x0 st hs) (hp : ∀ z ∈ ps, PrfR x0 st hs z) (h8 : ps.length < 8) (hi : i < ps.length) : ansP (deskAt ⟨{ x0 with proofs := [] }, ro, s⟩ (xsOf ps pan) i) ((xsOf ps pan).getD i (0, [])) = (okB, 0) := by
 rw [desk_ok h hr hp (by omega) i (by omega)]
 have hg : (xsOf ps pan)[i]? = some (lnP ps[i]) := by
  unfold xsOf
  rw [List.getElem?_append_left (by rw [List.length_map]; omega), List.getElem?_map, List.getElem?_eq_getElem hi]; rfl
 have hadd := add_ok (ps := ps.take i) (q := ps[i]) h hr (fun z hz => hp z (List.mem_of_mem_take hz)) (hp _ (List.getElem_mem hi)) (by rw [List.length_take]; omega)
 rw [getD_of hg]
 unfold ansP
 rw [if_pos (show (lnP ps[i]).1 = 0 from rfl)]
 have e1 : prfOf (lnP ps[i]).2 = ps[i] := rfl
 rw [e1]
 unfold proofF
 rw [hadd, if_pos rfl]
theorem ans_end {ps : List Prf} {pan : Nat} {ro : Ro} {s : Sw} (h : BoilM x0 2 3) (hr : RunOk x0 st hs) (hp : ∀ z ∈ ps, PrfR x0 st hs z) (h8 : ps.length < 8) (hpan : pan < x0.starts.length) : outP (deskAt ⟨{ x0 with proofs := [] }, ro, s⟩ (xsOf ps pan) ps.length) ((xsOf ps pan).getD ps.length (0, [])) = dueOf { x0 with proofs := ps } pan ∧ ((ansP (deskAt ⟨{ x0 with proofs := [] }, ro, s⟩ (xsOf ps pan) ps.length) ((xsOf ps pan).getD ps.length (0, []))).2 = 0 ∨ (ansP (deskAt ⟨{ x0 with proofs := [] }, ro, s⟩ (xsOf ps pan) ps.length) ((xsOf ps pan).getD ps.length (0, []))).2 = 11) := by
 rw [desk_ok h hr hp (by omega) ps.length (Nat.le_refl _), List.take_length]
 have hg : (xsOf ps pan)[ps.length]? = some (4, [(pan : Int)]) := by
  unfold xsOf
  rw [List.getElem?_append_right (by rw [List.length_map]; exact Nat.le_refl _), List.length_map, Nat.sub_self]; rfl
 rw [getD_of hg]
 have hs := strike_ok (ps := ps) (pan := pan) h hr hp (by omega) hpan
 unfold outP ansP dueOf
 rw [if_neg (show ¬ (4 : Nat) = 0 by decide)]
 show (if (StrikeE { x0 with proofs := ps } (pan : Int)).2 = 0 then spacedB (natI (StrikeE { x0 with proofs := ps } (pan : Int)).1) else errorB (StrikeE { x0 with proofs := ps } (pan : Int)).2) = _ ∧ ((StrikeE { x0 with proofs := ps } (pan : Int)).2 = 0 ∨ (StrikeE { x0 with proofs := ps } (pan : Int)).2 = 11)
 rw [hs]
 split
 ·exact ⟨rfl, .inr rfl⟩
 ·rw [if_pos rfl, spacedB_nat]
  exact ⟨rfl, .inl rfl⟩
theorem work_ok {ps : List Prf} {pan : Nat} {ro : Ro} {s : Sw} (h : BoilM x0 2 3) (hr : RunOk x0 st hs) (hp : ∀ z ∈ ps, PrfR x0 st hs z) (h8 : ps.length < 8) (hpan : pan < x0.starts.length) : workN ⟨{ x0 with proofs := [] }, ro, s⟩ (xsOf ps pan) (xsOf ps pan).length = List.replicate ps.length okB ++ [dueOf { x0 with proofs := ps } pan] := by
 have hl : (xsOf ps pan).length = ps.length + 1 := by unfold xsOf; simp
 rw [hl, workN_succ, (ans_end h hr hp h8 hpan).1]
 congr 1
 unfold workN
 refine List.ext_getElem (by simp) fun i h1 h2 => ?_
 rw [List.getElem_replicate, List.getElem_map, List.getElem_range]
 unfold outP
 rw [ans_ok h hr hp h8 (by simpa using h1)]
 rfl
end
theorem parse3 : ∀ (p : Fin 3) (t : Fin 6) (h : Fin 4), parseB (kitL 0 [(p.val : Int), (t.val : Int), (h.val : Int)]) = some (0, [(p.val : Int), (t.val : Int), (h.val : Int)]) ∧ (kitL 0 [(p.val : Int), (t.val : Int), (h.val : Int)]).length ≤ 100 ∧ cntB (kitL 0 [(p.val : Int), (t.val : Int), (h.val : Int)]) 63 = 0 := by decide +kernel
theorem parse4 : ∀ p : Fin 3, parseB (kitL 4 [(p.val : Int)]) = some (4, [(p.val : Int)]) ∧ (kitL 4 [(p.val : Int)]).length ≤ 100 ∧ cntB (kitL 4 [(p.val : Int)]) 63 = 0 := by decide +kernel
def lineP (q : Prf) : Bs := kitL 0 [q.pan, q.tick, q.thread]
def linesOf (ps : List Prf) (pan : Nat) : List Bs := ps.map lineP ++ [kitL 4 [(pan : Int)]]
section
variable {x0 : Bl} {st hs : List Int}
theorem line_ok {q : Prf} (h : BoilM x0 2 3) (hq : PrfR x0 st hs q) : parseB (lineP q) = some (lnP q) ∧ (lineP q).length ≤ 100 ∧ cntB (lineP q) 63 = 0 := by
 have s2 := h.s2
 have h2 := h.h2
 obtain ⟨p, t, k⟩ := q
 have p0 := hq.p0
 have t0 := hq.t0
 have k0 := hq.h0
 simp only at p0 t0 k0
 obtain ⟨p, rfl⟩ : ∃ n : Nat, p = n := ⟨p.toNat, by omega⟩
 obtain ⟨t, rfl⟩ : ∃ n : Nat, t = n := ⟨t.toNat, by omega⟩
 obtain ⟨k, rfl⟩ : ∃ n : Nat, k = n := ⟨k.toNat, by omega⟩
 exact parse3 ⟨p, by omega⟩ ⟨t, by omega⟩ ⟨k, by omega⟩
theorem lines_parse {ps : List Prf} {pan : Nat} (h : BoilM x0 2 3) (hp : ∀ z ∈ ps, PrfR x0 st hs z) (hpan : pan < x0.starts.length) : (linesOf ps pan).map parseB = (xsOf ps pan).map some := by
 have s2 := h.s2
 unfold linesOf xsOf
 rw [List.map_append, List.map_append, List.map_map, List.map_map]
 congr 1
 ·exact List.map_congr_left fun q hq => (line_ok h (hp q hq)).1
 ·exact congrArg (fun z => [z]) (parse4 ⟨pan, by omega⟩).1
theorem struck_ok {ps : List Prf} {pan : Nat} (h : BoilM x0 2 3) (hr : RunOk x0 st hs) (hp : ∀ z ∈ ps, PrfR x0 st hs z) (h3 : ps.length ≤ 3) (hpan : pan < x0.starts.length) : WkOk (bookK { x0 with proofs := [] } rowK sawK (linesOf ps pan)) (xsOf ps pan) := by
 have s2 := h.s2
 have hl : (linesOf ps pan).length = ps.length + 1 := by unfold linesOf; simp
 have hxl : (xsOf ps pan).length = ps.length + 1 := by unfold xsOf; simp
 have hpr := lines_parse h hp hpan
 refine ⟨book_ok (boil_ok (ps := []) h (fun q hq => by simp at hq) (by decide)) (by omega) hpr fun l hl => ?_, hpr, fun x hx => ?_, fun i hi => ?_⟩
 ·rcases List.mem_append.1 hl with hl | hl
  ·obtain ⟨q, hq, rfl⟩ := List.mem_map.1 hl
   exact (line_ok h (hp q hq)).2
  ·rw [List.mem_singleton.1 hl]
   exact (parse4 ⟨pan, by omega⟩).2
 ·rcases List.mem_append.1 hx with hx | hx
  ·obtain ⟨q, _, rfl⟩ := List.mem_map.1 hx
   exact .inl ⟨rfl, rfl⟩
  ·rw [List.mem_singleton.1 hx]; exact .inr rfl
 ·rw [hxl] at hi
  rcases Nat.lt_or_eq_of_le (Nat.lt_succ_iff.1 hi) with hi | rfl
  ·exact ⟨0, by decide, by rw [show (⟨(bookK { x0 with proofs := [] } rowK sawK (linesOf ps pan)).b, (bookK { x0 with proofs := [] } rowK sawK (linesOf ps pan)).ro, (bookK { x0 with proofs := [] } rowK sawK (linesOf ps pan)).s⟩ : Fi) = ⟨{ x0 with proofs := [] }, rowK, sawK⟩ from rfl, ans_ok h hr hp (by omega) hi]; rfl⟩
  ·rcases (ans_end (ro := rowK) (s := sawK) h hr hp (by omega) hpan).2 with e | e
   ·exact ⟨0, by decide, e⟩
   ·exact ⟨11, by decide, e⟩
end
end Go.Mz


set_option maxRecDepth 100000
namespace Go.Mz
open Go.Conc Go.ConcN Go.Proofs
variable {X : Logic Tryz.prog}
theorem app2 {K L L' : LH} {k k2 : Nat} {e e2 : TypeId} {v v2 v' : Value} {len len2 len' : Nat} {cs cs2 cs' : List Value} {oa ob oa' : Option Nat} (ha : Own L k e v len cs oa) (hb : Own L k2 e2 v2 len2 cs2 ob) (hab : ∀ o, oa = some o → ob ≠ some o) (hK : ∀ o, oa = some o → K o = none) (hle : Le K L) (hw : Own L' k e v' len' cs' oa')
  (hc : (L' = L ∧ oa' = none ∧ oa = none) ∨ ∃ b c, oa' = some b ∧ L' = L.put b (.cells c e) ∧ ((oa = some b ∧ ∃ c0, L b = some (.cells c0 e (0, 0), true) ∧ c.size = c0.size) ∨ L b = none)) :
  Own L' k2 e2 v2 len2 cs2 ob ∧ (∀ o, oa' = some o → ob ≠ some o) ∧ (∀ o, oa' = some o → K o = none) ∧ Le K L' := by
 rcases hc with ⟨rfl, rfl, _⟩ | ⟨q, c, rfl, rfl, ⟨rfl, _⟩ | hn⟩
 ·exact ⟨hb, fun _ h => (by cases h), fun _ h => (by cases h), hle⟩
 ·have hKq := hK q rfl
  have hbq := hab q rfl
  exact ⟨hb.keep fun o ho => put_ne _ _ (fun e => by subst e; exact hbq ho), fun _ h => (by cases h; exact hbq), fun _ h => (by cases h; exact hKq), le_put_none hle hKq _⟩
 ·have hbq : ob ≠ some q := fun e => by
   subst e
   exact hb.blk hn
  exact ⟨hb.keep fun o ho => put_ne _ _ (fun e => by subst e; exact hbq ho), fun _ h => (by cases h; exact hbq), fun _ h => (by cases h; exact none_of_le hle hn), hle.trans (Le.put hn _)⟩
theorem joinB_snoc {q : List Bs} (w : Bs) (h : q ≠ []) : joinB (q ++ [w]) = joinB q ++ [32] ++ w := by
 cases q with
 | nil => exact absurd rfl h
 | cons x q => rw [List.cons_append, joinB_cons, joinB_cons, tailB_snoc]; simp [List.append_assoc]
theorem joinB_len {q : List Bs} (h : ∀ w ∈ q, w.length ≤ 10) : (joinB q).length ≤ 11 * q.length + 10 := by
 cases q with
 | nil => exact Nat.zero_le _
 | cons x q =>
  have h1 := tailB_len q fun w hw => h w (List.mem_cons_of_mem _ hw)
  have h2 := h x (List.mem_cons_self ..)
  rw [joinB_cons, List.length_append, List.length_cons]
  omega
def dueN (S : List Nat) (i : Nat) : Bs := if i = 0 then errorB 11 else joinB ((S.take i).map itoaB)
theorem dueN_end (S : List Nat) : dueN S S.length = if S = [] then errorB 11 else joinB (S.map itoaB) := by
 unfold dueN
 rw [List.take_length]
 cases S with
 | nil => rfl
 | cons x S => rw [if_neg (by simp), if_neg (by simp)]
theorem Struck_run {Post : Value → World → Prop} {W0 : World} (la : Option Addr) (lc : Nat) (l : List Int) (L : LH) (hgl : GlOk L) (hla : IntsAt L la l) (hl : l.length ≤ 140737488355328)
  (hQ : ∀ v L' w, (v = .bool true ∧ Le L L') → Sub L' w → Same W0 w → Post v w) :
  FGo Tryz.prog Post W0 (G (Frame.enter Tryz.prog 3 [.slice la l.length lc].toArray .normal) []) L := by
 refine root_enter (n := 180) (s := 2) Tryz.func3 rfl rfl (by kernel_rfl) rfl rfl hQ fun C hX _ hL0 r => ?_
 refine W.go 99 rfl ?_
 refine W.eff rfl rfl rfl (Ef.call rfl (NewHat_sp la lc l L hla)) ?_
 rintro _ _ _ ⟨_, rfl, rfl, b, rfl, hbn, hle1, hhat⟩
 have hh : Htt L _ b la lc l 0 := ⟨hle1, hbn, hhat.blk, hla⟩
 refine W.go 99 rfl ?_
 refine W.eff rfl rfl rfl (Ef.call rfl (ProvedOf_t L _ b la lc l 0 hh (by decide) hl)) ?_
 rintro _ _ _ ⟨_, rfl, rfl, x, p, st, hs, sa, ha, sc, hc, J, m, rfl, hM, hp3, hR, hPs, hm, hLJ, hh2, hx, hst, hhs⟩
 obtain ⟨x0s, x0r, x0m, x0h, ps⟩ := x
 obtain ⟨p0, p1, p2, p3, p4, c0, c1, c2, c3, c4⟩ := p
 have s1 := hM.s1
 have s2 := hM.s2
 have hxl := hR.xl
 have hhl := hR.hl
 have s1' : 1 ≤ x0s.length := s1
 have s2' : x0s.length ≤ 2 := s2
 have hxl' : st.length = x0s.length := hxl
 have hhl' : hs.length = x0h.length := hhl
 have h2' : x0h.length ≤ 3 := hM.h2
 refine W.go 99 rfl ?_
 have hw : IntKind.i64.wrap ((st.length : Int) - 1) = ((st.length - 1 : Nat) : Int) := by
  rw [wrap64_in _ (by omega) (by omega)]; omega
 rw [hw]
 refine W.eff rfl rfl rfl (Ef.call rfl (To_h (st.length - 1) hh2 (by omega) hl (by omega))) ?_
 rintro _ _ _ ⟨_, rfl, rfl, pan, rfl, hpan, hq⟩
 have hh3 := hq.h
 clear hq hh2 hhat
 have hLJ3 := hLJ.trans hh3.le
 have hx3 := hx.le hh3.le
 have hst3 := hst.le hh3.le
 have hhs3 := hhs.le hh3.le
 have hgl3 := hgl.le hLJ3
 rename_i L3
 clear hh3 hx hst hhs hh hle1
 have hpan' : pan < x0s.length := by omega
 clear hw hpan
 refine W.go 99 rfl ?_
 refine W.eff rfl rfl rfl (Ef.call rfl (DupBoil_t ⟨x0s, x0r, x0m, x0h, ps⟩ ⟨p0, p1, p2, p3, p4, c0, c1, c2, c3, c4⟩ _ hx3)) ?_
 rintro _ _ _ ⟨_, rfl, rfl, ⟨q0, q1, q2, q3, q4, d0, d1, d2, d3, d4⟩, rfl, hle4, hq4⟩
 rename_i L4
 have hb4 : BlAt L4 ⟨x0s, x0r, x0m, x0h, []⟩ ⟨q0, q1, q2, q3, none, d0, d1, d2, d3, 0⟩ := ⟨hq4.h0, hq4.h1, hq4.h2, hq4.h3, sl0, hq4.n0, hq4.n1, hq4.n2, hq4.n3, Nat.zero_le _, Nat.le_refl _⟩
 clear hq4
 have hL4 := hLJ3.trans hle4
 have hx4 := hx3.le hle4
 have hst4 := hst3.le hle4
 have hhs4 := hhs3.le hle4
 have hgl4 := hgl3.le hle4
 clear hx3 hst3 hhs3 hgl3 hLJ3 hle4
 refine W.go 99 rfl ?_
 have hp3' : ps.length ≤ 3 := hp3
 refine W.loop (fun w E B L' => ∃ (i : Nat) (a9 a10 : Option Addr) (k9 k10 : Nat) (ol od : Option Nat), w = ps.length - i ∧ i ≤ ps.length ∧ Le L4 L' ∧ Own L' 1 9 (.slice a9 i k9) i (((ps.take i).map lineP).flatMap encS) ol ∧ Own L' 1 9 (.slice a10 i k10) i ((List.replicate i okB).flatMap encS) od ∧ (∀ o, ol = some o → od ≠ some o) ∧ (∀ o, ol = some o → L4 o = none) ∧ (∀ o, od = some o → L4 o = none) ∧
   E = [(4, .p 0 0), (5, .v (.slice sa st.length sc)), (6, .v (.slice ha hs.length hc)), (7, .v (.int .i64 pan)), (8, .p 1 0), (9, .v (.slice a9 i k9)), (10, .v (.slice a10 i k10)), (11, .v (.int .i64 i))] ∧
   B = [some ⟨(blL ⟨x0s, x0r, x0m, x0h, ps⟩ ⟨p0, p1, p2, p3, p4, c0, c1, c2, c3, c4⟩).map .v, 28⟩, some ⟨(blL ⟨x0s, x0r, x0m, x0h, []⟩ ⟨q0, q1, q2, q3, none, d0, d1, d2, d3, 0⟩).map .v, 28⟩])
  ⟨0, none, none, 0, 0, none, none, rfl, Nat.zero_le _, Le.refl _, Own.nil, Own.nil, by simp, by simp, by simp, rfl, rfl⟩ (by exact ⟨rfl, rfl, rfl, rfl, rfl, rfl, rfl, rfl, trivial⟩) (by exact ⟨rfl, rfl, trivial⟩) ?_
 rintro _ _ _ L5 ⟨i, a9, a10, k9, k10, ol, od, rfl, hi, hL5, hol, hod, hab, hKa, hKb, rfl, rfl⟩ again
 refine W.go 99 rfl ?_
 refine W.split rfl rfl rfl (fun e1 => W.go 99 rfl ?_) (fun e1 => W.go 99 rfl ?_)
 ·have hil : i < ps.length := by
   have h : (i : Int) < (ps.length : Int) := of_decide_eq_true e1
   omega
  have h4 : SlAt L4 p4 3 encPr ps := hx4.h4
  obtain ⟨a, ha4⟩ := h4.addr hil
  subst ha4
  have hv := List.getElem?_eq_getElem hil
  have hPq := hPs _ (List.getElem_mem hil)
  have htk : ps.take (i + 1) = ps.take i ++ [ps[i]] := List.take_succ_eq_append_getElem hil
  generalize ps[i] = q at hv hPq htk
  refine W.vf rfl rfl rfl rfl (Vf.idx rfl rfl rfl rfl rfl rfl (hil)) ?_
  refine W.go 99 rfl ?_
  refine W.vf rfl rfl rfl rfl (Vf.loadN rfl rfl rfl ((h4.le hL5).whole hv rfl)) ?_
  refine W.go 99 rfl ?_
  refine W.goP [57] 99 rfl ?_
  refine W.pub 56 (.inr ⟨_, _, _, rfl⟩) rfl rfl ?_
  intro b9 hb9 _
  have hput := Le.put hb9 (.cells ([q.pan, q.tick, q.thread].flatMap encI).toArray 3)
  have hq9 := sl_block (l := [q.pan, q.tick, q.thread]) (e := 3) encI_len (put_same L5 b9 (.cells ([q.pan, q.tick, q.thread].flatMap encI).toArray 3))
  have hq100 : ∀ n ∈ [q.pan, q.tick, q.thread], n < 100 := fun n hn => by
   have a1 : 0 ≤ q.pan ∧ q.pan < (x0s.length : Int) := hPq.p0
   have a2 : 0 ≤ q.tick ∧ q.tick ≤ (x0h.length : Int) := hPq.t0
   have a3 := hPq.h0
   have a4 : x0h.length ≤ 3 := hM.h2
   simp only [List.mem_cons, List.not_mem_nil, or_false] at hn
   rcases hn with rfl | rfl | rfl <;> omega
  have hol6 := hol.le hput
  have hod6 := hod.le hput
  have hL6 := hL5.trans hput
  refine W.go 99 rfl ?_
  refine W.eff rfl rfl rfl (Ef.call rfl (LineOf_t 0 [q.pan, q.tick, q.thread] (some ⟨b9, 0, none⟩) 3 _ (by decide) hq9 (by simp) hq100)) ?_
  rintro _ _ _ ⟨_, rfl, rfl, rfl, rfl⟩
  refine W.go 99 rfl ?_
  refine W.eff rfl rfl rfl (Ef.growA (len := i) (m := 1) (vs := [str (lineP q)]) rfl rfl rfl rfl rfl rfl rfl rfl rfl (encS_sg _) hol6 (.own rfl rfl rfl rfl) (by omega)) ?_
  rintro _ _ _ ⟨v1, ol', rfl, rfl, ho1, hc1⟩
  refine W.go 99 rfl ?_
  obtain ⟨hod7, hab7, hKa7, hL7⟩ := app2 hol6 hod6 hab hKa hL6 ho1 hc1
  refine W.eff rfl rfl rfl (Ef.growA (len := i) (m := 1) (vs := [str okB]) rfl rfl rfl rfl rfl rfl rfl rfl rfl (encS_sg _) hod7 (.own rfl rfl rfl rfl) (by omega)) ?_
  rintro _ _ _ ⟨v2, od', rfl, rfl, ho2, hc2⟩
  refine W.go 99 rfl ?_
  obtain ⟨hol8, hab8, hKb8, hL8⟩ := app2 hod7 ho1 (fun o h1 h2 => hab7 o h2 h1) hKb hL7 ho2 hc2
  obtain ⟨a9', k9', rfl, _⟩ := hol8.slice
  obtain ⟨a10', k10', rfl, _⟩ := ho2.slice
  have hf1 : ((ps.take (i + 1)).map lineP).flatMap encS = ((ps.take i).map lineP).flatMap encS ++ [str (lineP q)] := by rw [htk]; simp
  have hf2 : (List.replicate (i + 1) okB).flatMap encS = (List.replicate i okB).flatMap encS ++ [str okB] := by rw [List.replicate_succ']; simp
  exact W.again (again _ _ _ _ (by omega) ⟨i + 1, a9', a10', k9', k10', ol', od', rfl, hil, hL8, by rw [hf1]; exact hol8, by rw [hf2]; exact ho2, fun o h1 h2 => hab8 o h2 h1, hKa7, hKb8, rfl, rfl⟩) (by exact ⟨rfl, rfl, rfl, rfl, rfl, rfl, rfl, congrArg some (inc64 (by omega)), trivial⟩) (by exact ⟨rfl, rfl, trivial⟩)
 ·have hil : i = ps.length := by
   have h : ¬ (i : Int) < (ps.length : Int) := of_decide_eq_false e1
   omega
  subst hil
  clear again e1
  rw [List.take_length] at hol
  have hx5 := hx4.le hL5
  have hst5 := hst4.le hL5
  have hhs5 := hhs4.le hL5
  have hb5 := hb4.le hL5
  have hgl5 := hgl4.le hL5
  have hLL5 := hL4.trans hL5
  have hS := Strike_t (X := C.X) ⟨x0s, x0r, x0m, x0h, ps⟩ ⟨p0, p1, p2, p3, p4, c0, c1, c2, c3, c4⟩ pan _ hx5
  have hSe : StrikeE ⟨x0s, x0r, x0m, x0h, ps⟩ (pan : Int) = (strikeB ⟨x0s, x0r, x0m, x0h, ps⟩ pan, if strikeB ⟨x0s, x0r, x0m, x0h, ps⟩ pan = [] then 11 else 0) := by
   have := strike_ok (ps := ps) (pan := pan) hM hR hPs (by omega) hpan'
   rw [show ({ (⟨x0s, x0r, x0m, x0h, []⟩ : Bl) with proofs := ps }) = (⟨x0s, x0r, x0m, x0h, ps⟩ : Bl) from rfl] at this
   rw [this]
   split
   ·rename_i h; rw [h]
   ·rfl
  have hSl : (strikeB ⟨x0s, x0r, x0m, x0h, ps⟩ pan).length ≤ x0h.length + 1 := Nat.le_trans (List.length_filter_le ..) (by rw [List.length_range]; exact Nat.le_refl _)
  have hSm : ∀ n ∈ strikeB ⟨x0s, x0r, x0m, x0h, ps⟩ pan, n ≤ x0h.length := fun n hn => by
   have : n < x0h.length + 1 := List.mem_range.1 (List.mem_filter.1 hn).1
   omega
  have hSg : ∀ n ∈ strikeB ⟨x0s, x0r, x0m, x0h, ps⟩ pan, threadB ⟨x0s, x0r, x0m, x0h, ps⟩ (st.getD pan 0 + thickB ⟨x0s, x0r, x0m, x0h, ps⟩ hs pan n) = 2 := fun n hn => strike_long (b := ⟨x0s, x0r, x0m, x0h, ps⟩) ⟨hR.xl, hR.xi, hR.hl, hR.hi⟩ (fun q hq => (hPs q hq).r) hpan' hn
  have hdue : dueOf ⟨x0s, x0r, x0m, x0h, ps⟩ pan = if strikeB ⟨x0s, x0r, x0m, x0h, ps⟩ pan = [] then errorB 11 else joinB ((strikeB ⟨x0s, x0r, x0m, x0h, ps⟩ pan).map itoaB) := rfl
  rw [hSe] at hS
  generalize strikeB ⟨x0s, x0r, x0m, x0h, ps⟩ pan = S at hS hSl hSm hSg hdue
  have hnl : (natI S).length = S.length := List.length_map ..
  clear hSe
  refine W.eff rfl rfl rfl (Ef.call rfl (hS)) ?_
  rintro _ _ _ ⟨_, rfl, rfl, a13, k13, rfl, hle6, hS6, hk13⟩
  simp only [hnl] at hS6 ⊢
  rename_i L6
  refine W.weak (E' := [(4, .p 0 0), (5, .v (.slice sa st.length sc)), (6, .v (.slice ha hs.length hc)), (7, .v (.int .i64 pan)), (8, .p 1 0), (9, .v (.slice a9 ps.length k9)), (10, .v (.slice a10 ps.length k10)), (67, .v (.tuple #[.slice a13 S.length k13, .int .i64 (if S = [] then 11 else 0)]))]) (B' := [some ⟨(blL ⟨x0s, x0r, x0m, x0h, ps⟩ ⟨p0, p1, p2, p3, p4, c0, c1, c2, c3, c4⟩).map .v, 28⟩, some ⟨(blL ⟨x0s, x0r, x0m, x0h, []⟩ ⟨q0, q1, q2, q3, none, d0, d1, d2, d3, 0⟩).map .v, 28⟩]) (by exact ⟨rfl, rfl, rfl, rfl, rfl, rfl, rfl, rfl, trivial⟩) (by exact ⟨rfl, rfl, trivial⟩) ?_
  refine W.goP [70] 99 rfl ?_
  refine W.cut2 (fun E B L' => SubE E [(4, .p 0 0), (5, .v (.slice sa st.length sc)), (6, .v (.slice ha hs.length hc)), (7, .v (.int .i64 pan)), (8, .p 1 0), (9, .v (.slice a9 ps.length k9)), (10, .v (.slice a10 ps.length k10)), (13, .v (.slice a13 S.length k13))] ∧ PreB B [some ⟨(blL ⟨x0s, x0r, x0m, x0h, ps⟩ ⟨p0, p1, p2, p3, p4, c0, c1, c2, c3, c4⟩).map .v, 28⟩, some ⟨(blL ⟨x0s, x0r, x0m, x0h, []⟩ ⟨q0, q1, q2, q3, none, d0, d1, d2, d3, 0⟩).map .v, 28⟩] ∧ L6 = L') ?_ ?_
  ·rintro E B _ ⟨hE, hB, rfl⟩
   refine W.weak hE hB ?_
   clear hE hB
   have hx6 := hx5.le hle6
   have hst6 := hst5.le hle6
   have hhs6 := hhs5.le hle6
   have hrl : x0r.length = x0s.length := hM.rl
   obtain ⟨rb1, rb2⟩ := hM.run hR
   have hpst : pan < st.length := by omega
   have hprl : pan < x0r.length := by omega
   have b2 : 0 ≤ x0r.getD pan 0 ∧ x0r.getD pan 0 ≤ 3 := by
    rw [getD_of (List.getElem?_eq_getElem hprl)]
    have := hM.rb _ (List.getElem_mem hprl)
    omega
   have hml : x0m.length ≤ 5 := by
    obtain ⟨m0, m1, m2, hm, _⟩ := hM.mrk
    have hm : x0m = [m0, m1, m2] := hm
    rw [hm]; show 3 ≤ 5; decide
   have herr : dueN S 0 = [101, 114, 114, 111, 114, 32, 49, 49] := by show errorB 11 = _; decide +kernel
   refine W.go 99 rfl ?_
   refine W.loop (fun w E B L' => ∃ i : Nat, w = S.length - i ∧ i ≤ S.length ∧ L6 = L' ∧ E = [(4, .p 0 0), (5, .v (.slice sa st.length sc)), (6, .v (.slice ha hs.length hc)), (7, .v (.int .i64 pan)), (8, .p 1 0), (9, .v (.slice a9 ps.length k9)), (10, .v (.slice a10 ps.length k10)), (13, .v (.slice a13 S.length k13)), (15, .v (str (dueN S i))), (16, .v (.int .i64 i))] ∧ B = [some ⟨(blL ⟨x0s, x0r, x0m, x0h, ps⟩ ⟨p0, p1, p2, p3, p4, c0, c1, c2, c3, c4⟩).map .v, 28⟩, some ⟨(blL ⟨x0s, x0r, x0m, x0h, []⟩ ⟨q0, q1, q2, q3, none, d0, d1, d2, d3, 0⟩).map .v, 28⟩])
    ⟨0, rfl, Nat.zero_le _, rfl, rfl, rfl⟩ (by exact ⟨rfl, rfl, rfl, rfl, rfl, rfl, rfl, rfl, congrArg (fun z => some (SV.v (str z))) herr.symm, rfl, trivial⟩) (by exact ⟨rfl, rfl, trivial⟩) ?_
   rintro _ _ _ _ ⟨i, rfl, hi, rfl, rfl, rfl⟩ again
   refine W.go 99 rfl ?_
   refine W.split rfl rfl rfl (fun e1 => W.go 99 rfl ?_) (fun e1 => W.go 99 rfl ?_)
   ·have hil : i < S.length := by
     have h : (i : Int) < (S.length : Int) := of_decide_eq_true e1
     omega
    have hni : i < (natI S).length := by omega
    obtain ⟨a, ha13⟩ := hS6.addr hni
    subst ha13
    have hv := List.getElem?_eq_getElem hil
    have hvn : (natI S)[i]? = some (S[i] : Int) := by unfold natI; rw [List.getElem?_map, hv]; rfl
    have hSn := hSm _ (List.getElem_mem hil)
    have hSg' := hSg _ (List.getElem_mem hil)
    have htk : S.take (i + 1) = S.take i ++ [S[i]] := List.take_succ_eq_append_getElem hil
    generalize S[i] = n at hv hvn hSn hSg' htk
    refine W.drawn (by kernel_rfl) _ (Le.refl _) ?_
    refine DD.run' [0, 1] rfl ?_
    refine DD.vf 2 rfl rfl rfl rfl rfl (Vf.idx1 rfl rfl rfl rfl rfl rfl rfl (hil)) ?_
    refine DD.vf 3 rfl rfl rfl rfl rfl (Vf.load rfl rfl rfl (hS6.int hvn)) ?_
    refine DD.run' [4, 5] rfl ?_
    refine DD.split 103 rfl (fun c => absurd c (by simp)) (fun _ => ?_)
    refine DD.run' [6, 7] rfl ?_
    refine DD.vf 8 rfl rfl rfl rfl rfl (Vf.idx1 rfl rfl rfl rfl rfl rfl rfl (hil)) ?_
    refine DD.vf 9 rfl rfl rfl rfl rfl (Vf.load rfl rfl rfl (hS6.int hvn)) ?_
    refine DD.run' [10, 11, 12, 13, 14] rfl ?_
    refine DD.split 112 rfl (fun c => absurd c (by simp; omega)) (fun _ => ?_)
    refine DD.run' [15, 16, 17, 18, 19, 20, 21] rfl ?_
    refine DD.vf 22 rfl rfl rfl rfl rfl (Vf.idx1 rfl rfl rfl rfl rfl rfl rfl (hil)) ?_
    refine DD.vf 23 rfl rfl rfl rfl rfl (Vf.load rfl rfl rfl (hS6.int hvn)) ?_
    refine DD.act 24 rfl rfl rfl rfl rfl (Ef.call rfl (ThickOf_t ⟨x0s, x0r, x0m, x0h, ps⟩ ⟨p0, p1, p2, p3, p4, c0, c1, c2, c3, c4⟩ st hs sa ha sc hc pan n _ hx6 hst6 hhs6 hpst hprl (by omega) (by omega) (rb1 _ hpst) b2 rb2)) (by rintro _ _ _ ⟨_, rfl, rfl, rfl, rfl⟩; exact ⟨Le.refl _, rfl, .inl rfl⟩) ?_
    rintro _ _ _ ⟨_, rfl, rfl, rfl, rfl⟩
    refine DD.act 25 rfl rfl rfl rfl rfl (Ef.call rfl (ThreadOf_t ⟨x0s, x0r, x0m, x0h, ps⟩ ⟨p0, p1, p2, p3, p4, c0, c1, c2, c3, c4⟩ (st.getD pan 0 + thickB ⟨x0s, x0r, x0m, x0h, ps⟩ hs pan n) _ hx6 hml)) (by rintro _ _ _ ⟨_, rfl, rfl, rfl, rfl⟩; exact ⟨Le.refl _, rfl, .inl rfl⟩) ?_
    rintro _ _ _ ⟨_, rfl, rfl, rfl, rfl⟩
    rw [hSg']
    refine DD.run' [26, 27] rfl ?_
    refine .fin rfl ?_
    refine W.go 99 rfl ?_
    refine W.split rfl rfl rfl (fun c => absurd c (by decide)) (fun c => ?_)
    refine W.go 99 rfl ?_
    have hn5 : n < 100 := by omega
    have hil2 := itoa_len ⟨n, hn5⟩
    simp only at hil2
    by_cases hi0 : i = 0
    ·subst hi0
     have hd1 : dueN S 1 = itoaB n := by
      unfold dueN
      rw [if_neg (by decide), htk]; rfl
     refine W.split rfl rfl rfl (fun _ => ?_) (fun h => absurd h (by simp))
     refine W.go 99 rfl ?_
     refine W.vf rfl rfl rfl rfl (Vf.idx1 rfl rfl rfl rfl rfl rfl rfl (hil)) ?_
     refine W.go 99 rfl ?_
     refine W.vf rfl rfl rfl rfl (Vf.load rfl rfl rfl (hS6.int hvn)) ?_
     refine W.go 99 rfl ?_
     refine W.eff rfl rfl rfl (Ef.call rfl (DigitsOf_t n _ hn5)) ?_
     rintro _ _ _ ⟨_, rfl, rfl, rfl, rfl⟩
     refine W.go 99 rfl ?_
     exact W.again (again _ _ _ _ (by omega) ⟨1, rfl, hil, rfl, rfl, rfl⟩) (by rw [hd1]; exact ⟨rfl, rfl, rfl, rfl, rfl, rfl, rfl, rfl, rfl, rfl, trivial⟩) (by exact ⟨rfl, rfl, trivial⟩)
    ·have hdi : dueN S i = joinB ((S.take i).map itoaB) := if_neg hi0
     have hd1 : dueN S (i + 1) = dueN S i ++ [32] ++ itoaB n := by
      rw [hdi]
      unfold dueN
      rw [if_neg (by omega), htk, List.map_append]
      exact joinB_snoc _ (fun h => by
       have := congrArg List.length h
       rw [List.length_map, List.length_take] at this
       simp only [List.length_nil] at this
       omega)
     have hdl : (dueN S i).length ≤ 11 * 5 + 10 := by
      rw [hdi]
      refine Nat.le_trans (joinB_len fun w hw => ?_) ?_
      ·obtain ⟨k, hk, rfl⟩ := List.mem_map.1 hw
       have hk5 := hSm k (List.mem_of_mem_take hk)
       have := itoa_len ⟨k, by omega⟩
       simp only at this
       omega
      ·rw [List.length_map, List.length_take]; omega
     refine W.split rfl rfl rfl (fun h => absurd h (by simp; omega)) (fun _ => ?_)
     refine W.go 99 rfl ?_
     refine W.vf rfl rfl rfl rfl (Vf.cat (l := dueN S i) (r := [32]) rfl rfl (by show _ + 1 ≤ _; omega)) ?_
     refine W.go 99 rfl ?_
     refine W.vf rfl rfl rfl rfl (Vf.idx1 rfl rfl rfl rfl rfl rfl rfl (hil)) ?_
     refine W.go 99 rfl ?_
     refine W.vf rfl rfl rfl rfl (Vf.load rfl rfl rfl (hS6.int hvn)) ?_
     refine W.go 99 rfl ?_
     refine W.eff rfl rfl rfl (Ef.call rfl (DigitsOf_t n _ hn5)) ?_
     rintro _ _ _ ⟨_, rfl, rfl, rfl, rfl⟩
     refine W.vf rfl rfl rfl rfl (Vf.cat (l := dueN S i ++ [32]) (r := itoaB n) rfl rfl (by rw [List.length_append, List.length_singleton]; omega)) ?_
     refine W.go 99 rfl ?_
     exact W.again (again _ _ _ _ (by omega) ⟨i + 1, rfl, hil, rfl, rfl, rfl⟩) (by rw [hd1]; exact ⟨rfl, rfl, rfl, rfl, rfl, rfl, rfl, rfl, rfl, congrArg some (inc64 (by omega)), trivial⟩) (by exact ⟨rfl, rfl, trivial⟩)
   ·have hil : i = S.length := by
     have h : ¬ (i : Int) < (S.length : Int) := of_decide_eq_false e1
     omega
    subst hil
    clear again e1
    rw [dueN_end, ← hdue]
    have hpi := itoa_len ⟨pan, by omega⟩
    simp only at hpi
    have hol6 := hol.le hle6
    have hod6 := hod.le hle6
    have hL46 := hL5.trans hle6
    refine W.eff rfl rfl rfl (Ef.call rfl (DigitsOf_t pan _ (by omega))) ?_
    rintro _ _ _ ⟨_, rfl, rfl, rfl, rfl⟩
    refine W.vf rfl rfl rfl rfl (Vf.cat (l := [119, 104, 101, 110, 32]) (r := itoaB pan) rfl rfl (by show 5 + _ ≤ _; omega)) ?_
    have hkit : [119, 104, 101, 110, 32] ++ itoaB pan = kitL 4 [(pan : Int)] := by
     unfold kitL tailB argB
     simp only [List.map_cons, List.map_nil, List.flatMap_cons, List.flatMap_nil]
     rw [if_neg (by omega), Int.toNat_natCast]
     simp [wordB, wordsB]
    rw [hkit]
    refine W.go 99 rfl ?_
    refine W.eff rfl rfl rfl (Ef.growA (len := ps.length) (m := 1) (vs := [str (kitL 4 [(pan : Int)])]) rfl rfl rfl rfl rfl rfl rfl rfl rfl (encS_sg _) hol6 (.own rfl rfl rfl rfl) (by omega)) ?_
    rintro _ _ _ ⟨v1, ol', rfl, rfl, ho1, hc1⟩
    refine W.go 99 rfl ?_
    obtain ⟨hod7, hab7, hKa7, hL7⟩ := app2 hol6 hod6 hab hKa hL46 ho1 hc1
    refine W.eff rfl rfl rfl (Ef.growA (len := ps.length) (m := 1) (vs := [str (dueOf ⟨x0s, x0r, x0m, x0h, ps⟩ pan)]) rfl rfl rfl rfl rfl rfl rfl rfl rfl (encS_sg _) hod7 (.own rfl rfl rfl rfl) (by omega)) ?_
    rintro _ _ _ ⟨v2, od', rfl, rfl, ho2, hc2⟩
    refine W.go 99 rfl ?_
    obtain ⟨hol8, hab8, hKb8, hL8⟩ := app2 hod7 ho1 (fun o h1 h2 => hab7 o h2 h1) hKb hL7 ho2 hc2
    obtain ⟨a9', k9', rfl, _⟩ := hol8.slice
    obtain ⟨a10', k10', rfl, _⟩ := ho2.slice
    have hll : (linesOf ps pan).length = ps.length + 1 := by unfold linesOf; simp
    have hxx : (xsOf ps pan).length = ps.length + 1 := by unfold xsOf; simp
    have hwl : (workN ⟨⟨x0s, x0r, x0m, x0h, []⟩, rowK, sawK⟩ (xsOf ps pan) (xsOf ps pan).length) = List.replicate ps.length okB ++ [dueOf ⟨x0s, x0r, x0m, x0h, ps⟩ pan] := work_ok (x0 := ⟨x0s, x0r, x0m, x0h, []⟩) (ps := ps) (pan := pan) hM hR hPs (by omega) hpan'
    have hlines : SlAt _ a9' 1 encS (linesOf ps pan) := (show Own _ 1 9 (.slice a9' (linesOf ps pan).length k9') (linesOf ps pan).length ((linesOf ps pan).flatMap encS) ol' by
     rw [hll]
     have e : (linesOf ps pan).flatMap encS = (ps.map lineP).flatMap encS ++ [str (kitL 4 [(pan : Int)])] := by unfold linesOf; simp
     rw [e]; exact hol8).at encS_len
    have hdues : SlAt _ a10' 1 encS (workN ⟨⟨x0s, x0r, x0m, x0h, []⟩, rowK, sawK⟩ (xsOf ps pan) (xsOf ps pan).length) := (show Own _ 1 9 (.slice a10' (workN ⟨⟨x0s, x0r, x0m, x0h, []⟩, rowK, sawK⟩ (xsOf ps pan) (xsOf ps pan).length).length k10') (workN ⟨⟨x0s, x0r, x0m, x0h, []⟩, rowK, sawK⟩ (xsOf ps pan) (xsOf ps pan).length).length ((workN ⟨⟨x0s, x0r, x0m, x0h, []⟩, rowK, sawK⟩ (xsOf ps pan) (xsOf ps pan).length).flatMap encS) od' by
     rw [workN_len, hwl, hxx]
     have e : (List.replicate ps.length okB ++ [dueOf ⟨x0s, x0r, x0m, x0h, ps⟩ pan]).flatMap encS = (List.replicate ps.length okB).flatMap encS ++ [str (dueOf ⟨x0s, x0r, x0m, x0h, ps⟩ pan)] := by simp
     rw [e]; exact ho2).at encS_len
    rename_i L8
    have hx8 := hx4.le hL8
    have hb8 := hb4.le hL8
    have hgl8 := hgl4.le hL8
    have hLL8 := hL4.trans hL8
    have hwk := struck_ok (x0 := ⟨x0s, x0r, x0m, x0h, []⟩) (ps := ps) (pan := pan) hM hR hPs hp3' hpan'
    have hde := desk_end (x0 := ⟨x0s, x0r, x0m, x0h, []⟩) (ps := ps) (pan := pan) (ro := rowK) (s := sawK) hM hR hPs (by omega)
    refine W.weak (E' := [(4, .p 0 0), (8, .p 1 0), (9, .v (.slice a9' (linesOf ps pan).length k9')), (10, .v (.slice a10' (xsOf ps pan).length k10'))]) (B' := [some ⟨(blL ⟨x0s, x0r, x0m, x0h, ps⟩ ⟨p0, p1, p2, p3, p4, c0, c1, c2, c3, c4⟩).map .v, 28⟩, some ⟨(blL ⟨x0s, x0r, x0m, x0h, []⟩ ⟨q0, q1, q2, q3, none, d0, d1, d2, d3, 0⟩).map .v, 28⟩]) (by exact ⟨rfl, rfl, congrArg (fun n => some (SV.v (.slice a9' n k9'))) hll.symm, congrArg (fun n => some (SV.v (.slice a10' n k10'))) hxx.symm, trivial⟩) (by exact ⟨rfl, rfl, trivial⟩) ?_
    clear hol8 ho2 hc1 hc2 ho1 hod7 hol6 hod6 hol hod hL7 hL46 hab hab7 hab8 hKa hKa7 hKb hKb8 hS6 hSg hSm
    refine W.drawn (by kernel_rfl) _ (Le.refl _) ?_
    refine DD.run' [0, 3, 11, 12, 13] rfl ?_
    refine DD.act 1 rfl rfl rfl rfl rfl (Ef.call rfl (colours_t _)) ((by rintro _ _ _ ⟨_, rfl, rfl, _, rfl, hl, _⟩; exact ⟨hl, rfl, .inl rfl⟩)) ?_
    rintro _ _ _ ⟨_, rfl, rfl, pr, rfl, hlA, hrA⟩
    refine DD.act 2 rfl rfl rfl rfl rfl (Ef.call rfl (loaves_t _)) ((by rintro _ _ _ ⟨_, rfl, rfl, _, rfl, hl, _⟩; exact ⟨hlA.trans hl, rfl, .inl rfl⟩)) ?_
    rintro _ _ _ ⟨_, rfl, rfl, pw, rfl, hlB, hsB⟩
    have hAB := hlA.trans hlB
    refine DD.act 4 rfl rfl rfl rfl rfl (Ef.call rfl (bookOf_t ⟨x0s, x0r, x0m, x0h, []⟩ rowK sawK (linesOf ps pan) ⟨q0, q1, q2, q3, none, d0, d1, d2, d3, 0⟩ pr pw a9' k9' _ (hb8.le hAB) (hrA.le hlB) hsB (hlines.le hAB) (by omega))) ((by rintro _ _ _ ⟨_, rfl, rfl, _, rfl, hl, _⟩; exact ⟨hAB.trans hl, rfl, .inl rfl⟩)) ?_
    rintro _ _ _ ⟨_, rfl, rfl, pk, rfl, hlC, hkC⟩
    have hABC := hAB.trans hlC
    have hFi := Files_t (X := C.X) (bookK ⟨x0s, x0r, x0m, x0h, []⟩ rowK sawK (linesOf ps pan)) pk (xsOf ps pan) _ (hgl8.le hABC) hkC hwk
    rw [show (⟨(bookK ⟨x0s, x0r, x0m, x0h, []⟩ rowK sawK (linesOf ps pan)).b, (bookK ⟨x0s, x0r, x0m, x0h, []⟩ rowK sawK (linesOf ps pan)).ro, (bookK ⟨x0s, x0r, x0m, x0h, []⟩ rowK sawK (linesOf ps pan)).s⟩ : Fi) = ⟨{ (⟨x0s, x0r, x0m, x0h, []⟩ : Bl) with proofs := [] }, rowK, sawK⟩ from rfl, hde] at hFi
    refine DD.act 5 rfl rfl rfl rfl rfl (Ef.call rfl (hFi)) ((by rintro _ _ _ ⟨_, rfl, rfl, _, rfl, hl, _⟩; exact ⟨hABC.trans hl, rfl, .inl rfl⟩)) ?_
    rintro _ _ _ ⟨_, rfl, rfl, pF, rfl, hlD, hFD⟩
    have hABCD := hABC.trans hlD
    refine DD.run' [6, 7, 8, 9, 10] rfl ?_
    refine DD.act 14 rfl rfl rfl rfl rfl (Ef.sto rfl) ((by rintro _ _ _ ⟨rfl, rfl, rfl⟩; exact ⟨hABCD, rfl, .inl rfl⟩)) ?_
    rintro _ _ _ ⟨rfl, rfl, rfl⟩
    refine DD.act 15 rfl rfl rfl rfl rfl (Ef.sto rfl) ((by rintro _ _ _ ⟨rfl, rfl, rfl⟩; exact ⟨hABCD, rfl, .inl rfl⟩)) ?_
    rintro _ _ _ ⟨rfl, rfl, rfl⟩
    refine DD.act 16 rfl rfl rfl rfl rfl (Ef.sto rfl) ((by rintro _ _ _ ⟨rfl, rfl, rfl⟩; exact ⟨hABCD, rfl, .inl rfl⟩)) ?_
    rintro _ _ _ ⟨rfl, rfl, rfl⟩
    refine DD.run' [17] rfl ?_
    refine .fin rfl ?_
    rename_i L12
    have hx12 := hx8.le hABCD
    have hb12 := hb8.le hABCD
    have hgl12 := hgl8.le hABCD
    have hlines12 := hlines.le hABCD
    have hdues12 := hdues.le hABCD
    have hLL12 := hLL8.trans hABCD
    have hF12 : BlAt L12 ⟨x0s, x0r, x0m, x0h, ps⟩ pF.b := hFD.b
    refine W.weak (E' := [(4, .p 0 0), (8, .p 1 0), (9, .v (.slice a9' (linesOf ps pan).length k9')), (10, .v (.slice a10' (xsOf ps pan).length k10')), (17, .p 2 0), (20, .v (.int .i64 0))]) (B' := [some ⟨(blL ⟨x0s, x0r, x0m, x0h, ps⟩ ⟨p0, p1, p2, p3, p4, c0, c1, c2, c3, c4⟩).map .v, 28⟩, some ⟨(blL ⟨x0s, x0r, x0m, x0h, []⟩ ⟨q0, q1, q2, q3, none, d0, d1, d2, d3, 0⟩).map .v, 28⟩, some ⟨(blL ⟨x0s, x0r, x0m, x0h, ps⟩ pF.b).map .v, 28⟩]) (by exact ⟨rfl, rfl, rfl, rfl, rfl, rfl, trivial⟩) (by exact ⟨rfl, rfl, rfl, trivial⟩) ?_
    clear hFD hFi hkC hrA hsB hlA hlB hlC hlD hAB hABC hx8 hb8 hlines hdues
    refine W.go 99 rfl ?_
    refine W.drawn (by kernel_rfl) _ (Le.refl _) ?_
    refine DD.run' [0, 1, 2] rfl ?_
    refine DD.split 164 rfl (fun _ => ?_) (fun c => absurd c (by decide))
    refine DD.run' [3, 4] rfl ?_
    refine DD.act 5 rfl rfl rfl rfl rfl (Ef.call rfl (EqBoils_t ⟨x0s, x0r, x0m, x0h, ps⟩ pF.b ⟨p0, p1, p2, p3, p4, c0, c1, c2, c3, c4⟩ _ hF12 hx12)) (by rintro _ _ _ ⟨_, rfl, rfl, rfl, rfl⟩; exact ⟨Le.refl _, rfl, .inl rfl⟩) ?_
    rintro _ _ _ ⟨_, rfl, rfl, rfl, rfl⟩
    refine DD.run' [6, 7] rfl ?_
    refine DD.split 169 rfl (fun _ => ?_) (fun c => absurd c (by decide))
    refine DD.run' [8, 11, 12] rfl ?_
    refine DD.act 9 rfl rfl rfl rfl rfl (Ef.call rfl (colours_t _)) ((by rintro _ _ _ ⟨_, rfl, rfl, _, rfl, hl, _⟩; exact ⟨hl, rfl, .inl rfl⟩)) ?_
    rintro _ _ _ ⟨_, rfl, rfl, pr, rfl, hlA, hrA⟩
    refine DD.act 10 rfl rfl rfl rfl rfl (Ef.call rfl (loaves_t _)) ((by rintro _ _ _ ⟨_, rfl, rfl, _, rfl, hl, _⟩; exact ⟨hlA.trans hl, rfl, .inl rfl⟩)) ?_
    rintro _ _ _ ⟨_, rfl, rfl, pw, rfl, hlB, hsB⟩
    have hAB := hlA.trans hlB
    refine DD.act 13 rfl rfl rfl rfl rfl (Ef.call rfl (says_t ⟨x0s, x0r, x0m, x0h, []⟩ rowK sawK (linesOf ps pan) (xsOf ps pan) ⟨q0, q1, q2, q3, none, d0, d1, d2, d3, 0⟩ pr pw a9' a10' k9' k10' _ (hgl12.le hAB) (hb12.le hAB) (hrA.le hlB) hsB (hlines12.le hAB) hwk (hdues12.le hAB))) ((by rintro _ _ _ ⟨_, rfl, rfl, rfl, hl⟩; exact ⟨hAB.trans hl, rfl, .inl rfl⟩)) ?_
    rintro _ _ _ ⟨_, rfl, rfl, rfl, hlC⟩
    have hABC := hAB.trans hlC
    refine DD.run' [14, 15] rfl ?_
    refine DD.split 177 rfl (fun _ => ?_) (fun c => absurd c (by decide))
    refine DD.act 16 rfl rfl rfl rfl rfl (Ef.call rfl (timed_t _ (hgl12.le hABC))) ((by rintro _ _ _ ⟨_, rfl, rfl, rfl, hl⟩; exact ⟨hABC.trans hl, rfl, .inl rfl⟩)) ?_
    rintro _ _ _ ⟨_, rfl, rfl, rfl, hlD⟩
    refine DD.run' [17, 18] rfl ?_
    refine .fin rfl ?_
    refine W.go 99 rfl ?_
    exact W.retO r rfl ⟨rfl, hLL12.trans (hABC.trans hlD)⟩
  ·intro rest
   by_cases hSn : S = []
   ·rw [if_pos hSn]
    subst hSn
    refine W.go 99 rfl ?_
    refine W.split rfl rfl rfl (fun c => ?_) (fun c => absurd c (by decide))
    refine W.go 99 rfl ?_
    refine W.split rfl rfl rfl (fun c => absurd c (by decide)) (fun c => ?_)
    refine W.go 99 rfl ?_
    refine W.split rfl rfl rfl (fun h => absurd h (by decide)) (fun _ => ?_)
    refine W.go 99 rfl ?_
    have hw : IntKind.i64.wrap ((hs.length : Int) + 1) = (hs.length : Int) + 1 := wrap64_in _ (by omega) (by omega)
    refine W.split rfl rfl rfl (fun h => absurd h (by rw [hw]; simp; omega)) (fun _ => ?_)
    refine W.go 2 rfl ?_
    exact rest _ _ _ ⟨(by exact ⟨rfl, rfl, rfl, rfl, rfl, rfl, rfl, rfl, trivial⟩), (by exact ⟨rfl, rfl, trivial⟩), rfl⟩
   ·rw [if_neg hSn]
    have hS1 : 1 ≤ S.length := by
     cases S with
     | nil => exact absurd rfl hSn
     | cons _ _ => simp
    have hd1 : decide ((0 : Int) < (S.length : Int)) = true := decide_eq_true (by omega)
    refine W.go 99 rfl ?_
    refine W.split rfl rfl rfl (fun c => absurd c (by decide)) (fun c => ?_)
    refine W.go 99 rfl ?_
    refine W.split rfl rfl rfl (fun h => absurd h (by rw [hd1]; decide)) (fun _ => ?_)
    refine W.go 99 rfl ?_
    have hw : IntKind.i64.wrap ((hs.length : Int) + 1) = (hs.length : Int) + 1 := wrap64_in _ (by omega) (by omega)
    refine W.split rfl rfl rfl (fun h => absurd h (by rw [hw]; simp; omega)) (fun _ => ?_)
    refine W.go 2 rfl ?_
    exact rest _ _ _ ⟨(by exact ⟨rfl, rfl, rfl, rfl, rfl, rfl, rfl, rfl, trivial⟩), (by exact ⟨rfl, rfl, trivial⟩), rfl⟩
end Go.Mz

