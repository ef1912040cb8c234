/- Part 6 of the library and the walks that the law's proof stands on: no condition. -/
import Derived.Test.YtbncfiijlnakkaaHlE
section
namespace Go.Proofs.Ytbncfiijlnakkaa
open Go.Hl
set_option maxHeartbeats 8000000
variable {h : H}
theorem bin_eql_agg {P : Program} {t : TypeId} {sh : List Leaf} {a b : List V} {r : Bool} (h1 : isStruct P t = true) (h2 : flatSh P 100 t = some sh) (h3 : P.eqGuardType P.depth t = false) (ha : fits sh a = true) (hb : fits sh b = true) (hc : cellsEq a b = some r) :
    binV P .eql t (.agg a) (.agg b) = some (.bool r) := by
  unfold isStruct at h1
  have h4 : eqOp P t (.agg a) (.agg b) = some r := by
    unfold eqOp
    split at h1
    · rename_i fs hu
      rw [hu]
      simp only [h2, h3, ha, hb, hc]
      rfl
    · cases h1
  unfold binV
  simp only [h4]
  rfl
def arrB (P : Program) (t e : TypeId) (n : Nat) : Bool := match P.info? t, P.underlying t with
  | some i, some (.array m x) => decide (m = n) && decide (x = e) && decide (i.size = n)
  | _, _ => false
theorem flat_arr {P : Program} {t e : TypeId} {n d : Nat} {k : Leaf} (h : arrB P t e n = true) (he : flatSh P d e = some [k]) : flatSh P (d + 1) t = some (List.replicate n [k]).flatten := by
  unfold arrB at h
  split at h
  · rename_i i m x hi hu
    simp only [Bool.and_eq_true, decide_eq_true_eq] at h
    obtain ⟨⟨rfl, rfl⟩, h3⟩ := h
    rw [flatSh, hi, hu]
    simp only [he]
    rw [if_pos ⟨by rw [h3]; simp, by simp⟩]
  · cases h
def five (P : Program) (t x y : TypeId) : Bool := match P.info? t, P.underlying t with
  | some i, some (.struct fs) => !P.stoodInHeld t && decide (i.size = 22) && match fs.toList with
    | [a, b, c, d, e] => (decide (a.name ≠ "_") && decide (a.offset = 0) && decide (a.type = x)) && (decide (b.name ≠ "_") && decide (b.offset = 1) && decide (b.type = x)) && (decide (c.name ≠ "_") && decide (c.offset = 2) && decide (c.type = x)) &&
        (decide (d.name ≠ "_") && decide (d.offset = 3) && decide (d.type = y)) && (decide (e.name ≠ "_") && decide (e.offset = 21) && decide (e.type = x))
    | _ => false
  | _, _ => false
theorem flat_five {P : Program} {t x y : TypeId} {d : Nat} (h : five P t x y = true) (ha : flatSh P d x = some [.i]) (hb : flatSh P d y = some (List.replicate 18 [.i]).flatten) : flatSh P (d + 1) t = some (List.replicate 22 .i) := by
  unfold five at h
  split at h
  · rename_i i fs hi hu
    rw [flatSh, hi, hu]
    simp only [Bool.and_eq_true, Bool.not_eq_true', decide_eq_true_eq] at h
    obtain ⟨⟨h1, h2⟩, h3⟩ := h
    split at h3
    · rename_i f0 f1 f2 f3 f4 hfs
      simp only [Bool.and_eq_true, decide_eq_true_eq] at h3
      obtain ⟨⟨⟨⟨⟨⟨n1, o1⟩, t1⟩, ⟨⟨n2, o2⟩, t2⟩⟩, ⟨⟨n3, o3⟩, t3⟩⟩, ⟨⟨n4, o4⟩, t4⟩⟩, ⟨⟨n5, o5⟩, t5⟩⟩ := h3
      simp (dsimp := false) [h1, hfs, flatSh.flatFs, n1, o1, t1, n2, o2, t2, n3, o3, t3, n4, o4, t4, n5, o5, t5, ha, hb, h2]
    · cases h3
  · cases h
theorem cells_refl (t : Ta) : cellsEq t.cells t.cells = some true := by simp (dsimp := false) [Ta.cells, cellsEq]
theorem tally_eql (t : Ta) : binV Try.prog .eql 61 (.agg t.cells) (.agg t.cells) = some (.bool true) :=
  bin_eql_agg (sh := List.replicate 22 .i) (by kernel_rfl) (flat_five (x := 3) (y := 59) (by kernel_rfl) (flat_I (by kernel_rfl) _) (flat_arr (e := 3) (by kernel_rfl) (flat_I (by kernel_rfl) _))) (by kernel_rfl) rfl rfl (cells_refl t)
/-- One element more, in a block that is known. -/
theorem append_atG {l : List Blk} {es : List (Nat × Nat)} {cs ys : List V} {k g esz eb b j : Nat} (hb : l[b]? = some ⟨cs, g, 0, false⟩) (hj : l[j]? = some ⟨ys, 0, 0, false⟩) (hc : cs.length = k * esz) (hy : ys.length = esz) (hz : 0 < esz) (hok : ys.all V.cellOk = true)
    (h1 : (k + 1) * eb ≤ 70368744177664) (h2 : k + 1 ≤ 70368744177664) :
    appendV esz eb ⟨l, es⟩ (.sl b 0 k g esz false) (.sl j 0 1 0 esz false) = some (.sl b 0 (k + 1) (g + 1) esz false, ⟨l.set b ⟨cs ++ ys, g + 1, 0, false⟩, es ++ escs b ys⟩) := by
  have hr : H.read ⟨l, es⟩ j 0 0 esz = some ys := by
    simp only [H.read, hj]
    rw [if_pos ⟨Nat.le_refl _, Nat.le_refl _⟩, List.drop_zero, List.take_of_length_le (Nat.le_of_eq hy)]
  have e1 : 1 * esz = esz := Nat.one_mul _
  have e2 : 0 + k * esz = cs.length := by omega
  simp only [appendV, sourceOf, if_true, e1, hr, Option.map_some, lenV_sl, appendTo, hb, e2, H.grow]
  rw [if_neg (by decide), if_pos ⟨hz, h1, h2⟩]
  simp (dsimp := false) [hok]
def PEl.str (p : PEl) : Bs := putP p.f p.t p.tag (cutL (p.l.map El.c))
def dgs (b0 : Bs) (l : List PEl) : List Dg := ⟨0, 0, b0⟩ :: l.map fun p => ⟨1, 0, p.str⟩
def ssl (b0 : Bs) (l : List PEl) : List Bs := (dgs b0 l).map Dg.s
theorem dgs_snoc (b0 : Bs) (l : List PEl) (p : PEl) : dgs b0 (l ++ [p]) = dgs b0 l ++ [⟨1, 0, p.str⟩] := by simp (dsimp := false) [dgs]
theorem ssl_snoc (b0 : Bs) (l : List PEl) (p : PEl) : ssl b0 (l ++ [p]) = ssl b0 l ++ [p.str] := by simp (dsimp := false) [ssl, dgs_snoc]
theorem dgs_apart (L : List Dg) (e : El) : ∃ c ∈ e.cells, c ∉ L.flatMap Dg.cells :=
  ⟨.int .i64 e.c.typ, by simp (dsimp := false) [El.cells, Ck.cells], fun h => by simp (dsimp := false) [Dg.cells] at h⟩
theorem tally_first {b0 : Bs} (h : b0.length ≤ 11) : (sumT [b0]).cells = [.int .i64 1, .int .i64 b0.length, .int .i64 1, .int .i64 0, .int .i64 0, .int .i64 0, .int .i64 0, .int .i64 0, .int .i64 0, .int .i64 0, .int .i64 0, .int .i64 0, .int .i64 0, .int .i64 0, .int .i64 0, .int .i64 0, .int .i64 0, .int .i64 0, .int .i64 0, .int .i64 0, .int .i64 0, .int .i64 0] := by
  have hg : getP b0 = (pk0, 2) := by
    unfold getP
    rw [if_neg (by omega), if_pos (by omega)]
  simp (dsimp := false) [sumT, oneT, Ta.add, Ta.cells, ta0, hg, cntC, datC, pk0]
theorem str_len (p : PEl) : p.str.length ≤ 1400 := by
  unfold PEl.str
  rcases putP_cases p.f p.t p.tag (cutL (p.l.map El.c)) with hp | ⟨s, h12, h14, hp⟩
  · rw [hp]
    simp
  · rw [hp, sealL_len (by omega)]
    exact h14
theorem one_nil : oneT [] = ⟨1, 0, 1, fun _ => 0, 0⟩ := by
  have hg : getP [] = (pk0, 2) := rfl
  unfold oneT
  rw [hg]
  simp (dsimp := false) [pk0, datC]
  rfl
theorem Sl.of_blk {l m : List Blk} {L : List Dg} {es : List (Nat × Nat)} {g : Nat} : Sl ⟨l ++ ⟨L.flatMap Dg.cells, g, 0, false⟩ :: m, es⟩ 3 L.length (L.flatMap Dg.cells) (.sl l.length 0 L.length g 3 false) :=
  .inr ⟨_, _, _, _, ⟨L.flatMap Dg.cells, g, 0, false⟩, rfl, by simp, Nat.zero_le _, Nat.le_refl g, by rw [List.drop_zero, List.take_of_length_le (by rw [flat_len Dg.cells_len]; exact Nat.le_refl _)], by rw [flat_len Dg.cells_len]⟩
theorem Sl.of_take {l m : List Blk} {L : List Dg} {es : List (Nat × Nat)} {g k : Nat} (hk : k ≤ L.length) : Sl ⟨l ++ ⟨L.flatMap Dg.cells, g, 0, false⟩ :: m, es⟩ 3 (L.take k).length ((L.take k).flatMap Dg.cells) (.sl l.length 0 k g 3 false) := by
  have e : (L.take k).length = k := by
    simp
    omega
  refine .inr ⟨_, _, _, _, ⟨L.flatMap Dg.cells, g, 0, false⟩, by rw [e], by simp, Nat.zero_le _, Nat.le_refl g, ?_, ?_⟩
  · rw [List.drop_zero, e]
    have h1 : L.flatMap Dg.cells = (L.take k).flatMap Dg.cells ++ (L.drop k).flatMap Dg.cells := by rw [← List.flatMap_append, List.take_append_drop]
    rw [h1, List.take_left' (by rw [flat_len Dg.cells_len, e])]
  · rw [flat_len Dg.cells_len, e]
theorem Sl.of_drop {l m : List Blk} {L : List Dg} {es : List (Nat × Nat)} {g k : Nat} (hk : k ≤ L.length) : Sl ⟨l ++ ⟨L.flatMap Dg.cells, g, 0, false⟩ :: m, es⟩ 3 (L.drop k).length ((L.drop k).flatMap Dg.cells) (.sl l.length (k * 3) (L.length - k) g 3 false) := by
  have e : (L.take k).length = k := by
    simp
    omega
  have e2 : (L.drop k).length = L.length - k := by simp
  refine .inr ⟨_, _, _, _, ⟨L.flatMap Dg.cells, g, 0, false⟩, by rw [e2], by simp, Nat.zero_le _, Nat.le_refl g, ?_, ?_⟩
  · have h1 : L.flatMap Dg.cells = (L.take k).flatMap Dg.cells ++ (L.drop k).flatMap Dg.cells := by rw [← List.flatMap_append, List.take_append_drop]
    rw [h1, List.drop_left' (by rw [flat_len Dg.cells_len, e]), List.take_of_length_le (by rw [flat_len Dg.cells_len]; exact Nat.le_refl _)]
  · rw [flat_len Dg.cells_len, e2, Nat.sub_mul]
theorem sum_app : ∀ (a b : List Bs), sumT (a ++ b) = (sumT a).add (sumT b) := fun a b => by
  refine snoc_ind (P := fun b => sumT (a ++ b) = (sumT a).add (sumT b)) ?_ (fun b s ih => ?_) b
  · rw [List.append_nil]
    unfold Ta.add
    simp (dsimp := false) [sumT, ta0]
  · rw [← List.append_assoc, sumT_snoc, ih, sumT_snoc]
    unfold Ta.add
    simp (dsimp := false) [Int.add_assoc]
end Go.Proofs.Ytbncfiijlnakkaa
end
section
namespace Go.Proofs.Ytbncfiijlnakkaa
open Go.Hl
set_option maxHeartbeats 8000000
variable {h : H}
set_option maxRecDepth 100000 in
theorem measureAdds_row {l : List PEl} {v : V} {bad : Bs} (hs : PksIs h l v) (hw : ∀ p ∈ l, p.wide) (_ : l.length ≤ maxLen) (hb : bad.length ≤ 140737488351232) :
    Ok (Does Try.prog putC 12 [v, .str bad] h) fun x => x.1 = .bool true := by
  have hlen := hs.sl.len Try.underlying63
  have hs' := hs.sl.blks (h' := ⟨h.blks, []⟩) rfl
  obtain ⟨p, pf, hia, hrd, -, -⟩ := hs'.atF PEl.cells_len
  obtain ⟨mm, hm, hm1, hm2⟩ : ∃ m : Nat, (if (11 : Int) < (bad.length : Int) then 11 else (bad.length : Int)) = (m : Int) ∧ m ≤ bad.length ∧ m ≤ 11 := ⟨min bad.length 11, by split <;> omega, Nat.min_le_left .., Nat.min_le_right ..⟩
  obtain ⟨b0, hb0⟩ : ∃ b0, b0 = bad.take mm := ⟨_, rfl⟩
  have hb0l : b0.length = mm := by
    rw [hb0]
    simp
    omega
  have htf := tally_first (b0 := b0) (by omega)
  rw [hb0l] at htf
  obtain ⟨N, hN⟩ : ∃ n, n = min 8 l.length := ⟨_, rfl⟩
  have hss : ∀ L : List PEl, L.length ≤ 8 → ∀ s ∈ ssl b0 L, s.length ≤ 2000 := fun L _ s hs => by
    simp only [ssl, dgs, List.map_cons, List.map_map, List.mem_cons, List.mem_map, Function.comp] at hs
    rcases hs with rfl | ⟨q, -, rfl⟩
    · omega
    · have := str_len q
      omega
  refine Does_wp (n := 160) (rs := [.tmp 4]) Try.func12 (by kernel_rfl) rfl rfl rfl (by simp) fun σ hg => ?_
  simp (dsimp := false) [hg, splice, hm, hm1]
  refine W_loopM (fun k σ h' => ∃ i m es, k = N - i ∧ i ≤ N ∧ h' = ⟨h.blks ++ (⟨(dgs b0 (l.take i)).flatMap Dg.cells, i, 0, false⟩ :: ⟨(sumT (ssl b0 (l.take i))).cells, 0, 0, false⟩ :: m), es⟩ ∧
    σ 0 = v ∧ σ 5 = .sl h.blks.length 0 (i + 1) i 3 false ∧ σ 6 = .ptr (h.blks.length + 1) 0 0 22 ∧ σ 7 = .int .i64 i ∧ ∀ y ∈ es, h.blks.length ≤ y.1) ?_ N _ _ ?_
  · rintro _ σ _ ⟨i, m, es, rfl, hi, rfl, g0, g5, g6, g7, hes⟩
    by_cases hlt : i < N
    · have hli : i < l.length := by omega
      have d1 := eq_true hli
      have d2 := eq_true (show (i : Int) < 8 by omega)
      have hmem := List.getElem_mem hli
      have hwp := hw l[i] hmem
      have hia := hia i hli
      have hwc : ∀ c ∈ l[i].l.map El.c, c.Wide := fun c hc => by
        obtain ⟨e, he, rfl⟩ := List.mem_map.1 hc
        exact (hwp.1 e he).1
      have hback := cutL_back hwc
      have htag := hwp.2.2
      simp (dsimp := false) [Lit.wf, IntKind.min, IntKind.max, IntKind.bits, IntKind.signed] at htag
      have hsT := sumT_in (hss (l.take i) (by simp; omega))
      have hsL : (ssl b0 (l.take i)).length = i + 1 := by
        simp (dsimp := false) [ssl, dgs]
        omega
      have hin := in_le hsT (b := 900000000) (by rw [hsL]; omega)
      have hDl : ((dgs b0 (l.take i)).flatMap Dg.cells).length = (i + 1) * 3 := by
        rw [flat_len Dg.cells_len]
        simp (dsimp := false) [dgs]
        omega
      have hDn : dgs b0 (l.take (i + 1)) = dgs b0 (l.take i) ++ [⟨1, 0, l[i].str⟩] := by rw [List.take_succ_eq_append_getElem hli, dgs_snoc]
      have hSn : sumT (ssl b0 (l.take (i + 1))) = (sumT (ssl b0 (l.take i))).add (oneT l[i].str) := by rw [List.take_succ_eq_append_getElem hli, ssl_snoc, sumT_snoc]
      have hDa := dgs_apart (dgs b0 (l.take i))
      obtain ⟨X, hX⟩ : ∃ X, X = sumT (ssl b0 (l.take i)) := ⟨_, rfl⟩
      obtain ⟨D, hD⟩ : ∃ D, D = (dgs b0 (l.take i)).flatMap Dg.cells := ⟨_, rfl⟩
      rw [← hX] at hin hSn
      rw [← hD] at hDl hDa
      have hDn' : D ++ [.int .u32 1, .int .u32 0, .str l[i].str] = (dgs b0 (l.take (i + 1))).flatMap Dg.cells := by
        rw [hDn, List.flatMap_append, ← hD]
        rfl
      rw [← hX, ← hD]
      have hok := CksIs.app (es' := es) ((hs.el l[i] hmem).blks (h' := ⟨h.blks, []⟩) rfl) (⟨D, i, 0, false⟩ :: ⟨X.cells, 0, 0, false⟩ :: m)
      have hrd := hrd i hli ⟨h.blks ++ (⟨D, i, 0, false⟩ :: ⟨X.cells, 0, 0, false⟩ :: m), es⟩ ⟨⟨D, i, 0, false⟩ :: ⟨X.cells, 0, 0, false⟩ :: m, es, by simp, hes⟩
      obtain ⟨⟨x1, x2⟩, hx, L, w, hv, ⟨m', es', he2, hes'⟩, hS, hL⟩ := cut07 (C := putC) (f := l[i].f) (t := l[i].t) (tag := l[i].tag) (h := ⟨h.blks ++ (⟨D, i, 0, false⟩ :: ⟨X.cells, 0, 0, false⟩ :: m), es⟩) hok hwp.1
      obtain ⟨hsm, hll⟩ := cutL_small hL
      simp only at hv he2 hS
      subst hv he2
      have hQ := rdoc7_Put (f := l[i].f) (t := l[i].t) (tag := l[i].tag) (CksIs.app (es' := es ++ es') hS [⟨[.int .i64 l[i].f, .int .i64 l[i].t, .int .u32 l[i].tag, w], 0, 0, false⟩]) (by omega) hsm (cutL_gaps hL hwc)
      have hback' := putP_back (f := l[i].f) (t := l[i].t) (tag := l[i].tag) hback ⟨by omega, by omega⟩
      obtain ⟨cs, hcs⟩ : ∃ cs, cs = cutL (l[i].l.map El.c) := ⟨_, rfl⟩
      have hstr : l[i].str = putP l[i].f l[i].t l[i].tag cs := by rw [hcs]; rfl
      have hsl := str_len l[i]
      rw [hL, putP_eq (fun c hc => (hback c hc).1), ← hcs, ← hstr] at hQ
      rw [← hcs, ← hstr] at hback'
      rw [← hcs] at hL
      generalize l[i].str = s at *
      have ha := append_atG (l := h.blks ++ (⟨D, i, 0, false⟩ :: ⟨X.cells, 0, 0, false⟩ :: (m ++ (m' ++ [⟨[.int .i64 l[i].f, .int .i64 l[i].t, .int .u32 l[i].tag, w], 0, 0, false⟩, ⟨[.int .u32 1, .int .u32 0, .str s], 0, 0, false⟩])))) (es := es ++ es') (cs := D) (ys := [.int .u32 1, .int .u32 0, .str s]) (k := i + 1) (g := i) (esz := 3) (eb := 24) (b := h.blks.length) (j := h.blks.length + (m.length + (m'.length + 1) + 1 + 1)) (by simp) (by simp) hDl rfl (by decide) rfl (by omega) (by omega)
      have hfw := hS.sl.facts
      have hfw1 := (CksIs.app (es' := es ++ es') hS [default]).sl.facts
      have h1 := hin.pk
      have h2 := hin.by_
      have h3 := hin.bad
      have w0 : IntKind.i64.wrap (X.pk + 1) = X.pk + 1 := wrap_i64 (by omega) (by omega)
      have w1 : IntKind.i64.wrap (X.by_ + (s.length : Int)) = X.by_ + (s.length : Int) := wrap_i64 (by omega) (by omega)
      have w2 : IntKind.i64.wrap (X.bad + 1) = X.bad + 1 := wrap_i64 (by omega) (by omega)
      simp at hfw hfw1
      unfold PEl.cells at hrd
      simp (dsimp := false) [Ta.cells] at hx hQ ha hrd
      have hesn : ∀ y ∈ es ++ es', h.blks.length ≤ y.1 := fun y hy => by
        rcases List.mem_append.1 hy with hy | hy
        · exact hes y hy
        · have := hes' y hy
          simp at this
          omega
      have hwi : IntKind.i64.wrap ((i : Int) + 1) = ((i + 1 : Nat) : Int) := by
        rw [wrap_i64 (by omega) (by omega)]
        omega
      by_cases hs0 : s = []
      · subst hs0
        have hnx : X.add (oneT []) = ⟨X.pk + 1, X.by_, X.bad + 1, X.ch, X.data⟩ := by
          rw [one_nil]
          simp (dsimp := false) [Ta.add]
        have hnc : (sumT (ssl b0 (l.take (i + 1)))).cells = (⟨X.pk + 1, X.by_, X.bad + 1, X.ch, X.data⟩ : Ta).cells := by rw [hSn, hnx]
        simp at w1
        simp (dsimp := false) [Ta.cells] at hnc
        simp (dsimp := false) [-run_groupK, run_join, g0, g7, hlen, d1, d2]
        simp (dsimp := false) [g0, g5, g6, g7, hia, hrd, hx, hfw, hQ, splice, ha, w0, w1, w2, Ta.cells]
        refine ⟨_, by omega, i + 1, rfl, by omega, _, _, ⟨⟨⟨hDn', rfl⟩, ?_, rfl⟩, rfl⟩, rfl, hwi, fun a b hab => hesn (a, b) hab⟩
        rw [hSn, hnx]
        simp
      · simp (dsimp := false) [-run_groupK, run_join, g0, g7, hlen, d1, d2]
        simp (dsimp := false) [g0, g5, g6, g7, hia, hrd, hx, hfw, hQ, splice, ha, w0, w1, hs0, Ta.cells]
        obtain ⟨T, hT⟩ : ∃ T : Ta, T = ⟨X.pk + 1, X.by_ + s.length, X.bad, X.ch, X.data⟩ := ⟨_, rfl⟩
        have hTn : (T.addC cs) = sumT (ssl b0 (l.take (i + 1))) := by
          rw [hSn, hT]
          unfold oneT Ta.add Ta.addC
          rw [hback' hs0]
          simp
        refine W_loopM (fun k σ h' => ∃ j, k = L.length - j ∧ j ≤ L.length ∧ h' = ⟨h.blks ++ (⟨(dgs b0 (l.take (i + 1))).flatMap Dg.cells, i + 1, 0, false⟩ :: ⟨(T.addC (cs.take j)).cells, 0, 0, false⟩ :: (m ++ (m' ++ [⟨[.int .i64 l[i].f, .int .i64 l[i].t, .int .u32 l[i].tag, w], 0, 0, false⟩, ⟨[.int .u32 1, .int .u32 0, .str s], 0, 0, false⟩]))), es ++ es'⟩ ∧
          σ 0 = v ∧ σ 5 = .sl h.blks.length 0 (i + 1 + 1) (i + 1) 3 false ∧ σ 6 = .ptr (h.blks.length + 1) 0 0 22 ∧ σ 7 = .int .i64 i ∧ σ 8 = .ptr (h.blks.length + (m.length + m'.length + 1 + 1)) 0 0 4 ∧ σ 10 = .int .i64 j) ?_ L.length _ _ ?_
        · rintro _ σ _ ⟨j, rfl, hj, rfl, q0, q5, q6, q7, q8, q10⟩
          have hlcs : cs.length = L.length := by
            rw [← hL]
            simp
          have hlw := hS.sl.len Try.underlying32
          by_cases hlt2 : j < L.length
          · have hjc : j < cs.length := by omega
            have hcj : L[j].c = cs[j] := by
              have := List.getElem_map El.c (l := L) (i := j) (h := by simpa using hlt2)
              rw [← this]
              simp (dsimp := false) [hL]
            obtain ⟨Y, hY⟩ : ∃ Y, Y = T.addC (cs.take j) := ⟨_, rfl⟩
            have hch := hin.ch
            have hda := hin.data
            have hsmc : ∀ c ∈ cs, CkSmall c := fun c hc => by
              rw [← hL] at hc
              obtain ⟨e, he, rfl⟩ := List.mem_map.1 hc
              exact hsm e he
            have h7 : (cs.take j).length ≤ 22 := by
              simp
              omega
            have hYn : ∀ n, 0 ≤ Y.ch n ∧ Y.ch n ≤ 999999999 := fun n => by
              have h5 := cntC_le (cs.take j) n
              have h6 := hch n
              rw [hY, hT]
              unfold Ta.addC
              simp only
              omega
            have hYd : 0 ≤ Y.data ∧ Y.data ≤ 999999999 := by
              have h5 := datC_le (cs.take j) (fun c hc => hsmc c (List.mem_of_mem_take hc))
              rw [hY, hT]
              unfold Ta.addC
              simp only
              omega
            have hnext : T.addC (cs.take (j + 1)) = if cs[j].typ = 0 then (Y.inc (slotZ cs[j].typ)).setD (Y.data + cs[j].data.length) else Y.inc (slotZ cs[j].typ) := by
              rw [List.take_succ_eq_append_getElem hjc, addC_snoc, ← hY]
            rw [← hY]
            have hS0 : Sl ⟨h.blks ++ (⟨D, i, 0, false⟩ :: (⟨X.cells, 0, 0, false⟩ :: (m ++ m'))), es ++ es'⟩ 15 L.length (L.flatMap El.cells) w := by
              have := hS.sl
              simpa using this
            have hS1 := (Sl.past (X' := ⟨(dgs b0 (l.take (i + 1))).flatMap Dg.cells, i + 1, 0, false⟩) (es' := es ++ es') hS0 hDa).resolve_left (fun e => by simp (dsimp := false) [e] at hlt2)
            rw [← List.singleton_append, ← List.append_assoc] at hS1
            have hS2 := (Sl.past (X' := ⟨Y.cells, 0, 0, false⟩) (es' := es ++ es') hS1 (Ta.apart _)).resolve_left (fun e => by simp (dsimp := false) [e] at hlt2)
            obtain ⟨q, qf, jia, -, jfa, jrf⟩ := (Sl.app (es' := es ++ es') (m := [⟨[.int .i64 l[i].f, .int .i64 l[i].t, .int .u32 l[i].tag, w], 0, 0, false⟩, ⟨[.int .u32 1, .int .u32 0, .str s], 0, 0, false⟩]) hS2).atF El.cells_len
            have jia := jia j hlt2
            have jfa := jfa j hlt2
            have jr0 := jrf j hlt2 0 (by decide) _ (Ext.refl _)
            simp only [El.cells, Ck.cells, hcj] at jr0
            simp at jr0
            have hslt := slotZ_lt cs[j].typ
            have hsl := fun h => law_slot (C := putC) (h := h) cs[j].typ
            have d3 := eq_true hlt2
            have d4 := eq_true (show ((slotZ cs[j].typ : Nat) : Int) < 18 by omega)
            have d5 := eq_true (show 3 + slotZ cs[j].typ ≤ 21 by omega)
            have a1 := (head_take _ _).trans (Y.at_ hslt)
            have a2 := Y.put_ (Y.ch (slotZ cs[j].typ) + 1) hslt
            have hyn := hYn (slotZ cs[j].typ)
            have hwn : IntKind.i64.wrap (Y.ch (slotZ cs[j].typ) + 1) = Y.ch (slotZ cs[j].typ) + 1 := wrap_i64 (by omega) (by omega)
            have l1 := Y.len_
            have hi1 : Y.setCh (slotZ cs[j].typ) (Y.ch (slotZ cs[j].typ) + 1) = Y.inc (slotZ cs[j].typ) := rfl
            have hwj : IntKind.i64.wrap ((j : Int) + 1) = (j : Int) + 1 := wrap_i64 (by omega) (by omega)
            rw [hi1] at a2
            generalize hZ : Y.inc (slotZ cs[j].typ) = Z at *
            have hS3 := (Sl.past (X' := ⟨Z.cells, 0, 0, false⟩) (es' := es ++ es') hS1 (Ta.apart _)).resolve_left (fun e => by simp (dsimp := false) [e] at hlt2)
            obtain ⟨q', qf', jia', -, jfa', jrf'⟩ := (Sl.app (es' := es ++ es') (m := [⟨[.int .i64 l[i].f, .int .i64 l[i].t, .int .u32 l[i].tag, w], 0, 0, false⟩, ⟨[.int .u32 1, .int .u32 0, .str s], 0, 0, false⟩]) hS3).atF El.cells_len
            have hq : q' j = q j := by
              have h1 := jia 0 false 0 [] 0 0
              rw [jia' j hlt2 0 false 0 [] 0 0] at h1
              exact Option.some.inj h1
            have hqf : ∀ o, qf' j o = qf j o := fun o => by
              have h1 := jfa 0 false 0 [] [(o, 1, false)] 0
              have h2 := jfa' j hlt2 0 false 0 [] [(o, 1, false)] 0
              rw [hq, h1] at h2
              simpa using h2.symm
            have jz0 := jrf' j hlt2 0 (by decide) _ (Ext.refl _)
            have jz6 := jrf' j hlt2 6 (by decide) _ (Ext.refl _)
            simp only [El.cells, Ck.cells, hcj, hqf] at jz0 jz6
            simp at jz0 jz6
            have hZd : Z.data = Y.data := by
              rw [← hZ]
              rfl
            have l2 := Z.len_
            simp (dsimp := false) [splice] at a2
            by_cases c0 : cs[j].typ = 0
            · have b1 : (List.take 1 (List.drop 21 Z.cells)).head? = some (.int .i64 Z.data) := rfl
              have b2 : Hl.splice Z.cells 21 [.int .i64 (Y.data + cs[j].data.length)] = (Z.setD (Y.data + cs[j].data.length)).cells := rfl
              have hcl := (hsmc cs[j] (List.getElem_mem hjc)).ls
              have hwd : IntKind.i64.wrap (Y.data + (cs[j].data.length : Int)) = Y.data + cs[j].data.length := wrap_i64 (by omega) (by omega)
              rw [hZd] at b1
              rw [if_pos c0] at hnext
              rw [c0] at jr0 jz0 hsl d4 d5 a1 a2 hwn
              simp (dsimp := false) [splice] at b2
              simp (dsimp := false) [q6, q8, q10, hlw, d3, jia, jfa, jr0, jz0, hsl, d4, d5, a1, a2, hwn, l1, splice]
              refine (W_anyF (F := []) (by kernel_rfl)).2 ?_
              simp (dsimp := false) [q0, q5, q6, q7, q8, q10, jia, jfa, jz6, l2, b1, b2, hwd, hwj, splice]
              exact ⟨_, by omega, j + 1, rfl, by omega, by rw [hnext], by omega⟩
            · rw [if_neg c0] at hnext
              simp (dsimp := false) [q0, q5, q6, q7, q8, q10, hlw, d3, jia, jfa, jr0, jz0, hsl, d4, d5, a1, a2, hwn, l1, splice, c0, hwj]
              exact ⟨_, by omega, j + 1, rfl, by omega, by rw [hnext], by omega⟩
          · obtain rfl : j = L.length := by omega
            have e1 : cs.take L.length = cs := List.take_of_length_le (by omega)
            rw [e1, hTn]
            simp (dsimp := false) [q0, q5, q6, q7, q8, q10, hlw]
            exact ⟨_, by omega, i + 1, rfl, by omega, _, _, ⟨⟨⟨rfl, rfl⟩, rfl, rfl⟩, rfl⟩, rfl, hwi, fun a b hab => hesn (a, b) hab⟩
        · refine ⟨0, by simp, by simp, ?_, by simp (dsimp := false) [g0], by simp, by simp (dsimp := false) [g6], by simp (dsimp := false) [g7], by simp, by simp⟩
          rw [← hDn', hT]
          simp (dsimp := false) [Ta.addC, Ta.cells, cntC, datC]
    · obtain rfl : N = i := by omega
      have d1 := eq_false (show ¬ (N < l.length ∧ (N : Int) < 8) by omega)
      have hss' := hss (l.take N) (by simp; omega)
      have hsT := sumT_in hss'
      have hL1 : (dgs b0 (l.take N)).length = N + 1 := by
        simp (dsimp := false) [dgs]
        omega
      have hSS : (dgs b0 (l.take N)).map Dg.s = ssl b0 (l.take N) := rfl
      have hsL : (ssl b0 (l.take N)).length = N + 1 := by rw [← hSS, List.length_map, hL1]
      have hin := in_le hsT (b := 900000000) (by rw [hsL]; omega)
      have hds : ∀ d ∈ dgs b0 (l.take N), d.s.length ≤ 2000 := fun d hd => hss' _ (by rw [← hSS]; exact List.mem_map_of_mem hd)
      have hvs : ∀ m es, Sl ⟨h.blks ++ (⟨(dgs b0 (l.take N)).flatMap Dg.cells, N, 0, false⟩ :: m), es⟩ 3 (dgs b0 (l.take N)).length ((dgs b0 (l.take N)).flatMap Dg.cells) (.sl h.blks.length 0 (N + 1) N 3 false) := fun m es => by
        have := Sl.of_blk (l := h.blks) (m := m) (es := es) (L := dgs b0 (l.take N)) (g := N)
        rw [hL1] at this ⊢
        exact this
      obtain ⟨⟨x1, x2⟩, hx, hx1, m2, es2, hx2, hes2⟩ := measure_All (C := putC) (h := ⟨h.blks ++ (⟨(dgs b0 (l.take N)).flatMap Dg.cells, N, 0, false⟩ :: ⟨(sumT (ssl b0 (l.take N))).cells, 0, 0, false⟩ :: m), es⟩) (hvs _ _) (by omega) hds
      simp only at hx1 hx2
      rw [hSS] at hx1
      subst hx1 hx2
      generalize dgs b0 (l.take N) = L at *
      generalize ssl b0 (l.take N) = SS at *
      obtain ⟨S, hS⟩ : ∃ S, S = sumT SS := ⟨_, rfl⟩
      rw [← hS] at hx
      have l1 := S.len_
      have l3 := S.ok_
      have f4 := (S.facts 0).2.2.2.1
      have f5 := fun n => (S.facts n).2.2.2.2
      have f7 : S.cells.drop 22 = [] := rfl
      simp at hx hes2
      simp (dsimp := false) [-run_groupK, run_join, g0, g7, hlen, d1]
      rw [← hS]
      simp (dsimp := false) [g5, hx, splice, l1, l3, f5]
      refine W_loopM (fun k σ h' => ∃ j m3 es3, k = (N + 1) - j ∧ j ≤ N + 1 ∧ h' = ⟨h.blks ++ (⟨L.flatMap Dg.cells, N, 0, false⟩ :: ⟨S.cells, 0, 0, false⟩ :: (m ++ (m2 ++ (⟨S.cells, 0, 0, false⟩ :: ⟨(sumT (SS.take j)).cells, 0, 0, false⟩ :: m3)))), es3⟩ ∧
        σ 5 = .sl h.blks.length 0 (N + 1) N 3 false ∧ σ 6 = .ptr (h.blks.length + 1) 0 0 22 ∧ σ 11 = .ptr (h.blks.length + (m.length + m2.length + 1 + 1)) 0 0 22 ∧ σ 12 = .ptr (h.blks.length + (m.length + (m2.length + 1) + 1 + 1)) 0 0 22 ∧ σ 13 = .int .i64 j) ?_ (N + 1) _ _ ?_
      · rintro _ σ _ ⟨j, m3, es3, rfl, hj, rfl, q5, q6, q11, q12, q13⟩
        by_cases hlt2 : j < N + 1
        · have hjl : j < L.length := by omega
          have hjs : j < SS.length := by omega
          have hsj : SS[j] = L[j].s := by
            simp (dsimp := false) [← hSS]
          have hnx : (sumT (SS.take j)).add (oneT L[j].s) = sumT (SS.take (j + 1)) := by rw [List.take_succ_eq_append_getElem hjs, sumT_snoc, hsj]
          have hinj := in_le (sumT_in (l := SS.take j) (fun s hs => hss' s (List.mem_of_mem_take hs))) (b := 900000000) (by
            simp
            omega)
          obtain ⟨p2, -, jia, jrd, -, -⟩ := (hvs (⟨S.cells, 0, 0, false⟩ :: (m ++ (m2 ++ (⟨S.cells, 0, 0, false⟩ :: ⟨(sumT (SS.take j)).cells, 0, 0, false⟩ :: m3)))) es3).atF Dg.cells_len
          have jia := jia j hjl
          have jrd := jrd j hjl _ (Ext.refl _)
          obtain ⟨⟨x1, x2⟩, hx, hx1, m4, es4, hx2, hes4⟩ := measure_Add (C := putC) (a := L[j].a) (b := L[j].b) (h := ⟨h.blks ++ (⟨L.flatMap Dg.cells, N, 0, false⟩ :: ⟨S.cells, 0, 0, false⟩ :: (m ++ (m2 ++ (⟨S.cells, 0, 0, false⟩ :: ⟨(sumT (SS.take j)).cells, 0, 0, false⟩ :: m3)))), es3⟩) hinj (hds _ (List.getElem_mem hjl))
          simp only at hx1 hx2
          rw [hnx] at hx1
          subst hx1 hx2
          have d3 := eq_true (show (j : Int) < ((N : Int) + 1) by omega)
          have k1 := (sumT (SS.take j)).len_
          have k2 := (sumT (SS.take (j + 1))).len_
          have k3 := (sumT (SS.take (j + 1))).ok_
          have k4 := ((sumT (SS.take j)).facts 0).2.2.2.1
          have k5 := fun n => ((sumT (SS.take (j + 1))).facts n).2.2.2.2
          have k7 : (sumT (SS.take j)).cells.drop 22 = [] := rfl
          have hwj : IntKind.i64.wrap ((j : Int) + 1) = (j : Int) + 1 := wrap_i64 (by omega) (by omega)
          have hdc : L[j].cells = [.int .u32 L[j].a, .int .u32 L[j].b, .str L[j].s] := rfl
          simp only [hdc] at jrd
          simp at hx hes4 jrd
          simp (dsimp := false) [q5, q13, d3]
          refine (W_anyF (F := []) (by kernel_rfl)).2 ?_
          simp (dsimp := false) [q5, q6, q11, q12, q13, jia, jrd, hx, k1, k2, k3, k4, k5, k7, splice, hwj]
          exact ⟨_, by omega, j + 1, rfl, by omega, rfl, by omega⟩
        · obtain rfl : j = N + 1 := by omega
          have e1 : SS.take (N + 1) = SS := List.take_of_length_le (by omega)
          rw [e1, ← hS]
          obtain ⟨⟨x1, x2⟩, haw, hbw, m4, es4, he4, hes4⟩ := awake41' (C := putC) (h := ⟨h.blks ++ (⟨L.flatMap Dg.cells, N, 0, false⟩ :: ⟨S.cells, 0, 0, false⟩ :: (m ++ (m2 ++ (⟨S.cells, 0, 0, false⟩ :: ⟨S.cells, 0, 0, false⟩ :: m3)))), es3⟩)
          simp only at hbw he4
          subst hbw he4
          obtain ⟨K, hK⟩ : ∃ K, K = (N + 1) / 2 := ⟨_, rfl⟩
          have hKL : K ≤ L.length := by omega
          obtain ⟨⟨x1, x2⟩, hx, hx1, m5, es5, hx2, hes5⟩ := measure_All (C := putC) (h := ⟨h.blks ++ (⟨L.flatMap Dg.cells, N, 0, false⟩ :: (⟨S.cells, 0, 0, false⟩ :: (m ++ (m2 ++ (⟨S.cells, 0, 0, false⟩ :: ⟨S.cells, 0, 0, false⟩ :: (m3 ++ m4)))))), es3 ++ es4⟩) (Sl.of_take (g := N) hKL) (by simp; omega) (fun d hd => hds d (List.mem_of_mem_take hd))
          simp only at hx1 hx2
          subst hx1 hx2
          obtain ⟨⟨x1, x2⟩, hy, hy1, m6, es6, hy2, hes6⟩ := measure_All (C := putC) (h := ⟨h.blks ++ (⟨L.flatMap Dg.cells, N, 0, false⟩ :: (⟨S.cells, 0, 0, false⟩ :: (m ++ (m2 ++ (⟨S.cells, 0, 0, false⟩ :: ⟨S.cells, 0, 0, false⟩ :: (m3 ++ (m4 ++ m5))))))), es3 ++ (es4 ++ es5)⟩) (Sl.of_drop (g := N) hKL) (by simp; omega) (fun d hd => hds d (List.mem_of_mem_drop hd))
          simp only at hy1 hy2
          subst hy1 hy2
          have hi1 := in_le (sumT_in (l := (L.take K).map Dg.s) (fun s hs => by
            obtain ⟨d, hd, rfl⟩ := List.mem_map.1 hs
            exact hds d (List.mem_of_mem_take hd))) (b := 1000000000) (by
            simp
            omega)
          have hi2 := in_le (sumT_in (l := (L.drop K).map Dg.s) (fun s hs => by
            obtain ⟨d, hd, rfl⟩ := List.mem_map.1 hs
            exact hds d (List.mem_of_mem_drop hd))) (b := 1000000000) (by
            simp
            omega)
          have hBo := fun h => measure_Both (C := putC) (h := h) hi1 hi2
          have hadd : (sumT ((L.take K).map Dg.s)).add (sumT ((L.drop K).map Dg.s)) = S := by
            rw [← sum_app, ← List.map_append, List.take_append_drop, hSS, hS]
          simp only [hadd] at hBo
          simp only [List.map_take, List.map_drop] at hBo
          have hSi := in_le hin (b := 1000000000) (by omega)
          rw [← hS] at hSi
          have hSh := fun h => measure_Share (C := putC) (h := h) hSi
          have hti : ((N : Int) + 1).tdiv 2 = (K : Int) := by
            rw [Int.tdiv_eq_ediv_of_nonneg (by omega)]
            omega
          have hwK : IntKind.i64.wrap (K : Int) = (K : Int) := wrap_i64 (by omega) (by omega)
          have hb0' := hSi.by_
          have hd0' := hSi.data
          have r1 : (List.take 1 (List.drop 1 S.cells)).head? = some (.int .i64 S.by_) := rfl
          simp at r1
          have r21 : (List.take 1 (List.drop 21 S.cells)).head? = some (.int .i64 S.data) := rfl
          have wD : IntKind.i64.wrap (S.data * 100) = S.data * 100 := wrap_i64 (by omega) (by omega)
          have hte := tally_eql S
          rw [hL1] at hy
          have kk : (K : Int) ≤ (N : Int) + 1 := by omega
          have kk' : K ≤ N + 1 := by omega
          have a1 := (sumT ((L.take K).map Dg.s)).len_
          have a2 := (sumT ((L.drop K).map Dg.s)).len_
          simp at haw hx hy
          by_cases cb : 0 < S.by_
          · have nz : ¬ S.by_ = 0 := by omega
            have nle : ¬ S.by_ ≤ 0 := by omega
            have wQ : IntKind.i64.wrap ((S.data * 100).tdiv S.by_) = (S.data * 100).tdiv S.by_ := by
              have h1 := Int.tdiv_nonneg (a := S.data * 100) (b := S.by_) (by omega) (by omega)
              have h2 := Int.tdiv_le_self (S.by_) (a := S.data * 100) (by omega)
              exact wrap_i64 (by omega) (by omega)
            rw [if_neg nle] at hSh
            simp (dsimp := false) [q5, q6, q13, hti, hwK, r1, r21, cb, nz, wD, wQ]
            refine (W_anyF (F := [(21, 15), (21, 19), (21, 20)]) (by kernel_rfl)).2 ?_
            simp (dsimp := false) [q5, q6, q11, q12, haw, hx, hy, hBo, hSh, hte, f4, kk]
          · have le : S.by_ ≤ 0 := by omega
            rw [if_pos le] at hSh
            simp (dsimp := false) [q5, q6, q13, hti, hwK, r1, cb]
            refine (W_anyF (F := [(21, 15), (21, 19), (21, 20)]) (by kernel_rfl)).2 ?_
            simp (dsimp := false) [q5, q6, q11, q12, haw, hx, hy, hBo, hSh, hte, f4, kk]
      · refine ⟨0, [], es ++ es2, by simp, by simp, ?_, by simp (dsimp := false) [g5], by simp (dsimp := false) [g6], by simp, by simp, by simp⟩
        simp (dsimp := false) [sumT, ta0, Ta.cells]
  · refine ⟨0, [], [], by simp, by simp, ?_, by simp (dsimp := false) [hg], by simp, by simp, by simp, by simp⟩
    simp (dsimp := false) [ssl, dgs, Dg.cells, ← hb0, htf]
end Go.Proofs.Ytbncfiijlnakkaa
end
