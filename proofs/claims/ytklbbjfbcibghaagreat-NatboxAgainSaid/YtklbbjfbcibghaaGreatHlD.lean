/- Part 4 of the library and the walks that the law's proof stands on: no condition. -/
import Derived.Test.YtklbbjfbcibghaaGreatHlC
section
namespace Go.Proofs.YtklbbjfbcibghaaGreat
open Go.Hl
set_option maxHeartbeats 4000000
variable {C : CallT}
section
variable {h : H} {c : Ck} {vp vc vg vd : V}
theorem all_take {α : Type} {p : α → Bool} {l : List α} {i : Nat} (h : i < l.length) : (l.take (i + 1)).all p = ((l.take i).all p && p l[i]) := by
  rw [List.take_succ_eq_append_getElem h, List.all_append]
  simp
theorem all_of_take {α : Type} {p : α → Bool} {l : List α} {i : Nat} (h : i < l.length) (hp : p l[i] = false) : l.all p = false := by
  rw [Bool.eq_false_iff]
  intro ha
  rw [List.all_eq_true] at ha
  rw [ha _ (List.getElem_mem h)] at hp
  cases hp
theorem chunk_lists (hc : CkIs h c vp vc vg vd) (hl1 : c.params.length ≤ 1000000) (hl2 : c.causes.length ≤ 1000000) : Does Tryz.prog C 125 [.agg (c.cells vp vc vg vd)] h = some (.bool c.lists, h) := by
  have hf := hc.facts
  have hl1' := hc.sp.len Tryz.underlying27
  have hl2' := hc.sc.len Tryz.underlying28
  obtain ⟨p, hia, hrd, -⟩ := (hc.sp.blks (h' := ⟨h.blks, []⟩) rfl).at Pm.cells_len
  obtain ⟨p', hia', hrd', -⟩ := (hc.sc.blks (h' := ⟨h.blks, []⟩) rfl).at Pm.cells_len
  unfold Ck.cells
  refine Does_eq (n := 39) (rs := [.tmp 2]) Tryz.func125 (by kernel_rfl) rfl rfl rfl (by simp) fun σ hg => ?_
  simp (dsimp := false) [hg, hf, hl1']
  refine W_loopM (fun k σ h' => ∃ i : Nat, ∃ m, k = c.params.length - i ∧ i ≤ c.params.length ∧ h' = ⟨h.blks ++ ⟨c.cells vp vc vg vd, 0, 0, false⟩ :: m, []⟩ ∧ σ 1 = .ptr h.blks.length 0 0 15 ∧ σ 8 = vp ∧ σ 9 = .int .i64 c.params.length ∧ σ 10 = .int .i64 i ∧ (c.params.take i).all Pm.may = true) ?_ c.params.length _ _ ?_
  · rintro _ σ _ ⟨i, m, rfl, hi, rfl, h1, h8, h9, h10, ha⟩
    simp (dsimp := false) [h1, h8, h9, h10]
    split
    · rename_i hlt
      have hm := fun h => param_May (C := C) (h := h) c.params[i]
      rw [Pm.cells] at hm
      simp (dsimp := false) [h1, h8, h9, h10, hia i hlt, hrd i hlt _ Ext.app, Pm.cells, splice, hm]
      cases hmm : (c.params[i]).may with
      | false => simp (dsimp := false) [Ck.lists, all_of_take hlt hmm]
      | true =>
        simp (dsimp := false) [wrap_succ hlt (by omega)]
        exact ⟨_, by omega, i + 1, rfl, by omega, by simp, by rw [← List.all_eq_true, all_take hlt, hmm, ha]; rfl⟩
    · obtain rfl : i = c.params.length := by omega
      rw [List.take_length] at ha
      simp (dsimp := false) [Ck.cells, hl2']
      refine W_loopM (fun k σ h' => ∃ i : Nat, ∃ m, k = c.causes.length - i ∧ i ≤ c.causes.length ∧ h' = ⟨h.blks ++ ⟨c.cells vp vc vg vd, 0, 0, false⟩ :: m, []⟩ ∧ σ 1 = .ptr h.blks.length 0 0 15 ∧ σ 19 = vc ∧ σ 20 = .int .i64 c.causes.length ∧ σ 21 = .int .i64 i ∧ (c.causes.take i).all Pm.may = true) ?_ c.causes.length _ _ ?_
      · rintro _ σ _ ⟨i, m, rfl, hi, rfl, h1, h8, h9, h10, ha'⟩
        simp (dsimp := false) [h1, h8, h9, h10]
        split
        · rename_i hlt
          have hm := fun h => cause_May (C := C) (h := h) c.causes[i]
          rw [Pm.cells] at hm
          simp (dsimp := false) [h1, h8, h9, h10, hia' i hlt, hrd' i hlt _ Ext.app, Pm.cells, splice, hm]
          cases hmm : (c.causes[i]).may with
          | false => simp (dsimp := false) [Ck.lists, all_of_take hlt hmm]
          | true =>
            simp (dsimp := false) [wrap_succ hlt (by omega)]
            exact ⟨_, by omega, i + 1, rfl, by omega, by simp, by rw [← List.all_eq_true, all_take hlt, hmm, ha']; rfl⟩
        · obtain rfl : i = c.causes.length := by omega
          rw [List.take_length] at ha'
          have e : decide ((c.causes.length : Int) ≤ 16) = decide (c.causes.length ≤ 16) := by rw [decide_eq_decide]; omega
          by_cases hp : (c.params.length : Int) ≤ 16
          · simp (dsimp := false) [h1, Ck.cells, hl1', hl2', hp, Ck.lists, ha, ha']
            rw [e, decide_eq_true (by omega : c.params.length ≤ 16), Bool.true_and]
          · simp (dsimp := false) [Ck.cells, hl1', hp, Ck.lists, ha, ha']
            omega
      · exact ⟨0, m, by simp (dsimp := false) [h1, Ck.cells]⟩
  · exact ⟨0, [], by simp (dsimp := false) [Ck.cells]⟩
theorem chunk_same {c' : Ck} {vp' vc' vg' vd' : V} (hc : CkIs h c vp vc vg vd) (hc' : CkIs h c' vp' vc' vg' vd') : Does Tryz.prog C 129 [.agg (c.cells vp vc vg vd), .agg (c'.cells vp' vc' vg' vd')] h = some (.bool (c.same c'), h) := by
  have hf := hc.facts
  have hf' := hc'.facts
  have l1 := hc.sp.len Tryz.underlying27
  have l2 := hc.sc.len Tryz.underlying28
  have l3 := hc.sg.len Tryz.underlying29
  have l4 := hc.sd.len Tryz.underlying30
  have l1' := hc'.sp.len Tryz.underlying27
  have l2' := hc'.sc.len Tryz.underlying28
  have l3' := hc'.sg.len Tryz.underlying29
  have l4' := hc'.sd.len Tryz.underlying30
  have e : ∀ a b : Nat, ((a : Int) = (b : Int)) = (a = b) := fun a b => propext ⟨fun h => by omega, fun h => by omega⟩
  unfold Ck.cells
  refine Does_eq (n := 102) (rs := [.tmp 4]) Tryz.func129 (by kernel_rfl) rfl rfl rfl (by simp) fun σ hg => ?_
  rw [Ck.same]
  simp (dsimp := false) (maxSteps := 2000000) [-run_groupK, run_join, hg, hf, hf', l1, l2, l3, l4, l1', l2', l3', l4', e]
  simp only [Bool.and_assoc]
end
end Go.Proofs.YtklbbjfbcibghaaGreat
end
section
namespace Go.Proofs.YtklbbjfbcibghaaGreat
open Go.Hl
set_option maxHeartbeats 2000000
variable {C : CallT}
section
variable {h : H}
theorem rdoc_Kind (t : Int) : Does Tryz.prog C 82 [.int .i64 t] h = some (.int .i64 (qKind t), h) := by
  refine Does_eq (n := 28) (rs := [.tmp 2]) Tryz.func82 (by kernel_rfl) rfl rfl rfl (by simp) fun σ hg => ?_
  by_cases a0 : t = 0
  · simp (dsimp := false) [hg, a0, qKind]
  by_cases a3 : t = 3
  · simp (dsimp := false) [hg, a3, qKind]
  by_cases a7 : t = 7
  · simp (dsimp := false) [hg, a7, qKind]
  by_cases a10 : t = 10
  · simp (dsimp := false) [hg, a10, qKind]
  by_cases a15 : t = 15
  · simp (dsimp := false) [hg, a15, qKind]
  by_cases a1 : t = 1
  · simp (dsimp := false) [hg, a1, qKind]
  by_cases a2 : t = 2
  · simp (dsimp := false) [hg, a2, qKind]
  by_cases a4 : t = 4
  · simp (dsimp := false) [hg, a4, qKind]
  by_cases a5 : t = 5
  · simp (dsimp := false) [hg, a5, qKind]
  by_cases a6 : t = 6
  · simp (dsimp := false) [hg, a6, qKind]
  by_cases a9 : t = 9
  · simp (dsimp := false) [hg, a9, qKind]
  by_cases a8 : t = 8
  · simp (dsimp := false) [hg, a8, qKind]
  by_cases a11 : t = 11
  · simp (dsimp := false) [hg, a11, qKind]
  by_cases a14 : t = 14
  · simp (dsimp := false) [hg, a14, qKind]
  by_cases b1 : t = 193
  · simp (dsimp := false) [hg, b1, qKind]
  by_cases b2 : t = 128
  · simp (dsimp := false) [hg, b2, qKind]
  by_cases b3 : t = 130
  · simp (dsimp := false) [hg, b3, qKind]
  · simp (dsimp := false) [hg, a0, a1, a2, a3, a4, a5, a6, a7, a8, a9, a10, a11, a14, a15, b1, b2, b3, qKind]
theorem rdoc_word (t : Int) : Does Tryz.prog C 94 [.int .i64 t] h = some (.bool (word t), h) := by
  have e : (t ≤ 65535) = (t < 65536) := propext (by omega)
  refine Does_eq (n := 9) (rs := [.tmp 2]) Tryz.func94 (by kernel_rfl) rfl rfl rfl (by simp) fun σ hg => ?_
  by_cases h0 : 0 ≤ t <;> by_cases h1 : t < 65536 <;> simp (dsimp := false) [hg, word, h0, h1, e]
theorem qKind_20 (t : Int) : (qKind t = 20) ↔ knownT t = false := by
  unfold qKind knownT
  simp only [Bool.or_eq_false_iff, Bool.and_eq_false_iff, decide_eq_false_iff_not]
  repeat' split
  all_goals omega
theorem rdoc_flags (t : Int) : Does Tryz.prog C 91 [.int .i64 t] h = some (.int .i64 (flagsT t), h) := by
  have hK := fun h => rdoc_Kind (C := C) (h := h) t
  have h20 := qKind_20 t
  refine Does_eq (n := 20) (rs := [.tmp 2]) Tryz.func91 (by kernel_rfl) rfl rfl rfl (by simp) fun σ hg => ?_
  by_cases a0 : t = 0
  · simp (dsimp := false) [hg, a0, flagsT]
  by_cases a6 : t = 6
  · simp (dsimp := false) [hg, a6, flagsT]
  by_cases a9 : t = 9
  · simp (dsimp := false) [hg, a9, flagsT]
  by_cases a14 : t = 14
  · simp (dsimp := false) [hg, a14, flagsT]
  by_cases hk : qKind t = 20
  · have := h20.1 hk
    simp (dsimp := false) [hg, a0, a6, a9, a14, flagsT, hK, hk, this]
  · have : knownT t = true := by
      cases hh : knownT t
      · exact absurd (h20.2 hh) hk
      · rfl
    simp (dsimp := false) [hg, a0, a6, a9, a14, flagsT, hK, hk, this]
theorem rdoc_gaps {l : List (Int × Int)} {v : V} (hs : Sl h 2 l.length (l.flatMap gapCells) v) (hl : l.length ≤ 1000000) (hwf : ∀ g ∈ l, g.1 ≤ 9223372036854775807) : Does Tryz.prog C 83 [v] h = some (.bool (rising l), h) := by
  have hlen := hs.len Tryz.underlying29
  obtain ⟨p, pf, hia, hrd, hfa, hrf⟩ := (hs.blks (h' := ⟨h.blks, []⟩) rfl).atF gapCells_len
  refine Does_eq (n := 56) (rs := [.tmp 2]) Tryz.func83 (by kernel_rfl) rfl rfl rfl (by simp) fun σ hg => ?_
  simp
  refine W_loopM (fun k σ h' => ∃ i : Nat, ∃ a : Int, k = l.length - i ∧ i ≤ l.length ∧ h' = ⟨h.blks, []⟩ ∧ σ 0 = v ∧ σ 4 = .int .i64 i ∧ σ 3 = .int .i64 a ∧ -1 < a ∧ a < 65536 ∧ risingL 0 l = risingL a (l.drop i)) ?_ l.length _ _ ?_
  · rintro _ σ _ ⟨i, a, rfl, hi, rfl, h0, h4, h3, ha, ha', hr⟩
    simp (dsimp := false) [h0, h4, hlen]
    split
    · rename_i hlt
      rw [risingL_drop hlt] at hr
      have hx := fun h' e => hrf i hlt 0 (by decide) h' e
      have hy := fun h' e => hrf i hlt 1 (by decide) h' e
      simp only [gapCells] at hx hy
      simp at hx hy
      have hq := hfa i hlt
      have hgw := hwf l[i] (List.getElem_mem hlt)
      generalize (l[i]).1 = g1 at *
      generalize (l[i]).2 = g2 at *
      by_cases b1 : g1 < 2
      · rw [if_pos (by omega)] at hr
        refine (W_anyF (F := []) (by kernel_rfl)).2 ?_
        simp (dsimp := false) [h0, h4, hia i hlt, hq, hx _ (Ext.refl _), b1]
        simp (dsimp := false) [rising, hr]
      · have hw : IntKind.i64.wrap (g1 - 2) = g1 - 2 := wrap_i64 (by omega) (by omega)
        have b1' := eq_false b1
        by_cases b2 : g1 - 2 < a
        · rw [if_pos (by omega)] at hr
          have b2' := eq_true b2
          refine (W_anyF (F := []) (by kernel_rfl)).2 ?_
          simp (dsimp := false) [h0, h4, h3, hia i hlt, hq, hx _ (Ext.refl _), b1', b2', hw]
          simp (dsimp := false) [rising, hr]
        · have b2' := eq_false b2
          by_cases b3 : g2 < g1
          · rw [if_pos (by omega)] at hr
            have b3' := eq_true b3
            refine (W_anyF (F := []) (by kernel_rfl)).2 ?_
            simp (dsimp := false) [h0, h4, h3, hia i hlt, hq, hx _ (Ext.refl _), hy _ (Ext.refl _), b1', b2', b3', hw]
            simp (dsimp := false) [rising, hr]
          · have b3' := eq_false b3
            by_cases b4 : 65535 < g2
            · rw [if_pos (by omega)] at hr
              have b4' := eq_true b4
              refine (W_anyF (F := []) (by kernel_rfl)).2 ?_
              simp (dsimp := false) [h0, h4, h3, hia i hlt, hq, hx _ (Ext.refl _), hy _ (Ext.refl _), b1', b2', b3', b4', hw]
              simp (dsimp := false) [rising, hr]
            · rw [if_neg (by omega)] at hr
              have b4' := eq_false b4
              refine (W_anyF (F := []) (by kernel_rfl)).2 ?_
              simp (dsimp := false) [h0, h4, h3, hia i hlt, hq, hx _ (Ext.refl _), hy _ (Ext.refl _), b1', b2', b3', b4', hw, wrap_succ hlt (by omega)]
              exact ⟨_, by omega, i + 1, rfl, by omega, by simp, by omega, by omega, hr⟩
    · obtain rfl : i = l.length := by omega
      simp (dsimp := false) [rising, hr, risingL]
      omega
  · exact ⟨0, 0, by simp (dsimp := false) [hg]⟩
end
end Go.Proofs.YtklbbjfbcibghaaGreat
end
section
namespace Go.Proofs.YtklbbjfbcibghaaGreat
open Go.Hl
set_option maxHeartbeats 4000000
variable {C : CallT}
section
variable {h : H} {c : Ck} {vp vc vg vd : V}
theorem chunk_gaps (hc : CkIs h c vp vc vg vd) (hl1 : c.gaps.length ≤ 1000000) (hl2 : c.dups.length ≤ 1000000) : Does Tryz.prog C 140 [.agg (c.cells vp vc vg vd)] h = some (.str (gapsB c), h) := by
  have hf := hc.facts
  have hl1' := hc.sg.len Tryz.underlying29
  have hl2' := hc.sd.len Tryz.underlying30
  obtain ⟨p, hia, hrd, -⟩ := (hc.sg.blks (h' := ⟨h.blks, []⟩) rfl).at gapCells_len
  obtain ⟨p', hia', -, hrd'⟩ := (hc.sd.blks (h' := ⟨h.blks, []⟩) rfl).at dupCells_len
  unfold Ck.cells
  refine Does_eq (n := 47) (rs := [.tmp 2]) Tryz.func140 (by kernel_rfl) rfl rfl rfl (by simp) fun σ hg => ?_
  simp (dsimp := false) [hg, hf]
  refine (W_anyF (F := [(5, 3)]) (by kernel_rfl)).2 ?_
  simp (dsimp := false) [hl1', hl2', octet_U16, be2_len]
  refine W_loopM (fun k σ h' => ∃ i : Nat, ∃ m, k = c.gaps.length - i ∧ i ≤ c.gaps.length ∧ h' = ⟨h.blks ++ ⟨c.cells vp vc vg vd, 0, 0, false⟩ :: m, []⟩ ∧ σ 1 = .ptr h.blks.length 0 0 15 ∧ σ 18 = vg ∧ σ 19 = .int .i64 c.gaps.length ∧ σ 20 = .int .i64 i ∧
      σ 3 = .str (be2 c.gaps.length ++ be2 c.dups.length ++ gapsF (c.gaps.take i))) ?_ c.gaps.length _ _ ?_
  · rintro _ σ _ ⟨i, m, rfl, hi, rfl, h1, h8, h9, h10, h3⟩
    simp (dsimp := false) [h1, h8, h9, h10]
    split
    · rename_i hlt
      have hle := gapsF_len (c.gaps.take i)
      have hle' : (c.gaps.take i).length ≤ i := by simp; omega
      simp (dsimp := false) [hia i hlt, hrd i hlt _ Ext.app, gapCells, splice]
      refine (W_anyF (F := [(5, 3)]) (by kernel_rfl)).2 ?_
      simp (dsimp := false) [h1, h8, h9, h10, h3, octet_U16, be2_len, wrap_succ hlt (by omega)]
      refine ⟨by omega, _, by omega, i + 1, rfl, by omega, by simp, ?_⟩
      rw [gapsF_take hlt]
    · obtain rfl : i = c.gaps.length := by omega
      rw [List.take_length] at h3
      have hle := gapsF_len c.gaps
      simp (dsimp := false) [Ck.cells, hl2']
      refine W_loopM (fun k σ h' => ∃ i : Nat, ∃ m, k = c.dups.length - i ∧ i ≤ c.dups.length ∧ h' = ⟨h.blks ++ m, []⟩ ∧ σ 35 = vd ∧ σ 36 = .int .i64 c.dups.length ∧ σ 37 = .int .i64 i ∧
          σ 3 = .str (be2 c.gaps.length ++ be2 c.dups.length ++ gapsF c.gaps ++ dupsF (c.dups.take i))) ?_ c.dups.length _ _ ?_
      · rintro _ σ _ ⟨i, m, rfl, hi, rfl, h8, h9, h10, h3⟩
        simp (dsimp := false) [h8, h9, h10, h3]
        split
        · rename_i hlt
          have hle2 := dupsF_len (c.dups.take i)
          have hle2' : (c.dups.take i).length ≤ i := by simp; omega
          simp (dsimp := false) [h8, h9, h10, h3, hia' i hlt, hrd' i hlt rfl _ Ext.app, dupCells, octet_U32, be4_len, be2_len, wrap_succ hlt (by omega)]
          refine ⟨by omega, _, by omega, i + 1, rfl, by omega, by simp, ?_⟩
          rw [dupsF_take hlt]
        · obtain rfl : i = c.dups.length := by omega
          simp (dsimp := false) [gapsB]
      · exact ⟨0, ⟨c.cells vp vc vg vd, 0, 0, false⟩ :: m, by simp (dsimp := false) [h3, Ck.cells, dupsF]⟩
  · exact ⟨0, [], by simp (dsimp := false) [Ck.cells, gapsF]⟩
end
end Go.Proofs.YtklbbjfbcibghaaGreat
end
section
namespace Go.Proofs.YtklbbjfbcibghaaGreat
open Go.Hl
set_option maxHeartbeats 4000000
variable {C : CallT}
section
variable {h : H} {c : Ck} {vp vc vg vd : V}
theorem chunk_body (hc : CkIs h c vp vc vg vd) (l1 : c.params.length ≤ 1000000) (l2 : c.causes.length ≤ 1000000) (l3 : c.gaps.length ≤ 1000000) (l4 : c.dups.length ≤ 1000000) (l5 : c.data.length ≤ 1000000) : Does Tryz.prog C 128 [.agg (c.cells vp vc vg vd)] h = some (.str c.body, h) := by
  have hf := hc.facts
  have e1 := putAll_len c.params
  have e2 := gapsF_len c.gaps
  have e3 := dupsF_len c.dups
  have e4 : (gapsB c).length = 4 + (gapsF c.gaps).length + (dupsF c.dups).length := by simp (dsimp := false) [gapsB, be2_len]; omega
  have g1 : 4 + (putAll c.params).length ≤ 9223372036854775807 := by omega
  have h1 : ∀ m, Does Tryz.prog C 139 [vp] ⟨h.blks ++ m, []⟩ = some (.str (putAll c.params), ⟨h.blks ++ m, []⟩) := fun m => param_PutAll (hc.sp.app (es' := []) (m := m)) l1
  have h2 : ∀ m, Does Tryz.prog C 140 [.agg (c.cells vp vc vg vd)] ⟨h.blks ++ m, []⟩ = some (.str (gapsB c), ⟨h.blks ++ m, []⟩) := fun m => chunk_gaps (hc.app m) l3 l4
  have h3 : ∀ m, Does Tryz.prog C 142 [vc] ⟨h.blks ++ m, []⟩ = some (.str (putAll c.causes), ⟨h.blks ++ m, []⟩) := fun m => cause_PutAll (hc.sc.app (es' := []) (m := m)) l2
  have h4 : ∀ h, Does Tryz.prog C 141 [.agg [.int .i64 1, .str c.data]] h = some (.str (Pm.put ⟨1, c.data⟩), h) := fun h => param_Put (C := C) (h := h) ⟨1, c.data⟩
  have h5 := hc.facts
  unfold Ck.cells at h2 ⊢
  refine Does_eq (n := 110) (rs := [.tmp 2]) Tryz.func128 (by kernel_rfl) rfl rfl rfl (by simp) fun σ hg => ?_
  by_cases a0 : c.typ = 0
  · have hB : c.body = c.body := rfl
    conv at hB => rhs; simp (dsimp := false) [Ck.body, a0, isInit, isErr, isConf, isBare, isBeat]
    simp (dsimp := false) [hg, hf, a0]
    refine (W_anyF (F := [(4, 2), (8, 2), (8, 5), (12, 2), (12, 5), (12, 9), (16, 2), (16, 5), (16, 9), (16, 13)]) (by kernel_rfl)).2 ?_
    simp (dsimp := false) [octet_U16, octet_U32, be2_len, be4_len, hB]
    first | omega | (refine ⟨by omega, ?_⟩; first | omega | rfl)
  · skip
    by_cases a1 : c.typ = 1
    · have hB : c.body = c.body := rfl
      conv at hB => rhs; simp (dsimp := false) [Ck.body, a1, isInit, isErr, isConf, isBare, isBeat]
      simp (dsimp := false) [hg, hf, a1]
      refine (W_anyF (F := [(4, 2), (8, 2), (8, 5), (12, 2), (12, 5), (12, 9), (16, 2), (16, 5), (16, 9), (16, 13), (20, 2), (20, 5), (20, 9), (20, 13), (20, 17)]) (by kernel_rfl)).2 ?_
      simp (dsimp := false) [octet_U16, octet_U32, be2_len, be4_len, h1, hB]
      first | omega | (refine ⟨by omega, ?_⟩; first | omega | rfl)
    · skip
      by_cases a2 : c.typ = 2
      · have hB : c.body = c.body := rfl
        conv at hB => rhs; simp (dsimp := false) [Ck.body, a2, isInit, isErr, isConf, isBare, isBeat]
        simp (dsimp := false) [hg, hf, a2]
        refine (W_anyF (F := [(4, 2), (8, 2), (8, 5), (12, 2), (12, 5), (12, 9), (16, 2), (16, 5), (16, 9), (16, 13), (20, 2), (20, 5), (20, 9), (20, 13), (20, 17)]) (by kernel_rfl)).2 ?_
        simp (dsimp := false) [octet_U16, octet_U32, be2_len, be4_len, h1, hB]
        first | omega | (refine ⟨by omega, ?_⟩; first | omega | rfl)
      · skip
        by_cases a3 : c.typ = 3
        · have hB : c.body = c.body := rfl
          conv at hB => rhs; simp (dsimp := false) [Ck.body, a3, isInit, isErr, isConf, isBare, isBeat]
          simp (dsimp := false) [hg, hf, a3]
          rw [a3] at h2
          refine (W_anyF (F := [(4, 2), (7, 2), (7, 5)]) (by kernel_rfl)).2 ?_
          simp (dsimp := false) [octet_U32, be4_len, h2, hB]
          first | omega | (refine ⟨by omega, ?_⟩; first | omega | rfl)
        · skip
          by_cases a4 : c.typ = 4
          · have hB : c.body = c.body := rfl
            conv at hB => rhs; simp (dsimp := false) [Ck.body, a4, isInit, isErr, isConf, isBare, isBeat]
            simp (dsimp := false) [hg, hf, a4, splice, h4, hB]
          · skip
            by_cases a5 : c.typ = 5
            · have hB : c.body = c.body := rfl
              conv at hB => rhs; simp (dsimp := false) [Ck.body, a5, isInit, isErr, isConf, isBare, isBeat]
              simp (dsimp := false) [hg, hf, a5, splice, h4, hB]
            · skip
              by_cases a6 : c.typ = 6
              · have hB : c.body = c.body := rfl
                conv at hB => rhs; simp (dsimp := false) [Ck.body, a6, isInit, isErr, isConf, isBare, isBeat]
                simp (dsimp := false) [hg, hf, a6, h3, hB]
              · skip
                by_cases a9 : c.typ = 9
                · have hB : c.body = c.body := rfl
                  conv at hB => rhs; simp (dsimp := false) [Ck.body, a9, isInit, isErr, isConf, isBare, isBeat]
                  simp (dsimp := false) [hg, hf, a9, h3, hB]
                · skip
                  by_cases a7 : c.typ = 7
                  · have hB : c.body = c.body := rfl
                    conv at hB => rhs; simp (dsimp := false) [Ck.body, a7, isInit, isErr, isConf, isBare, isBeat]
                    simp (dsimp := false) [hg, hf, a7, octet_U32, hB]
                  · skip
                    by_cases a193 : c.typ = 193
                    · have hB : c.body = c.body := rfl
                      conv at hB => rhs; simp (dsimp := false) [Ck.body, a193, isInit, isErr, isConf, isBare, isBeat]
                      simp (dsimp := false) [hg, hf, a193]
                      refine (W_anyF (F := [(4, 2)]) (by kernel_rfl)).2 ?_
                      simp (dsimp := false) [octet_U32, be4_len, h1, hB, g1]
                    · skip
                      by_cases a128 : c.typ = 128
                      · have hB : c.body = c.body := rfl
                        conv at hB => rhs; simp (dsimp := false) [Ck.body, a128, isInit, isErr, isConf, isBare, isBeat]
                        simp (dsimp := false) [hg, hf, a128]
                        refine (W_anyF (F := [(4, 2)]) (by kernel_rfl)).2 ?_
                        simp (dsimp := false) [octet_U32, be4_len, h1, hB, g1]
                      · skip
                        by_cases a130 : c.typ = 130
                        · have hB : c.body = c.body := rfl
                          conv at hB => rhs; simp (dsimp := false) [Ck.body, a130, isInit, isErr, isConf, isBare, isBeat]
                          simp (dsimp := false) [hg, hf, a130]
                          refine (W_anyF (F := [(4, 2)]) (by kernel_rfl)).2 ?_
                          simp (dsimp := false) [octet_U32, be4_len, h1, hB, g1]
                        · skip
                          by_cases a8 : c.typ = 8
                          · have hB : c.body = c.body := rfl
                            conv at hB => rhs; simp (dsimp := false) [Ck.body, a8, isInit, isErr, isConf, isBare, isBeat]
                            simp (dsimp := false) [hg, hf, a8, hB]
                          · skip
                            by_cases a11 : c.typ = 11
                            · have hB : c.body = c.body := rfl
                              conv at hB => rhs; simp (dsimp := false) [Ck.body, a11, isInit, isErr, isConf, isBare, isBeat]
                              simp (dsimp := false) [hg, hf, a11, hB]
                            · skip
                              by_cases a14 : c.typ = 14
                              · have hB : c.body = c.body := rfl
                                conv at hB => rhs; simp (dsimp := false) [Ck.body, a14, isInit, isErr, isConf, isBare, isBeat]
                                simp (dsimp := false) [hg, hf, a14, hB]
                              · skip
                                by_cases a15 : c.typ = 15
                                · have hB : c.body = c.body := rfl
                                  conv at hB => rhs; simp (dsimp := false) [Ck.body, a15, isInit, isErr, isConf, isBare, isBeat]
                                  simp (dsimp := false) [hg, hf, a15]
                                  refine (W_anyF (F := [(4, 2), (8, 2), (8, 5)]) (by kernel_rfl)).2 ?_
                                  simp (dsimp := false) [octet_U16, be2_len, hB]
                                  first | omega | (refine ⟨by omega, ?_⟩; first | omega | rfl)
                                · skip
                                  have hB : c.body = c.body := rfl
                                  conv at hB => rhs; simp (dsimp := false) [Ck.body, a0, a1, a2, a3, a4, a5, a6, a9, a7, a193, a128, a130, a8, a11, a14, a15, isInit, isErr, isConf, isBare, isBeat]
                                  simp (dsimp := false) [hg, hf, hB, a0, a1, a2, a3, a4, a5, a6, a9, a7, a193, a128, a130, a8, a11, a14, a15]
end
end Go.Proofs.YtklbbjfbcibghaaGreat
end
section
namespace Go.Proofs.YtklbbjfbcibghaaGreat
open Go.Hl
set_option maxHeartbeats 4000000
variable {C : CallT}
section
variable {h : H} {c : Ck} {vp vc vg vd : V}
theorem chunk_plain (hc : CkIs h c vp vc vg vd) : Does Tryz.prog C 130 [.agg (c.cells vp vc vg vd)] h = some (.agg (c.plain.cells (if kindP c.typ then vp else .nils) (if kindC c.typ then vc else .nils) (if kindG c.typ then vg else .nils) (if kindG c.typ then vd else .nils)), h) := by
  have hf := hc.facts
  rw [show c.cells vp vc vg vd = [.int .i64 c.typ, .int .i64 c.flags, .int .u32 c.tsn, .int .i64 c.stream, .int .i64 c.ssn, .int .u32 c.proto, .str c.data, .int .u32 c.tag, .int .u32 c.rwnd, .int .i64 c.out, .int .i64 c.inn, vp, vc, vg, vd] from rfl]
  refine Does_eq (n := 103) (rs := [.cell 2 32]) Tryz.func130 (by kernel_rfl) rfl rfl rfl (by simp) fun σ hg => ?_
  by_cases a0 : c.typ = 0
  · have hB : c.plain = c.plain := rfl
    conv at hB => rhs; simp (dsimp := false) [Ck.plain, a0, isInit, isErr, isConf, isBare, isBeat]
    simp (dsimp := false) [hg, hf, a0, splice]
    refine (W_anyF (F := [(3, 11), (5, 11), (5, 13), (7, 11), (7, 13), (7, 15), (9, 11), (9, 13), (9, 15), (9, 17)]) (by kernel_rfl)).2 ?_
    simp (dsimp := false) [a0, splice]
    simp (dsimp := false) [hB, Ck.cells, kindP, kindC, kindG, isInit, isErr, isConf]
  · skip
    by_cases a1 : c.typ = 1
    · have hB : c.plain = c.plain := rfl
      conv at hB => rhs; simp (dsimp := false) [Ck.plain, a1, isInit, isErr, isConf, isBare, isBeat]
      simp (dsimp := false) [hg, hf, a1, splice]
      refine (W_anyF (F := [(3, 13), (5, 13), (5, 15), (7, 13), (7, 15), (7, 17), (9, 13), (9, 15), (9, 17), (9, 19), (11, 13), (11, 15), (11, 17), (11, 19), (11, 21)]) (by kernel_rfl)).2 ?_
      simp (dsimp := false) [hf, a1, splice]
      simp (dsimp := false) [hB, Ck.cells, kindP, kindC, kindG, isInit, isErr, isConf]
    · skip
      by_cases a2 : c.typ = 2
      · have hB : c.plain = c.plain := rfl
        conv at hB => rhs; simp (dsimp := false) [Ck.plain, a2, isInit, isErr, isConf, isBare, isBeat]
        simp (dsimp := false) [hg, hf, a2, splice]
        refine (W_anyF (F := [(3, 13), (5, 13), (5, 15), (7, 13), (7, 15), (7, 17), (9, 13), (9, 15), (9, 17), (9, 19), (11, 13), (11, 15), (11, 17), (11, 19), (11, 21)]) (by kernel_rfl)).2 ?_
        simp (dsimp := false) [hf, a2, splice]
        simp (dsimp := false) [hB, Ck.cells, kindP, kindC, kindG, isInit, isErr, isConf]
      · skip
        by_cases a3 : c.typ = 3
        · have hB : c.plain = c.plain := rfl
          conv at hB => rhs; simp (dsimp := false) [Ck.plain, a3, isInit, isErr, isConf, isBare, isBeat]
          simp (dsimp := false) [hg, hf, a3, splice]
          refine (W_anyF (F := [(3, 9), (5, 9), (5, 11), (7, 9), (7, 11), (7, 13)]) (by kernel_rfl)).2 ?_
          simp (dsimp := false) [hf, a3, splice]
          simp (dsimp := false) [hB, Ck.cells, kindP, kindC, kindG, isInit, isErr, isConf]
        · skip
          by_cases a4 : c.typ = 4
          · have hB : c.plain = c.plain := rfl
            conv at hB => rhs; simp (dsimp := false) [Ck.plain, a4, isInit, isErr, isConf, isBare, isBeat]
            simp (dsimp := false) [hg, hf, a4, splice]
            simp (dsimp := false) [hB, Ck.cells, kindP, kindC, kindG, isInit, isErr, isConf]
          · skip
            by_cases a5 : c.typ = 5
            · have hB : c.plain = c.plain := rfl
              conv at hB => rhs; simp (dsimp := false) [Ck.plain, a5, isInit, isErr, isConf, isBare, isBeat]
              simp (dsimp := false) [hg, hf, a5, splice]
              simp (dsimp := false) [hB, Ck.cells, kindP, kindC, kindG, isInit, isErr, isConf]
            · skip
              by_cases a6 : c.typ = 6
              · have hB : c.plain = c.plain := rfl
                conv at hB => rhs; simp (dsimp := false) [Ck.plain, a6, isInit, isErr, isConf, isBare, isBeat]
                simp (dsimp := false) [hg, hf, a6, splice]
                simp (dsimp := false) [hB, Ck.cells, kindP, kindC, kindG, isInit, isErr, isConf]
              · skip
                by_cases a9 : c.typ = 9
                · have hB : c.plain = c.plain := rfl
                  conv at hB => rhs; simp (dsimp := false) [Ck.plain, a9, isInit, isErr, isConf, isBare, isBeat]
                  simp (dsimp := false) [hg, hf, a9, splice]
                  simp (dsimp := false) [hB, Ck.cells, kindP, kindC, kindG, isInit, isErr, isConf]
                · skip
                  by_cases a7 : c.typ = 7
                  · have hB : c.plain = c.plain := rfl
                    conv at hB => rhs; simp (dsimp := false) [Ck.plain, a7, isInit, isErr, isConf, isBare, isBeat]
                    simp (dsimp := false) [hg, hf, a7, splice]
                    simp (dsimp := false) [hB, Ck.cells, kindP, kindC, kindG, isInit, isErr, isConf]
                  · skip
                    by_cases a193 : c.typ = 193
                    · have hB : c.plain = c.plain := rfl
                      conv at hB => rhs; simp (dsimp := false) [Ck.plain, a193, isInit, isErr, isConf, isBare, isBeat]
                      simp (dsimp := false) [hg, hf, a193, splice]
                      refine (W_anyF (F := [(3, 5)]) (by kernel_rfl)).2 ?_
                      simp (dsimp := false) [hf, a193, splice]
                      simp (dsimp := false) [hB, Ck.cells, kindP, kindC, kindG, isInit, isErr, isConf]
                    · skip
                      by_cases a128 : c.typ = 128
                      · have hB : c.plain = c.plain := rfl
                        conv at hB => rhs; simp (dsimp := false) [Ck.plain, a128, isInit, isErr, isConf, isBare, isBeat]
                        simp (dsimp := false) [hg, hf, a128, splice]
                        refine (W_anyF (F := [(3, 5)]) (by kernel_rfl)).2 ?_
                        simp (dsimp := false) [hf, a128, splice]
                        simp (dsimp := false) [hB, Ck.cells, kindP, kindC, kindG, isInit, isErr, isConf]
                      · skip
                        by_cases a130 : c.typ = 130
                        · have hB : c.plain = c.plain := rfl
                          conv at hB => rhs; simp (dsimp := false) [Ck.plain, a130, isInit, isErr, isConf, isBare, isBeat]
                          simp (dsimp := false) [hg, hf, a130, splice]
                          refine (W_anyF (F := [(3, 5)]) (by kernel_rfl)).2 ?_
                          simp (dsimp := false) [hf, a130, splice]
                          simp (dsimp := false) [hB, Ck.cells, kindP, kindC, kindG, isInit, isErr, isConf]
                        · skip
                          by_cases a8 : c.typ = 8
                          · have hB : c.plain = c.plain := rfl
                            conv at hB => rhs; simp (dsimp := false) [Ck.plain, a8, isInit, isErr, isConf, isBare, isBeat]
                            simp (dsimp := false) [hg, hf, a8, splice]
                            simp (dsimp := false) [hB, Ck.cells, kindP, kindC, kindG, isInit, isErr, isConf]
                          · skip
                            by_cases a11 : c.typ = 11
                            · have hB : c.plain = c.plain := rfl
                              conv at hB => rhs; simp (dsimp := false) [Ck.plain, a11, isInit, isErr, isConf, isBare, isBeat]
                              simp (dsimp := false) [hg, hf, a11, splice]
                              simp (dsimp := false) [hB, Ck.cells, kindP, kindC, kindG, isInit, isErr, isConf]
                            · skip
                              by_cases a14 : c.typ = 14
                              · have hB : c.plain = c.plain := rfl
                                conv at hB => rhs; simp (dsimp := false) [Ck.plain, a14, isInit, isErr, isConf, isBare, isBeat]
                                simp (dsimp := false) [hg, hf, a14, splice]
                                simp (dsimp := false) [hB, Ck.cells, kindP, kindC, kindG, isInit, isErr, isConf]
                              · skip
                                by_cases a15 : c.typ = 15
                                · have hB : c.plain = c.plain := rfl
                                  conv at hB => rhs; simp (dsimp := false) [Ck.plain, a15, isInit, isErr, isConf, isBare, isBeat]
                                  simp (dsimp := false) [hg, hf, a15, splice]
                                  refine (W_anyF (F := [(3, 7), (5, 7), (5, 9)]) (by kernel_rfl)).2 ?_
                                  simp (dsimp := false) [a15, splice]
                                  simp (dsimp := false) [hB, Ck.cells, kindP, kindC, kindG, isInit, isErr, isConf]
                                · skip
                                  have hB : c.plain = c.plain := rfl
                                  conv at hB => rhs; simp (dsimp := false) [Ck.plain, a0, a1, a2, a3, a4, a5, a6, a9, a7, a193, a128, a130, a8, a11, a14, a15, isInit, isErr, isConf, isBare, isBeat]
                                  simp (dsimp := false) [hg, hf, splice, a0, a1, a2, a3, a6, a9, a7, a193, a128, a130, a8, a11, a14, a15]
                                  simp (dsimp := false) [hB, Ck.cells, kindP, kindC, kindG, a1, a2, a3, a6, a9, a193, a128, a130, isInit, isErr, isConf]
end
end Go.Proofs.YtklbbjfbcibghaaGreat
end
section
namespace Go.Proofs.YtklbbjfbcibghaaGreat
open Go.Hl
set_option maxHeartbeats 4000000
variable {C : CallT}
section
variable {h : H} {c : Ck} {vp vc vg vd : V}
theorem plain_is (hc : CkIs h c vp vc vg vd) : CkIs h c.plain (if kindP c.typ then vp else .nils) (if kindC c.typ then vc else .nils) (if kindG c.typ then vg else .nils) (if kindG c.typ then vd else .nils) := by
  have n2 := Sl.nil h 2
  have n1 := Sl.nil h 1
  obtain ⟨s1, s2, s3, s4⟩ := hc
  unfold Ck.plain kindP kindC kindG
  by_cases a0 : c.typ = 0
  · exact ⟨by simp (dsimp := false) [a0, isInit, isConf, n2], by simp (dsimp := false) [a0, isErr, n2], by simp (dsimp := false) [a0, n2], by simp (dsimp := false) [a0, n1]⟩
  by_cases a1 : isInit c.typ = true
  · have : ¬ c.typ = 3 := fun h => by simp (dsimp := false) [h, isInit] at a1
    have : isErr c.typ = false := by unfold isInit at a1; unfold isErr; simp at a1 ⊢; omega
    exact ⟨by simp (dsimp := false) [*], by simp (dsimp := false) [*], by simp (dsimp := false) [*], by simp (dsimp := false) [*]⟩
  by_cases a3 : c.typ = 3
  · exact ⟨by simp (dsimp := false) [a3, isInit, isConf, n2], by simp (dsimp := false) [a3, isErr, isInit, n2], by simp (dsimp := false) [a3, isInit, s3], by simp (dsimp := false) [a3, isInit, s4]⟩
  by_cases a6 : isErr c.typ = true
  · have : isConf c.typ = false := by unfold isErr at a6; unfold isConf; simp at a6 ⊢; omega
    exact ⟨by simp (dsimp := false) [*], by simp (dsimp := false) [*], by simp (dsimp := false) [*], by simp (dsimp := false) [*]⟩
  by_cases a7 : c.typ = 7
  · exact ⟨by simp (dsimp := false) [a7, isInit, isErr, isConf, n2], by simp (dsimp := false) [a7, isErr, isInit, n2], by simp (dsimp := false) [a7, isInit, isErr, n2], by simp (dsimp := false) [a7, isInit, isErr, n1]⟩
  by_cases a8 : isConf c.typ = true
  · exact ⟨by simp (dsimp := false) [*], by simp (dsimp := false) [*], by simp (dsimp := false) [*], by simp (dsimp := false) [*]⟩
  by_cases a9 : isBare c.typ = true
  · exact ⟨by simp (dsimp := false) [*], by simp (dsimp := false) [*], by simp (dsimp := false) [*], by simp (dsimp := false) [*]⟩
  by_cases a15 : c.typ = 15
  · exact ⟨by simp (dsimp := false) [a15, isInit, isErr, isConf, isBare, n2], by simp (dsimp := false) [a15, isErr, isInit, isConf, isBare, n2], by simp (dsimp := false) [a15, isInit, isErr, isConf, isBare, n2], by simp (dsimp := false) [a15, isInit, isErr, isConf, isBare, n1]⟩
  · exact ⟨by simp (dsimp := false) [*], by simp (dsimp := false) [*], by simp (dsimp := false) [*], by simp (dsimp := false) [*]⟩
structure CkSmall (c : Ck) : Prop where
  lp : c.params.length ≤ 1000000
  lc : c.causes.length ≤ 1000000
  lg : c.gaps.length ≤ 1000000
  ld : c.dups.length ≤ 1000000
  ls : c.data.length ≤ 1000000
theorem body_lt (hl : CkSmall c) : c.body.length ≤ 2000000000 := by
  obtain ⟨l1, l2, l3, l4, l5⟩ := hl
  have e1 := putAll_len c.params
  have e2 := gapsF_len c.gaps
  have e3 := dupsF_len c.dups
  have e4 := putAll_len c.causes
  have e5 := Pm.put_len ⟨1, c.data⟩
  unfold Ck.body gapsB
  repeat' split
  all_goals (try simp only [List.length_append, be2_len, be4_len, List.length_nil])
  all_goals omega
theorem chunk_May (hc : CkIs h c vp vc vg vd) (hl : CkSmall c) : Does Tryz.prog C 103 [.agg (c.cells vp vc vg vd)] h = some (.bool c.may, h) := by
  have hf := hc.facts
  have hpl := plain_is hc
  have f1 : ∀ h, Does Tryz.prog C 124 [.int .i64 c.typ] h = some (.int .i64 (flagsT c.typ), h) := fun h => chunk_flags _
  have f2 : ∀ m, Does Tryz.prog C 125 [.agg (c.cells vp vc vg vd)] ⟨h.blks ++ m, []⟩ = some (.bool c.lists, ⟨h.blks ++ m, []⟩) := fun m => chunk_lists (hc.app m) hl.lp hl.lc
  have f3 : ∀ x h, Does Tryz.prog C 126 [.int .i64 x] h = some (.bool (word x), h) := fun x h => chunk_word x
  have f4 : ∀ m, Does Tryz.prog C 127 [vg] ⟨h.blks ++ m, []⟩ = some (.bool (rising c.gaps), ⟨h.blks ++ m, []⟩) := fun m => chunk_rising (hc.sg.app (es' := [])) hl.lg
  have f5 : ∀ m, Does Tryz.prog C 128 [.agg (c.cells vp vc vg vd)] ⟨h.blks ++ m, []⟩ = some (.str c.body, ⟨h.blks ++ m, []⟩) := fun m => chunk_body (hc.app m) hl.lp hl.lc hl.lg hl.ld hl.ls
  have f6 : ∀ m, Does Tryz.prog C 130 [.agg (c.cells vp vc vg vd)] ⟨h.blks ++ m, []⟩ = some (.agg (c.plain.cells (if kindP c.typ then vp else .nils) (if kindC c.typ then vc else .nils) (if kindG c.typ then vg else .nils) (if kindG c.typ then vd else .nils)), ⟨h.blks ++ m, []⟩) := fun m => chunk_plain (hc.app m)
  have f7 : ∀ m, Does Tryz.prog C 129 [.agg (c.cells vp vc vg vd), .agg (c.plain.cells (if kindP c.typ then vp else .nils) (if kindC c.typ then vc else .nils) (if kindG c.typ then vg else .nils) (if kindG c.typ then vd else .nils))] ⟨h.blks ++ m, []⟩ = some (.bool (c.same c.plain), ⟨h.blks ++ m, []⟩) := fun m => chunk_same (hc.app m) (hpl.app m)
  have f8 := hc.sd.len Tryz.underlying30
  have hM : c.may = c.may := rfl
  conv at hM => rhs; unfold Ck.may
  generalize c.plain.cells (if kindP c.typ then vp else .nils) (if kindC c.typ then vc else .nils) (if kindG c.typ then vg else .nils) (if kindG c.typ then vd else .nils) = pv at f6 f7
  have ho : bitsOp .andNot .i64 c.flags (flagsT c.typ) = some (IntKind.i64.wrap (oddBits c.flags c.typ)) := rfl
  have hu : ∀ x : List V, V.isU (.agg x) = false := fun x => rfl
  unfold Ck.cells at f2 f5 f6 f7 ⊢
  refine Does_eq (n := 93) (rs := [.tmp 2]) Tryz.func103 (by kernel_rfl) rfl rfl rfl (by simp) fun σ hg => ?_
  refine W_stop fun K hK => ?_
  simp (dsimp := false) [hg, hf]
  rw [hK]
  clear hK
  refine W_stop fun K2 hK2 => W_stop fun K hK => ?_
  refine (W_anyF (F := [(15, 18)]) (by kernel_rfl)).2 ?_
  simp (dsimp := false) (contextual := true) [f1, f2, bin_andNot, ho]
  rw [hK, hK2]
  clear hK hK2 K K2
  simp (dsimp := false) (maxSteps := 1000000) (contextual := true) [-run_groupK, run_join, f3, f4, f8]
  split
  · rw [hM, decide_eq_false (by omega : ¬ 0 ≤ c.typ)]; simp only [Bool.false_and]
  · split
    · rw [hM, decide_eq_false (by omega : ¬ c.typ ≤ 255)]; simp only [Bool.false_and, Bool.and_false]
    · split
      · rw [hM, decide_eq_false (by omega : ¬ 0 ≤ c.flags)]; simp only [Bool.false_and, Bool.and_false]
      · split
        · split
          · split
            · rename_i b1 b2 b3 b4 b5 b
              rcases b with ((((((b | b) | b) | b) | b) | b) | b)
              · simp (dsimp := false) [hM, b]
              · simp (dsimp := false) [hM, b]
              · simp (dsimp := false) [hM, b]
              · simp (dsimp := false) [hM, b]
              · have : ¬ c.data.length ≤ 900 := by omega
                simp (dsimp := false) [hM, this]
              · simp (dsimp := false) [hM, b]
              · have : ¬ c.dups.length ≤ 16 := by omega
                simp (dsimp := false) [hM, this]
            · split
              · rename_i b
                have ht : isInit c.typ = true := by unfold isInit; simp only [Bool.or_eq_true, decide_eq_true_eq]; exact b.1
                rw [hM, ht, b.2]
                simp
              · rename_i b1 b2 b3 b4 b5 b6 b7
                refine (W_anyF (F := [(5, 7)]) (by kernel_rfl)).2 ?_
                simp (dsimp := false) (contextual := true) [f5, f6, f7]
                split
                · rename_i b
                  have hb : ¬ ((c.body.length : Int) ≤ 65531) := by omega
                  have hb' : ¬ c.body.length ≤ 65531 := by omega
                  simp (dsimp := false) [hb]
                  simp (dsimp := false) [hM, hb']
                · rename_i b
                  have hb : ((c.body.length : Int) ≤ 65531) := by omega
                  have hb' : c.body.length ≤ 65531 := by omega
                  simp (dsimp := false) [hb]
                  simp only [not_or, Bool.not_eq_false] at b6
                  obtain ⟨⟨⟨⟨⟨⟨w1, w2⟩, w3⟩, w4⟩, w5⟩, w6⟩, w7⟩ := b6
                  have ht : (isInit c.typ && decide (c.tag = 0)) = false := by
                    rw [Bool.eq_false_iff]
                    intro hx
                    simp only [isInit, Bool.and_eq_true, Bool.or_eq_true, decide_eq_true_eq] at hx
                    exact b7 hx
                  rw [hM, decide_eq_true (by omega : 0 ≤ c.typ), decide_eq_true (by omega : c.typ ≤ 255), decide_eq_true (by omega : 0 ≤ c.flags), decide_eq_true b4, b5, w1, w2, w3, w4, decide_eq_true (by omega : c.data.length ≤ 900), w6, decide_eq_true (by omega : c.dups.length ≤ 16), ht, decide_eq_true hb']
                  rfl
          · rename_i b
            simp (dsimp := false) [hM, b]
        · rename_i b
          simp (dsimp := false) [hM, b]
end
end Go.Proofs.YtklbbjfbcibghaaGreat
end
section
namespace Go.Proofs.YtklbbjfbcibghaaGreat
open Go.Hl
set_option maxHeartbeats 2000000
variable {C : CallT}
section
variable {h : H}
theorem rdoc_Params {l : List Pm} {v : V} (hs : Sl h 2 l.length (l.flatMap Pm.cells) v) (hl : l.length ≤ 1000000) : Ok (Does Tryz.prog C 53 [v] h) fun x => ∃ m, x = (.sl h.blks.length 0 l.length l.length 2 false, ⟨h.blks ++ ⟨l.flatMap Pm.cells, l.length, 0, false⟩ :: m, h.esc⟩) := by
  have hlen := hs.len Tryz.underlying27
  obtain ⟨p, hia, hrd, -⟩ := (hs.blks (h' := ⟨h.blks, []⟩) rfl).at Pm.cells_len
  refine Does_wp (n := 20) (rs := [.tmp 2]) Tryz.func53 (by kernel_rfl) rfl rfl rfl (by simp) fun σ hg => ?_
  simp (dsimp := false)
  refine W_loopM (fun k σ h' => ∃ i : Nat, ∃ m, k = l.length - i ∧ i ≤ l.length ∧ h' = ⟨h.blks ++ (⟨(l.take i).flatMap Pm.cells, i, 0, false⟩ :: m), []⟩ ∧ σ 0 = v ∧ σ 4 = .int .i64 i ∧ σ 3 = .sl h.blks.length 0 i i 2 false) ?_ l.length _ _ ?_
  · rintro _ σ _ ⟨i, m, rfl, hi, rfl, h0, h4, h3⟩
    simp (dsimp := false) [h0, h4, h3, hlen]
    split
    · rename_i hlt
      have ha := append_at (l := h.blks ++ (⟨(l.take i).flatMap Pm.cells, i, 0, false⟩ :: (m ++ [⟨l[i].cells, 0, 0, false⟩]))) (es := []) (cs := (l.take i).flatMap Pm.cells) (ys := l[i].cells) (k := i) (esz := 2) (eb := 24) (b := h.blks.length) (j := h.blks.length + (m.length + 1)) (by simp) (by simp)
        (by rw [flat_len Pm.cells_len]; simp; omega) rfl (by decide) (by simp (dsimp := false) [Pm.cells]) (by omega) (by omega)
      simp (dsimp := false) [Pm.cells] at ha
      simp (dsimp := false) [h0, h3, h4, hia i hlt, hrd i hlt _ Ext.app, Pm.cells, splice, ha, wrap_succ hlt (by omega)]
      exact ⟨_, by omega, i + 1, rfl, by omega, ⟨by rw [flat_take hlt]; simp (dsimp := false) [Pm.cells], rfl⟩, by simp, rfl⟩
    · obtain rfl : i = l.length := by omega
      simp
  · exact ⟨0, [], by simp (dsimp := false) [hg]⟩
theorem rdoc_Causes {l : List Pm} {v : V} (hs : Sl h 2 l.length (l.flatMap Pm.cells) v) (hl : l.length ≤ 1000000) : Ok (Does Tryz.prog C 20 [v] h) fun x => ∃ m, x = (.sl h.blks.length 0 l.length l.length 2 false, ⟨h.blks ++ ⟨l.flatMap Pm.cells, l.length, 0, false⟩ :: m, h.esc⟩) := by
  have hlen := hs.len Tryz.underlying28
  obtain ⟨p, pf, hia, hrd, hfa, hrf⟩ := (hs.blks (h' := ⟨h.blks, []⟩) rfl).atF Pm.cells_len
  refine Does_wp (n := 27) (rs := [.tmp 2]) Tryz.func20 (by kernel_rfl) rfl rfl rfl (by simp) fun σ hg => ?_
  simp (dsimp := false)
  refine W_loopM (fun k σ h' => ∃ i : Nat, ∃ m, k = l.length - i ∧ i ≤ l.length ∧ h' = ⟨h.blks ++ (⟨(l.take i).flatMap Pm.cells, i, 0, false⟩ :: m), []⟩ ∧ σ 0 = v ∧ σ 4 = .int .i64 i ∧ σ 3 = .sl h.blks.length 0 i i 2 false) ?_ l.length _ _ ?_
  · rintro _ σ _ ⟨i, m, rfl, hi, rfl, h0, h4, h3⟩
    simp (dsimp := false) [h0, h4, h3, hlen]
    split
    · rename_i hlt
      have ha := append_at (l := h.blks ++ (⟨(l.take i).flatMap Pm.cells, i, 0, false⟩ :: (m ++ [⟨l[i].cells, 0, 0, false⟩]))) (es := []) (cs := (l.take i).flatMap Pm.cells) (ys := l[i].cells) (k := i) (esz := 2) (eb := 24) (b := h.blks.length) (j := h.blks.length + (m.length + 1)) (by simp) (by simp)
        (by rw [flat_len Pm.cells_len]; simp; omega) rfl (by decide) (by simp (dsimp := false) [Pm.cells]) (by omega) (by omega)
      simp (dsimp := false) [Pm.cells] at ha
      have hx := fun m => hrf i hlt 0 (by decide) _ (Ext.app (l := h.blks) (m := m))
      have hy := fun m => hrf i hlt 1 (by decide) _ (Ext.app (l := h.blks) (m := m))
      have hq := hfa i hlt
      simp only [Pm.cells] at hx hy
      simp at hx hy
      refine (W_anyF (F := []) (by kernel_rfl)).2 ?_
      simp (dsimp := false) [h0, h3, h4, hia i hlt, hx, hy, hq, splice, ha]
      exact ⟨_, by omega, i + 1, rfl, by omega, ⟨by rw [flat_take hlt]; simp (dsimp := false) [Pm.cells], rfl⟩, by rw [wrap_succ hlt (by omega)], rfl⟩
    · obtain rfl : i = l.length := by omega
      simp
  · exact ⟨0, [], by simp (dsimp := false) [hg]⟩
theorem qHas_iff (c : Ck) : qHas c = true ↔
    ((c.tsn ≠ 0 ∧ ¬ (qKind c.typ = 0 ∨ qKind c.typ = 1 ∨ qKind c.typ = 3 ∨ qKind c.typ = 7 ∨ qKind c.typ = 16)) ∨ (c.stream ≠ 0 ∧ qKind c.typ ≠ 0 ∧ qKind c.typ ≠ 15) ∨ (c.ssn ≠ 0 ∧ qKind c.typ ≠ 0 ∧ qKind c.typ ≠ 15) ∨ (c.proto ≠ 0 ∧ qKind c.typ ≠ 0) ∨
      (c.data ≠ [] ∧ ¬ (qKind c.typ = 0 ∨ qKind c.typ = 4 ∨ qKind c.typ = 10 ∨ qKind c.typ = 15 ∨ qKind c.typ = 20)) ∨ ((c.tag ≠ 0 ∨ c.out ≠ 0 ∨ c.inn ≠ 0) ∧ qKind c.typ ≠ 1) ∨ (c.rwnd ≠ 0 ∧ qKind c.typ ≠ 1 ∧ qKind c.typ ≠ 3) ∨
      (0 < c.params.length ∧ qKind c.typ ≠ 1 ∧ qKind c.typ ≠ 16) ∨ (0 < c.causes.length ∧ qKind c.typ ≠ 6) ∨ (0 < c.gaps.length + c.dups.length ∧ qKind c.typ ≠ 3)) := by
  unfold qHas
  simp only [Bool.or_eq_true, Bool.and_eq_true, decide_eq_true_eq, Bool.not_eq_true', decide_eq_false_iff_not, or_assoc, and_assoc]
set_option maxRecDepth 100000 in
theorem rdoc_has {c : Ck} {vp vc vg vd : V} (hc : CkIs h c vp vc vg vd) (hm : CkSmall c) : Does Tryz.prog C 92 [.agg (c.cells vp vc vg vd)] h = some (.bool (qHas c), h) := by
  have hf := hc.facts
  have hK := fun h => rdoc_Kind (C := C) (h := h) c.typ
  have l1 := hc.sp.len Tryz.underlying27
  have l2 := hc.sc.len Tryz.underlying28
  have l3 := hc.sg.len Tryz.underlying29
  have l4 := hc.sd.len Tryz.underlying30
  have hw : IntKind.i64.wrap ((c.gaps.length : Int) + (c.dups.length : Int)) = (c.gaps.length : Int) + c.dups.length := by
    have := hm.lg
    have := hm.ld
    exact wrap_i64 (by omega) (by omega)
  have hQ := qHas_iff c
  unfold Ck.cells
  generalize qHas c = q at *
  generalize qKind c.typ = k at *
  refine Does_eq (n := 166) (rs := [.tmp 2]) Tryz.func92 (by kernel_rfl) rfl rfl rfl (by simp) fun σ hg => ?_
  simp (dsimp := false) (maxSteps := 2000000) [-run_groupK, run_join, hg, hf, hK, l1, l2, l3, l4, hw]
  clear hg hK hf l1 l2 l3 l4 hw hm hc
  have hd : ((0 : Int) < (c.gaps.length : Int) + (c.dups.length : Int)) ↔ 0 < c.gaps.length + c.dups.length := by omega
  repeat' split
  all_goals (cases q <;> grind)
end
end Go.Proofs.YtklbbjfbcibghaaGreat
end
section
namespace Go.Hl
/-- All elements of one behind those of another one. -/
theorem append_rows {l : List Blk} {es : List (Nat × Nat)} {cs ys : List V} {k n esz eb b j : Nat} (hb : l[b]? = some ⟨cs, k, 0, false⟩) (hj : l[j]? = some ⟨ys, n, 0, false⟩) (hc : cs.length = k * esz) (hy : ys.length = n * esz) (hz : 0 < esz) (hok : ys.all V.cellOk = true) (hu : ∀ b, V.uptos b ys = [])
    (h1 : (k + n) * eb ≤ 70368744177664) (h2 : k + n ≤ 70368744177664) :
    ∃ g, appendV esz eb ⟨l, es⟩ (.sl b 0 k k esz false) (.sl j 0 n n esz false) = some (.sl b 0 (k + n) g esz false, ⟨l.set b ⟨cs ++ ys, g, 0, false⟩, es⟩) := by
  have hr : H.read ⟨l, es⟩ j 0 n (n * esz) = some ys := by
    simp only [H.read, hj]
    rw [if_pos ⟨Nat.zero_le _, Nat.le_refl _⟩, List.drop_zero, List.take_of_length_le (Nat.le_of_eq hy)]
  have e2 : 0 + k * esz = cs.length := by omega
  by_cases h0 : n = 0
  · subst h0
    have : ys = [] := List.length_eq_zero_iff.1 (by omega)
    subst this
    refine ⟨k, ?_⟩
    simp only [appendV, sourceOf, if_true, hr, Option.map_some]
    rw [List.append_nil, set_self hb]
    simp
  · refine ⟨k + 1, ?_⟩
    simp only [appendV, sourceOf, if_true, hr, Option.map_some, lenV_sl, appendTo, hb, e2, H.grow]
    rw [if_neg h0, if_pos ⟨hz, h1, h2⟩]
    simp (dsimp := false) [hok, escs, hu]
end Go.Hl
namespace Go.Proofs.YtklbbjfbcibghaaGreat
open Go.Hl
set_option maxHeartbeats 4000000
variable {C : CallT}
def allM (l : List Pm) : Bool := l.all Pm.may
theorem allM_drop {l : List Pm} {i : Nat} (h : i < l.length) : allM (l.drop i) = (l[i].may && allM (l.drop (i + 1))) := by
  unfold allM
  rw [List.drop_eq_getElem_cons h, List.all_cons]
theorem pm_ok (l : List Pm) : (l.flatMap Pm.cells).all V.cellOk = true := by
  induction l with
  | nil => rfl
  | cons p l ih => simp (dsimp := false) [List.flatMap_cons, Pm.cells, V.cellOk]
theorem pm_upto (l : List Pm) (b : Nat) : V.uptos b (l.flatMap Pm.cells) = [] := by
  induction l with
  | nil => rfl
  | cons p l ih => simp (dsimp := false) [List.flatMap_cons, Pm.cells, V.uptos, V.upto, ih]
section
variable {h : H}
set_option maxRecDepth 100000 in
theorem rdoc_May {c : Ck} {vp vc vg vd : V} (hc : CkIs h c vp vc vg vd) (hm : CkSmall c) (hwf : ∀ g ∈ c.gaps, g.1 ≤ 9223372036854775807) : Does Tryz.prog C 62 [.agg (c.cells vp vc vg vd)] h = some (.bool (qMay c), h) := by
  have hf := hc.facts
  have hKi := fun h => rdoc_Kind (C := C) (h := h) c.typ
  have hfl := fun h => rdoc_flags (C := C) (h := h) c.typ
  have hHas := fun m => rdoc_has (C := C) (CkIs.app (es' := []) hc m) hm
  have hGa := fun m => rdoc_gaps (C := C) (Sl.app (es' := []) (m := m) hc.sg) hm.lg hwf
  have l1 := hc.sp.len Tryz.underlying27
  have l2 := hc.sc.len Tryz.underlying28
  have l3 := hc.sg.len Tryz.underlying29
  have l4 := hc.sd.len Tryz.underlying30
  have hfr : 0 ≤ flagsT c.typ ∧ flagsT c.typ ≤ 255 := by
    unfold flagsT
    repeat' split
    all_goals omega
  have hw255 : IntKind.i64.wrap (255 - flagsT c.typ) = 255 - flagsT c.typ := wrap_i64 (by omega) (by omega)
  have ho : bitsOp .and .i64 c.flags (255 - flagsT c.typ) = some (IntKind.i64.wrap (qOdd c.flags c.typ)) := rfl
  unfold Ck.cells at *
  have hsp := fun m => hc.sp.app (es' := []) (m := m)
  have hsc := fun m => hc.sc.app (es' := []) (m := m)
  have hwd := fun x h => rdoc_word (C := C) (h := h) x
  refine Does_eq (n := 115) (rs := [.tmp 2]) Tryz.func62 (by kernel_rfl) rfl rfl rfl (by simp) fun σ hg => ?_
  refine W_stop fun K hK => ?_
  simp (dsimp := false) [hg, hf]
  rw [hK]
  clear hK
  refine W_stop fun K2 hK2 => W_stop fun K hK => ?_
  generalize hB : (⟨[.int .i64 c.typ, .int .i64 c.flags, .int .u32 c.tsn, .int .i64 c.stream, .int .i64 c.ssn, .int .u32 c.proto, .str c.data, .int .u32 c.tag, .int .u32 c.rwnd, .int .i64 c.out, .int .i64 c.inn, vp, vc, vg, vd], 0, 0, false⟩ : Blk) = box
  have hKt : qMay c = false → ∀ σ : Nat → V, σ 77 = .bool true → K (mk 115 σ) ⟨h.blks ++ [box], []⟩ := by
    intro hq σ h77
    rw [hK, hK2, hq]
    simp (dsimp := false) [h77]
  have hKf : qMay c = (allM (c.params ++ c.causes) && word c.stream && word c.ssn && word c.out && word c.inn) → ∀ σ : Nat → V, σ 1 = .ptr h.blks.length 0 0 15 → σ 77 = .bool false → K (mk 115 σ) ⟨h.blks ++ [box], []⟩ := by
    intro hq σ h1 h77
    rw [hK, hK2, hq]
    simp (dsimp := false) [h77]
    subst hB
    obtain ⟨y, hy, m, hym⟩ := rdoc_Params (C := C) (hsp [⟨[.int .i64 c.typ, .int .i64 c.flags, .int .u32 c.tsn, .int .i64 c.stream, .int .i64 c.ssn, .int .u32 c.proto, .str c.data, .int .u32 c.tag, .int .u32 c.rwnd, .int .i64 c.out, .int .i64 c.inn, vp, vc, vg, vd], 0, 0, false⟩]) hm.lp
    subst hym
    simp at hy
    obtain ⟨y2, hy2, m2, hym2⟩ := rdoc_Causes (C := C) (hsc (⟨[.int .i64 c.typ, .int .i64 c.flags, .int .u32 c.tsn, .int .i64 c.stream, .int .i64 c.ssn, .int .u32 c.proto, .str c.data, .int .u32 c.tag, .int .u32 c.rwnd, .int .i64 c.out, .int .i64 c.inn, vp, vc, vg, vd], 0, 0, false⟩ :: ⟨c.params.flatMap Pm.cells, c.params.length, 0, false⟩ :: m)) hm.lc
    subst hym2
    simp at hy2
    have hlp := hm.lp
    have hlc := hm.lc
    obtain ⟨g, ha⟩ := append_rows (l := h.blks ++ (⟨[.int .i64 c.typ, .int .i64 c.flags, .int .u32 c.tsn, .int .i64 c.stream, .int .i64 c.ssn, .int .u32 c.proto, .str c.data, .int .u32 c.tag, .int .u32 c.rwnd, .int .i64 c.out, .int .i64 c.inn, vp, vc, vg, vd], 0, 0, false⟩ :: ⟨c.params.flatMap Pm.cells, c.params.length, 0, false⟩ :: (m ++ ⟨c.causes.flatMap Pm.cells, c.causes.length, 0, false⟩ :: m2))) (es := [])
      (k := c.params.length) (n := c.causes.length) (esz := 2) (eb := 24) (b := h.blks.length + 1) (j := h.blks.length + (m.length + 1 + 1)) (by simp) (by simp) (flat_len Pm.cells_len c.params) (flat_len Pm.cells_len c.causes) (by decide) (pm_ok c.causes) (pm_upto c.causes) (by omega) (by omega)
    simp at ha
    refine (W_anyF (F := [(4, 2)]) (by kernel_rfl)).2 ?_
    simp (dsimp := false) [h1, hy, hy2, ha]
    generalize hH0 : h.blks ++ (⟨[.int .i64 c.typ, .int .i64 c.flags, .int .u32 c.tsn, .int .i64 c.stream, .int .i64 c.ssn, .int .u32 c.proto, .str c.data, .int .u32 c.tag, .int .u32 c.rwnd, .int .i64 c.out, .int .i64 c.inn, vp, vc, vg, vd], 0, 0, false⟩ :: ⟨c.params.flatMap Pm.cells ++ c.causes.flatMap Pm.cells, g, 0, false⟩ :: (m ++ ⟨c.causes.flatMap Pm.cells, c.causes.length, 0, false⟩ :: m2)) = H0
    have hbox : H0[h.blks.length]? = some ⟨[.int .i64 c.typ, .int .i64 c.flags, .int .u32 c.tsn, .int .i64 c.stream, .int .i64 c.ssn, .int .u32 c.proto, .str c.data, .int .u32 c.tag, .int .u32 c.rwnd, .int .i64 c.out, .int .i64 c.inn, vp, vc, vg, vd], 0, 0, false⟩ := by rw [← hH0]; simp
    have hSl : Sl ⟨H0, []⟩ 2 (c.params ++ c.causes).length ((c.params ++ c.causes).flatMap Pm.cells) (.sl (h.blks.length + 1) 0 (c.params.length + c.causes.length) g 2 false) := by
      refine .inr ⟨_, 0, g, false, ⟨c.params.flatMap Pm.cells ++ c.causes.flatMap Pm.cells, g, 0, false⟩, by rw [List.length_append], by rw [← hH0]; simp, Nat.zero_le _, Nat.le_refl _, ?_, flat_len Pm.cells_len _⟩
      rw [List.drop_zero, List.flatMap_append]
      exact List.take_of_length_le (by rw [← List.flatMap_append, flat_len Pm.cells_len]; exact Nat.le_refl _)
    have hlen := hSl.len Tryz.underlying62
    obtain ⟨p, hia, hrd, -⟩ := hSl.at Pm.cells_len
    have hMa := fun p h => rdoc4_May (C := C) (h := h) p
    have hll : (c.params ++ c.causes).length ≤ 2000000 := by rw [List.length_append]; omega
    have hunder : ∀ v, V.under h.blks.length v = true → leave h ⟨H0, []⟩ v = h := by
      intro v hv
      rw [← hH0]
      exact leave_appH hv
    clear hH0 ha hy hy2
    generalize V.sl (h.blks.length + 1) 0 (c.params.length + c.causes.length) g 2 false = v at *
    refine W_loopM (fun k σ h' => ∃ i : Nat, k = (c.params ++ c.causes).length - i ∧ i ≤ (c.params ++ c.causes).length ∧ h' = ⟨H0, []⟩ ∧ σ 1 = .ptr h.blks.length 0 0 15 ∧ σ 3 = v ∧ σ 4 = .int .i64 i ∧ allM (c.params ++ c.causes) = allM ((c.params ++ c.causes).drop i)) ?_ (c.params ++ c.causes).length _ _ ?_
    · generalize hl : c.params ++ c.causes = l at *
      rintro _ σ _ ⟨i, rfl, hi, rfl, h1, h3, h4, hA⟩
      simp (dsimp := false) [h1, h3, h4, hlen]
      split
      · rename_i hlt
        rw [allM_drop hlt] at hA
        have hr := hrd i hlt _ (Ext.refl _)
        have hM := fun h => hMa l[i] h
        simp only [Pm.cells] at hr hM
        cases hmay : l[i].may
        · rw [hmay, Bool.false_and] at hA
          rw [hA]
          simp (dsimp := false) [h3, h4, hia i hlt, hr, hM, hmay, hunder]
        · rw [hmay, Bool.true_and] at hA
          simp (dsimp := false) [h1, h3, h4, hia i hlt, hr, hM, hmay, wrap_succ hlt (by omega)]
          exact ⟨_, by omega, i + 1, rfl, by omega, by simp, hA⟩
      · obtain rfl : i = l.length := by omega
        rw [List.drop_length] at hA
        have e0 : allM [] = true := rfl
        rw [hA, e0]
        cases w1 : word c.stream <;> cases w2 : word c.ssn <;> cases w3 : word c.out <;> cases w4 : word c.inn <;> simp (dsimp := false) [h1, hwd, hbox, w1, w2, w3, w4, hunder]
    · exact ⟨0, by simp (dsimp := false) [h1]⟩
  clear hK hK2 hsp hsc hwd
  subst hB
  by_cases c1 : c.typ < 0
  · have f1 := eq_true c1
    have hq : qMay c = false := by rw [qMay, if_pos (.inl c1)]
    refine (W_anyF (F := [(20, 23)]) (by kernel_rfl)).2 ?_
    simp (dsimp := false) (maxSteps := 1000000) [f1]
    exact hKt hq _ (by simp)
  have f1 := eq_false c1
  by_cases c2 : 255 < c.typ
  · have f2 := eq_true c2
    have hq : qMay c = false := by rw [qMay, if_pos (.inr (.inl c2))]
    refine (W_anyF (F := [(20, 23)]) (by kernel_rfl)).2 ?_
    simp (dsimp := false) (maxSteps := 1000000) [f1, f2]
    exact hKt hq _ (by simp)
  have f2 := eq_false c2
  by_cases c3 : c.flags < 0
  · have f3 := eq_true c3
    have hq : qMay c = false := by rw [qMay, if_pos (.inr (.inr (.inl c3)))]
    refine (W_anyF (F := [(20, 23)]) (by kernel_rfl)).2 ?_
    simp (dsimp := false) (maxSteps := 1000000) [f1, f2, f3]
    exact hKt hq _ (by simp)
  have f3 := eq_false c3
  by_cases c4 : 255 < c.flags
  · have f4 := eq_true c4
    have hq : qMay c = false := by rw [qMay, if_pos (.inr (.inr (.inr (.inl c4))))]
    refine (W_anyF (F := [(20, 23)]) (by kernel_rfl)).2 ?_
    simp (dsimp := false) (maxSteps := 1000000) [f1, f2, f3, f4]
    exact hKt hq _ (by simp)
  have f4 := eq_false c4
  by_cases c5 : IntKind.i64.wrap (qOdd c.flags c.typ) ≠ 0
  · have f5 : (IntKind.i64.wrap (qOdd c.flags c.typ) = 0) = False := eq_false c5
    have hq : qMay c = false := by rw [qMay, if_pos (.inr (.inr (.inr (.inr (.inl c5)))))]
    refine (W_anyF (F := [(20, 23)]) (by kernel_rfl)).2 ?_
    simp (dsimp := false) (maxSteps := 1000000) [hfl, ho, hw255, f1, f2, f3, f4, f5]
    exact hKt hq _ (by simp)
  have f5 : (IntKind.i64.wrap (qOdd c.flags c.typ) = 0) = True := eq_true (Classical.byContradiction c5)
  by_cases c6 : qHas c = true
  · have f6 : qHas c = true := c6
    have hq : qMay c = false := by rw [qMay, if_pos (.inr (.inr (.inr (.inr (.inr (.inl c6))))))]
    refine (W_anyF (F := [(20, 23)]) (by kernel_rfl)).2 ?_
    simp (dsimp := false) (maxSteps := 1000000) [hfl, hHas, ho, hw255, f1, f2, f3, f4, f5, f6]
    exact hKt hq _ (by simp)
  have f6 : qHas c = false := by simpa using c6
  by_cases c7 : 16 < c.params.length
  · have f7 : (16 < (c.params.length : Int)) = True := eq_true (by omega)
    have hq : qMay c = false := by rw [qMay, if_pos (.inr (.inr (.inr (.inr (.inr (.inr (.inl c7)))))))]
    refine (W_anyF (F := [(20, 23)]) (by kernel_rfl)).2 ?_
    simp (dsimp := false) (maxSteps := 1000000) [l1, hfl, hHas, ho, hw255, f1, f2, f3, f4, f5, f6, f7]
    exact hKt hq _ (by simp)
  have f7 : (16 < (c.params.length : Int)) = False := eq_false (by omega)
  by_cases c8 : 16 < c.causes.length
  · have f8 : (16 < (c.causes.length : Int)) = True := eq_true (by omega)
    have hq : qMay c = false := by rw [qMay, if_pos (.inr (.inr (.inr (.inr (.inr (.inr (.inr (.inl c8))))))))]
    refine (W_anyF (F := [(20, 23)]) (by kernel_rfl)).2 ?_
    simp (dsimp := false) (maxSteps := 1000000) [l1, l2, hfl, hHas, ho, hw255, f1, f2, f3, f4, f5, f6, f7, f8]
    exact hKt hq _ (by simp)
  have f8 : (16 < (c.causes.length : Int)) = False := eq_false (by omega)
  by_cases c9 : 16 < c.dups.length
  · have f9 : (16 < (c.dups.length : Int)) = True := eq_true (by omega)
    have hq : qMay c = false := by rw [qMay, if_pos (.inr (.inr (.inr (.inr (.inr (.inr (.inr (.inr (.inl c9)))))))))]
    refine (W_anyF (F := [(20, 23)]) (by kernel_rfl)).2 ?_
    simp (dsimp := false) (maxSteps := 1000000) [l1, l2, l4, hfl, hHas, ho, hw255, f1, f2, f3, f4, f5, f6, f7, f8, f9]
    exact hKt hq _ (by simp)
  have f9 : (16 < (c.dups.length : Int)) = False := eq_false (by omega)
  by_cases c10 : 900 < c.data.length
  · have f10 : (900 < (c.data.length : Int)) = True := eq_true (by omega)
    have hq : qMay c = false := by rw [qMay, if_pos (.inr (.inr (.inr (.inr (.inr (.inr (.inr (.inr (.inr (.inl c10))))))))))]
    refine (W_anyF (F := [(20, 23)]) (by kernel_rfl)).2 ?_
    simp (dsimp := false) (maxSteps := 1000000) [l1, l2, l4, hfl, hHas, ho, hw255, f1, f2, f3, f4, f5, f6, f7, f8, f9, f10]
    exact hKt hq _ (by simp)
  have f10 : (900 < (c.data.length : Int)) = False := eq_false (by omega)
  by_cases c11 : rising c.gaps = false
  · have f11 : rising c.gaps = false := c11
    have hq : qMay c = false := by rw [qMay, if_pos (.inr (.inr (.inr (.inr (.inr (.inr (.inr (.inr (.inr (.inr (.inl c11)))))))))))]
    refine (W_anyF (F := [(20, 23)]) (by kernel_rfl)).2 ?_
    simp (dsimp := false) (maxSteps := 1000000) [l1, l2, l4, hfl, hHas, hGa, ho, hw255, f1, f2, f3, f4, f5, f6, f7, f8, f9, f10, f11]
    exact hKt hq _ (by simp)
  have f11 : rising c.gaps = true := by simpa using c11
  by_cases ck : qKind c.typ = 1 ∧ c.tag = 0
  · have g1 := eq_true ck.1
    have g2 := eq_true ck.2
    have hq : qMay c = false := by rw [qMay, if_pos (.inr (.inr (.inr (.inr (.inr (.inr (.inr (.inr (.inr (.inr (.inr ck)))))))))))]
    refine (W_anyF (F := [(20, 23)]) (by kernel_rfl)).2 ?_
    simp (dsimp := false) (maxSteps := 1000000) [l1, l2, l4, hfl, hHas, hGa, hKi, ho, hw255, f1, f2, f3, f4, f5, f6, f7, f8, f9, f10, f11, g1, g2]
    exact hKt hq _ (by simp)
  have hq : qMay c = (allM (c.params ++ c.causes) && word c.stream && word c.ssn && word c.out && word c.inn) := by
    rw [qMay, if_neg]
    · rfl
    simp only [not_or]
    exact ⟨c1, c2, c3, c4, c5, c6, c7, c8, c9, c10, c11, ck⟩
  have g12 : (qKind c.typ = 1) = False ∨ ((qKind c.typ = 1) = True ∧ (c.tag = 0) = False) := by
    by_cases k1 : qKind c.typ = 1
    · exact .inr ⟨eq_true k1, eq_false fun h => ck ⟨k1, h⟩⟩
    · exact .inl (eq_false k1)
  rcases g12 with g1 | ⟨g1, g2⟩
  · refine (W_anyF (F := [(20, 23)]) (by kernel_rfl)).2 ?_
    simp (dsimp := false) (maxSteps := 1000000) [l1, l2, l4, hfl, hHas, hGa, hKi, ho, hw255, f1, f2, f3, f4, f5, f6, f7, f8, f9, f10, f11, g1]
    exact hKf hq _ (by simp) (by simp)
  · refine (W_anyF (F := [(20, 23)]) (by kernel_rfl)).2 ?_
    simp (dsimp := false) (maxSteps := 1000000) [l1, l2, l4, hfl, hHas, hGa, hKi, ho, hw255, f1, f2, f3, f4, f5, f6, f7, f8, f9, f10, f11, g1, g2]
    exact hKf hq _ (by simp) (by simp)
end
end Go.Proofs.YtklbbjfbcibghaaGreat
end
section
namespace Go.Hl
theorem b8_mod {x y : Int} (h : x % 256 = y % 256) : b8 x = b8 y := by unfold b8; rw [h]
theorem be4_wrap (x : Int) : be4 (IntKind.i64.wrap x) = be4 x := by
  have e : IntKind.i64.wrap x % 4294967296 = x % 4294967296 := by
    simp only [IntKind.wrap, IntKind.bits, IntKind.signed]
    simp
    split <;> omega
  generalize IntKind.i64.wrap x = y at e
  unfold be4
  rw [b8_mod (x := y / 16777216) (y := x / 16777216) (by omega), b8_mod (x := y / 65536) (y := x / 65536) (by omega), b8_mod (x := y / 256) (y := x / 256) (by omega), b8_mod (x := y) (y := x) (by omega)]
end Go.Hl
namespace Go.Proofs.YtklbbjfbcibghaaGreat
open Go.Hl
set_option maxHeartbeats 4000000
section
variable {h : H}
theorem puts_explicit {H0 : List Blk} {l : List Pm} {b : Nat} (hb : H0[b]? = some ⟨l.flatMap Pm.cells, l.length, 0, false⟩) (hl : l.length ≤ 1000000) : Does Tryz.prog putC 95 [.sl b 0 l.length l.length 2 false] ⟨H0, []⟩ = some (.str (putAll l), ⟨H0, []⟩) :=
  rdoc4_PutAll (.inr ⟨b, 0, l.length, false, _, rfl, hb, Nat.zero_le _, Nat.le_refl _, by simp only [List.drop_zero]; exact List.take_of_length_le (Nat.le_of_eq (flat_len Pm.cells_len l)), flat_len Pm.cells_len l⟩) hl
set_option maxRecDepth 100000 in
theorem rdoc_Body {c : Ck} {vp vc vg vd : V} (hc : CkIs h c vp vc vg vd) (hm : CkSmall c) : Does Tryz.prog putC 63 [.agg (c.cells vp vc vg vd)] h = some (.str c.body, h) := by
  have hf := hc.facts
  have hKi := fun h => rdoc_Kind (C := putC) (h := h) c.typ
  have l3 := hc.sg.len Tryz.underlying29
  have l4 := hc.sd.len Tryz.underlying30
  have hb := be4_wrap
  have n1 := fun x h => rdoc_num4 x h
  have n2 := fun x h => rdoc_num2 x h
  have hls := hm.ls
  have hpa := putAll_len c.params
  have hpc := putAll_len c.causes
  have hlp := hm.lp
  have hlc := hm.lc
  have hlg := hm.lg
  have hld := hm.ld
  obtain ⟨y, hy, m, hym⟩ := rdoc_Params (C := putC) (hc.sp.app (es' := []) (m := [⟨c.cells vp vc vg vd, 0, 0, false⟩])) hm.lp
  subst hym
  obtain ⟨y2, hy2, m2, hym2⟩ := rdoc_Causes (C := putC) (hc.sc.app (es' := []) (m := [⟨c.cells vp vc vg vd, 0, 0, false⟩])) hm.lc
  subst hym2
  have hpp := puts_explicit (H0 := h.blks ++ (⟨c.cells vp vc vg vd, 0, 0, false⟩ :: ⟨c.params.flatMap Pm.cells, c.params.length, 0, false⟩ :: m)) (l := c.params) (b := h.blks.length + 1) (by simp) hm.lp
  have hcc := puts_explicit (H0 := h.blks ++ (⟨c.cells vp vc vg vd, 0, 0, false⟩ :: ⟨c.causes.flatMap Pm.cells, c.causes.length, 0, false⟩ :: m2)) (l := c.causes) (b := h.blks.length + 1) (by simp) hm.lc
  simp at hy hy2
  unfold Ck.cells at *
  refine Does_eq (n := 167) (rs := [.tmp 2]) Tryz.func63 (by kernel_rfl) rfl rfl rfl (by simp) fun σ hg => ?_
  by_cases t0 : c.typ = 0
  · have hk : qKind c.typ = 0 := by rw [t0]; rfl
    rw [Ck.body, if_pos t0]
    simp (dsimp := false) [hg, hf, hKi, hk]
    refine (W_anyF (F := [(5, 3), (9, 3), (9, 6), (13, 3), (13, 6), (13, 10), (18, 3), (18, 6), (18, 10), (18, 15)]) (by kernel_rfl)).2 ?_
    simp (dsimp := false) [n1, n2, hb, be2_len, be4_len]
    omega
  by_cases ti : isInit c.typ = true
  · have hk : qKind c.typ = 1 := by
      unfold isInit at ti
      simp only [Bool.or_eq_true, decide_eq_true_eq] at ti
      rcases ti with h | h <;> rw [h] <;> rfl
    rw [Ck.body, if_neg t0, if_pos ti]
    simp (dsimp := false) [hg, hf, hKi, hk]
    refine (W_anyF (F := [(5, 3), (10, 3), (10, 7), (14, 3), (14, 7), (14, 11), (18, 3), (18, 7), (18, 11), (18, 15), (23, 3), (23, 7), (23, 11), (23, 15), (23, 20)]) (by kernel_rfl)).2 ?_
    simp (dsimp := false) [n1, n2, hb, be2_len, be4_len, hy, hpp]
    omega
  by_cases t3 : c.typ = 3
  · have hk : qKind c.typ = 3 := by rw [t3]; rfl
    rw [Ck.body, if_neg t0, if_neg ti, if_pos t3]
    simp (dsimp := false) [hg, hf, hKi, hk]
    refine (W_anyF (F := [(5, 3), (10, 3), (10, 7), (15, 3), (15, 7), (15, 12)]) (by kernel_rfl)).2 ?_
    simp (dsimp := false) [n1, n2, hb, be2_len, be4_len, l3, l4]
    obtain ⟨p, pf, hia, -, hfa, hrf⟩ := (hc.sg.blks (h' := ⟨h.blks, []⟩) rfl).atF gapCells_len
    obtain ⟨p', hia', -, hrd'⟩ := (hc.sd.blks (h' := ⟨h.blks, []⟩) rfl).at dupCells_len
    generalize hH0 : (⟨[.int .i64 c.typ, .int .i64 c.flags, .int .u32 c.tsn, .int .i64 c.stream, .int .i64 c.ssn, .int .u32 c.proto, .str c.data, .int .u32 c.tag, .int .u32 c.rwnd, .int .i64 c.out, .int .i64 c.inn, vp, vc, vg, vd], 0, 0, false⟩ : Blk) = box
    refine W_loopM (fun k σ h' => ∃ i : Nat, k = c.gaps.length - i ∧ i ≤ c.gaps.length ∧ h' = ⟨h.blks ++ [box], []⟩ ∧ σ 1 = .ptr h.blks.length 0 0 15 ∧ σ 4 = .int .i64 i ∧
      σ 3 = .str (be4 c.tsn ++ be4 c.rwnd ++ be2 c.gaps.length ++ be2 c.dups.length ++ gapsF (c.gaps.take i))) ?_ c.gaps.length _ _ ?_
    · subst hH0
      rintro _ σ _ ⟨i, rfl, hi, rfl, h1, h4, h3⟩
      simp (dsimp := false) [h1, h4, l3]
      split
      · rename_i hlt
        have hle := gapsF_len (c.gaps.take i)
        have hle' : (c.gaps.take i).length ≤ i := by simp; omega
        have hx := hrf i hlt 0 (by decide) _ (Ext.app (l := h.blks) (m := [⟨[.int .i64 c.typ, .int .i64 c.flags, .int .u32 c.tsn, .int .i64 c.stream, .int .i64 c.ssn, .int .u32 c.proto, .str c.data, .int .u32 c.tag, .int .u32 c.rwnd, .int .i64 c.out, .int .i64 c.inn, vp, vc, vg, vd], 0, 0, false⟩]))
        have hy := hrf i hlt 1 (by decide) _ (Ext.app (l := h.blks) (m := [⟨[.int .i64 c.typ, .int .i64 c.flags, .int .u32 c.tsn, .int .i64 c.stream, .int .i64 c.ssn, .int .u32 c.proto, .str c.data, .int .u32 c.tag, .int .u32 c.rwnd, .int .i64 c.out, .int .i64 c.inn, vp, vc, vg, vd], 0, 0, false⟩]))
        simp only [gapCells] at hx hy
        simp at hx hy
        have g9 : 16 + (gapsF (c.gaps.take i)).length ≤ 9223372036854775807 := by omega
        refine (W_anyF (F := [(9, 7), (13, 7)]) (by kernel_rfl)).2 ?_
        simp (dsimp := false) [h1, h4, h3, hia i hlt, hfa i hlt, hx, hy, n2, be2_len, be4_len]
        exact ⟨by omega, _, by omega, i + 1, rfl, by omega, by rw [wrap_succ hlt (by omega)], by rw [gapsF_take hlt]⟩
      · obtain rfl : i = c.gaps.length := by omega
        rw [List.take_length] at h3
        have hle := gapsF_len c.gaps
        simp
        refine W_loopM (fun k σ h' => ∃ i : Nat, k = c.dups.length - i ∧ i ≤ c.dups.length ∧ h' = ⟨h.blks ++ [⟨[.int .i64 c.typ, .int .i64 c.flags, .int .u32 c.tsn, .int .i64 c.stream, .int .i64 c.ssn, .int .u32 c.proto, .str c.data, .int .u32 c.tag, .int .u32 c.rwnd, .int .i64 c.out, .int .i64 c.inn, vp, vc, vg, vd], 0, 0, false⟩], []⟩ ∧ σ 1 = .ptr h.blks.length 0 0 15 ∧ σ 5 = .int .i64 i ∧
          σ 3 = .str (be4 c.tsn ++ be4 c.rwnd ++ be2 c.gaps.length ++ be2 c.dups.length ++ gapsF c.gaps ++ dupsF (c.dups.take i))) ?_ c.dups.length _ _ ?_
        · rintro _ σ _ ⟨i, rfl, hi, rfl, h1, h5, h3⟩
          simp (dsimp := false) [h1, h5, h3, l4]
          split
          · rename_i hlt
            have hle2 := dupsF_len (c.dups.take i)
            have hle2' : (c.dups.take i).length ≤ i := by simp; omega
            simp (dsimp := false) [h1, h5, h3, hia' i hlt, hrd' i hlt rfl _ Ext.app, dupCells, n1, hb, be4_len, be2_len, wrap_succ hlt (by omega)]
            exact ⟨by omega, _, by omega, i + 1, rfl, by omega, by simp, by rw [dupsF_take hlt]⟩
          · obtain rfl : i = c.dups.length := by omega
            simp (dsimp := false) [gapsB]
        · exact ⟨0, by simp (dsimp := false) [h1, h3, dupsF]⟩
    · exact ⟨0, by simp (dsimp := false) [gapsF]⟩
  by_cases tb : isBeat c.typ = true
  · have hk : qKind c.typ = 4 := by
      unfold isBeat at tb
      simp only [Bool.or_eq_true, decide_eq_true_eq] at tb
      rcases tb with h | h <;> rw [h] <;> rfl
    have hP := fun h => rdoc4_Put (h := h) ⟨1, c.data⟩
    simp only [Pm.cells] at hP
    rw [Ck.body, if_neg t0, if_neg ti, if_neg t3, if_pos tb]
    simp (dsimp := false) [hg, hf, hKi, hk, hP, splice]
  by_cases te : isErr c.typ = true
  · have hk : qKind c.typ = 6 := by
      unfold isErr at te
      simp only [Bool.or_eq_true, decide_eq_true_eq] at te
      rcases te with h | h <;> rw [h] <;> rfl
    rw [Ck.body, if_neg t0, if_neg ti, if_neg t3, if_neg tb, if_pos te]
    simp (dsimp := false) [hg, hf, hKi, hk, hy2, hcc]
  by_cases t7 : c.typ = 7
  · have hk : qKind c.typ = 7 := by rw [t7]; rfl
    rw [Ck.body, if_neg t0, if_neg ti, if_neg t3, if_neg tb, if_neg te, if_pos t7]
    simp (dsimp := false) [hg, hf, hKi, hk, n1, hb]
  by_cases tc : isConf c.typ = true
  · have hk : qKind c.typ = 16 := by
      unfold isConf at tc
      simp only [Bool.or_eq_true, decide_eq_true_eq, or_assoc] at tc
      rcases tc with h | h | h <;> rw [h] <;> rfl
    rw [Ck.body, if_neg t0, if_neg ti, if_neg t3, if_neg tb, if_neg te, if_neg t7, if_pos tc]
    simp (dsimp := false) [hg, hf, hKi, hk]
    refine (W_anyF (F := [(5, 3)]) (by kernel_rfl)).2 ?_
    have g4 : 4 + (putAll c.params).length ≤ 9223372036854775807 := by omega
    simp (dsimp := false) [n1, hb, be4_len, hy, hpp, g4]
  by_cases tr : isBare c.typ = true
  · have hk : qKind c.typ = 8 := by
      unfold isBare at tr
      simp only [Bool.or_eq_true, decide_eq_true_eq, or_assoc] at tr
      rcases tr with h | h | h <;> rw [h] <;> rfl
    rw [Ck.body, if_neg t0, if_neg ti, if_neg t3, if_neg tb, if_neg te, if_neg t7, if_neg tc, if_pos tr]
    simp (dsimp := false) [hg, hf, hKi, hk]
  by_cases t15 : c.typ = 15
  · have hk : qKind c.typ = 15 := by rw [t15]; rfl
    rw [Ck.body, if_neg t0, if_neg ti, if_neg t3, if_neg tb, if_neg te, if_neg t7, if_neg tc, if_neg tr, if_pos t15]
    simp (dsimp := false) [hg, hf, hKi, hk]
    refine (W_anyF (F := [(4, 2), (8, 2), (8, 5)]) (by kernel_rfl)).2 ?_
    simp (dsimp := false) [n2, be2_len]

    omega
  · have hk : qKind c.typ = 10 ∨ qKind c.typ = 20 := by
      unfold isInit at ti
      unfold isBeat at tb
      unfold isErr at te
      unfold isConf at tc
      unfold isBare at tr
      simp only [Bool.or_eq_true, decide_eq_true_eq] at ti tb te tc tr
      unfold qKind
      repeat' split
      all_goals omega
    rw [Ck.body, if_neg t0, if_neg ti, if_neg t3, if_neg tb, if_neg te, if_neg t7, if_neg tc, if_neg tr, if_neg t15]
    rcases hk with hk | hk
    · simp (dsimp := false) [hg, hf, hKi, hk]
    · simp (dsimp := false) [hg, hf, hKi, hk]
theorem rdoc_CPut {c : Ck} {vp vc vg vd : V} (hc : CkIs h c vp vc vg vd) (hm : CkSmall c) (hwf : ∀ g ∈ c.gaps, g.1 ≤ 9223372036854775807) : Does Tryz.prog putC 30 [.agg (c.cells vp vc vg vd)] h = some (.str (if qMay c then filled (b8 c.typ :: b8 c.flags :: (be2 (c.body.length + 4) ++ c.body)) else []), h) := by
  have hf := hc.facts
  have f2 : ∀ m, Does Tryz.prog putC 62 [.agg (c.cells vp vc vg vd)] ⟨h.blks ++ m, []⟩ = some (.bool (qMay c), ⟨h.blks ++ m, []⟩) := fun m => rdoc_May (hc.app m) hm hwf
  have f5 : ∀ m, Does Tryz.prog putC 63 [.agg (c.cells vp vc vg vd)] ⟨h.blks ++ m, []⟩ = some (.str c.body, ⟨h.blks ++ m, []⟩) := fun m => rdoc_Body (hc.app m) hm
  have hb := body_lt hm
  have hw : IntKind.i64.wrap ((c.body.length : Int) + 4) = c.body.length + 4 := wrap_i64 (by omega) (by omega)
  have f6 := fun h => rdoc_Filled (C := putC) (h := h) (b8 c.typ :: b8 c.flags :: (be2 (c.body.length + 4) ++ c.body)) (by simp (dsimp := false) [be2_len]; omega)
  have g1 : 2 + 2 + c.body.length ≤ 9223372036854775807 := by omega
  unfold Ck.cells at f2 f5 ⊢
  refine Does_eq (n := 24) (rs := [.tmp 2]) Tryz.func30 (by kernel_rfl) rfl rfl rfl (by simp) fun σ hg => ?_
  simp (dsimp := false) [hg, hf, f2]
  cases hm : qMay c with
  | false => simp
  | true =>
    simp (dsimp := false) [f5]
    refine (W_anyF (F := [(4, 2)]) (by kernel_rfl)).2 ?_
    simp (dsimp := false) [rdoc_num1, rdoc_num2, be2_len, hw, f6, g1]
end
end Go.Proofs.YtklbbjfbcibghaaGreat
end
section
/-! The document's chunks: what is read. -/
namespace Go.Hl
def qPars (r : RS) : RS × List Pm :=
  let q := qTk r.s.length r
  let x := qAll (qGot r.s.length r)
  if x.2 ≠ 0 then (qFail x.2 q, []) else (q, x.1)
def qGaps : Nat → RS → List (Int × Int) × RS
  | 0, r => ([], r)
  | k + 1, r => let x := qGaps k r; (x.1 ++ [(((qNum 2 x.2 : Nat) : Int), ((qNum 2 (qTk 2 x.2) : Nat) : Int))], qTk 2 (qTk 2 x.2))
def qDups : Nat → RS → List Int × RS
  | 0, r => ([], r)
  | k + 1, r => let x := qDups k r; (x.1 ++ [((qNum 4 x.2 : Nat) : Int)], qTk 4 x.2)
theorem qGaps_len (k : Nat) (r : RS) : (qGaps k r).1.length = k := by
  induction k with
  | zero => rfl
  | succ k ih => simp [qGaps, ih]
theorem qDups_len (k : Nat) (r : RS) : (qDups k r).1.length = k := by
  induction k with
  | zero => rfl
  | succ k ih => simp [qDups, ih]
def qSack (r : RS) (c : Ck) : RS × Ck :=
  let r2 := qTk 4 (qTk 4 r)
  let g := qNum 2 r2
  let d := qNum 2 (qTk 2 r2)
  let r4 := qTk 2 (qTk 2 r2)
  if 16 < g ∨ 16 < d then (qFail 5 r4, c) else
  let x := qGaps g r4
  let y := qDups d x.2
  (y.2, { c with tsn := (qNum 4 r : Nat), rwnd := (qNum 4 (qTk 4 r) : Nat), gaps := x.1, dups := y.1 })
def qSays (r : RS) (c : Ck) : RS × Ck :=
  let t := c.typ
  if t = 0 then
    let r4 := qTk 4 (qTk 2 (qTk 2 (qTk 4 r)))
    (qTk r4.s.length r4, { c with tsn := (qNum 4 r : Nat), stream := (qNum 2 (qTk 4 r) : Nat), ssn := (qNum 2 (qTk 2 (qTk 4 r)) : Nat), proto := (qNum 4 (qTk 2 (qTk 2 (qTk 4 r))) : Nat), data := qGot r4.s.length r4 })
  else if isInit t then
    let r5 := qTk 4 (qTk 2 (qTk 2 (qTk 4 (qTk 4 r))))
    ((qPars r5).1, { c with tag := (qNum 4 r : Nat), rwnd := (qNum 4 (qTk 4 r) : Nat), out := (qNum 2 (qTk 4 (qTk 4 r)) : Nat), inn := (qNum 2 (qTk 2 (qTk 4 (qTk 4 r))) : Nat), tsn := (qNum 4 (qTk 2 (qTk 2 (qTk 4 (qTk 4 r)))) : Nat), params := (qPars r5).2 })
  else if t = 3 then qSack r c
  else if isBeat t then
    let x := qParam r
    if x.1.e = 0 ∧ x.2.typ ≠ 1 then (qFail 3 x.1, c) else (x.1, { c with data := x.2.val })
  else if isErr t then ((qPars r).1, { c with causes := (qPars r).2 })
  else if t = 7 then (qTk 4 r, { c with tsn := (qNum 4 r : Nat) })
  else if isConf t then ((qPars (qTk 4 r)).1, { c with tsn := (qNum 4 r : Nat), params := (qPars (qTk 4 r)).2 })
  else if isBare t then (r, c)
  else if t = 15 then
    let r2 := qTk 2 (qTk 2 r)
    (qTk r2.s.length r2, { c with stream := (qNum 2 r : Nat), ssn := (qNum 2 (qTk 2 r) : Nat), data := qGot r2.s.length r2 })
  else (qTk r.s.length r, { c with data := qGot r.s.length r })
end Go.Hl
end
section
namespace Go.Proofs.YtklbbjfbcibghaaGreat
open Go.Hl
set_option maxHeartbeats 4000000
variable {C : CallT}
section
variable {h : H} {r : RS}
attribute [local irreducible] qTk qGot qNum qFail qAll
def ParPost (h : H) (r : RS) (x : V × H) : Prop := ∃ v, x.1 = .tup [.agg (rc (qPars r).1), v] ∧ Ext h x.2 ∧ Sl x.2 2 (qPars r).2.length ((qPars r).2.flatMap Pm.cells) v ∧ Hi h.blks.length v
theorem qLoop_len : ∀ (k : Nat) (r : RS) (out : List Pm), out.length ≤ 16 → (qLoop k r out).1.length ≤ 16
  | 0, _, _, h => h
  | k + 1, r, out, h => by
    unfold qLoop
    split
    · split
      · simp
      · exact qLoop_len k _ _ (by simp; omega)
    · split
      · simp
      · exact h
theorem qAll_len (s : Bs) : (qAll s).1.length ≤ 16 := by
  unfold qAll
  exact qLoop_len 17 _ [] (by simp)
theorem rdoc_params (hr : r.s.length ≤ 4000000000000000000) : Ok (Does Tryz.prog C 113 [.agg (rc r)] h) (ParPost h r) := by
  have hT : ∀ h, Does Tryz.prog C 78 [.agg (rc r), .int .i64 (r.s.length : Int)] h = some (.tup [.agg (rc (qTk r.s.length r)), .str (qGot r.s.length r)], h) := fun h => rdoc_Take (r := r) _
  have hF : ∀ (q : RS) (e : Int) h, Does Tryz.prog C 79 [.agg [.str q.s, .int .i64 q.e], .int .i64 e] h = some (.agg (rc (qFail e q)), h) := fun q e h => rdoc_Fail (h := h) (r := q) e
  have hl := qGot_le r.s.length r
  have hQ : qPars r = qPars r := rfl
  conv at hQ => rhs; unfold qPars
  simp only at hQ
  generalize qTk r.s.length r = q at *
  generalize qGot r.s.length r = s at *
  have hA := rdoc4_All (C := C) (h := ⟨h.blks ++ [⟨rc r, 0, 0, false⟩, ⟨[.str [], .int .i64 0], 0, 0, false⟩, ⟨rc q, 0, 0, false⟩], []⟩) s (by omega)
  obtain ⟨x, hx, v, hv, ⟨m0, es0, he, hes0⟩, hs, hHi⟩ := hA
  obtain ⟨x1, x2⟩ := x
  simp only at hv he hs
  subst hv he
  have h16 := qAll_len s
  generalize qAll s = A at *
  obtain ⟨l, e⟩ := A
  simp only at hs hx hQ h16
  have hlen := hs.len Tryz.underlying62
  have hvf := hs.facts
  unfold rc at *
  simp at hx
  refine Does_wp (n := 44) (rs := [.cell 2 100, .tmp 3]) Tryz.func113 (by kernel_rfl) rfl rfl rfl (by simp) fun σ hg => ?_
  by_cases c1 : e = 0
  · rw [if_neg (fun h => h c1)] at hQ
    simp (dsimp := false) [hg, splice, hT, hx, c1]
    obtain ⟨p, hia, hrd, -⟩ := hs.at Pm.cells_len
    refine W_loopM (fun k σ h' => ∃ i : Nat, ∃ m, k = l.length - i ∧ i ≤ l.length ∧ h' = ⟨h.blks ++ (⟨[.str r.s, .int .i64 r.e], 0, 0, false⟩ :: ⟨[.str [], .int .i64 0], 0, 0, false⟩ :: ⟨[.str q.s, .int .i64 q.e], 0, 0, false⟩ :: (m0 ++ ⟨(l.take i).flatMap Pm.cells, i, 0, false⟩ :: m)), es0⟩ ∧ σ 2 = .ptr (h.blks.length + 1) 0 0 2 ∧ σ 4 = .ptr (h.blks.length + 2) 0 0 2 ∧ σ 6 = v ∧ σ 9 = .int .i64 i ∧ σ 8 = .sl (h.blks.length + (m0.length + 3)) 0 i i 2 false) ?_ l.length _ _ ?_
    · rintro _ σ _ ⟨i, m, rfl, hi, rfl, h2, h4, h6, h9, h8⟩
      simp (dsimp := false) [h2, h4, h6, h9, h8, hlen]
      split
      · rename_i hlt
        have hr := fun m' => hrd i hlt ⟨h.blks ++ (⟨[.str r.s, .int .i64 r.e], 0, 0, false⟩ :: ⟨[.str [], .int .i64 0], 0, 0, false⟩ :: ⟨[.str q.s, .int .i64 q.e], 0, 0, false⟩ :: (m0 ++ ⟨(l.take i).flatMap Pm.cells, i, 0, false⟩ :: m')), es0⟩ ⟨⟨(l.take i).flatMap Pm.cells, i, 0, false⟩ :: m', [], by simp, by simp⟩
        have ha := append_at (l := h.blks ++ (⟨[.str r.s, .int .i64 r.e], 0, 0, false⟩ :: ⟨[.str [], .int .i64 0], 0, 0, false⟩ :: ⟨[.str q.s, .int .i64 q.e], 0, 0, false⟩ :: (m0 ++ ⟨(l.take i).flatMap Pm.cells, i, 0, false⟩ :: (m ++ [⟨l[i].cells, 0, 0, false⟩])))) (es := es0) (cs := (l.take i).flatMap Pm.cells) (ys := l[i].cells) (k := i) (esz := 2) (eb := 24) (b := h.blks.length + (m0.length + 3)) (j := h.blks.length + (m0.length + (m.length + 1) + 3))
          (by simp) (by simp) (by rw [flat_len Pm.cells_len]; simp; omega) rfl (by decide) (by simp (dsimp := false) [Pm.cells]) (by omega) (by omega)
        simp (dsimp := false) [Pm.cells] at ha
        simp (dsimp := false) [h2, h4, h6, h9, h8, hia i hlt, hr, Pm.cells, splice, ha, wrap_succ hlt (by omega)]
        exact ⟨_, by omega, i + 1, rfl, by omega, ⟨by rw [flat_take hlt]; simp (dsimp := false) [Pm.cells], rfl⟩, by simp, rfl⟩
      · obtain rfl : i = l.length := by omega
        simp (dsimp := false) [splice]
        refine ⟨.sl (h.blks.length + (m0.length + 3)) 0 l.length l.length 2 false, by rw [hQ]; rfl, leave_ext ?_, ?_, ?_⟩
        · intro y hy
          have := hes0 y hy
          simp (dsimp := false) [H.size] at this ⊢
          omega
        · rw [hQ]
          refine leave_sl (.inr ⟨_, 0, l.length, false, ⟨l.flatMap Pm.cells, l.length, 0, false⟩, rfl, by simp, Nat.zero_le _, Nat.le_refl _, ?_, flat_len Pm.cells_len l⟩) (fun hu => by simpa using hu)
          simp only [List.drop_zero]
          exact List.take_of_length_le (Nat.le_of_eq (flat_len Pm.cells_len l))
        · intro b off n ver z l e
          injection e with e
          omega
    · exact ⟨0, [], by simp⟩
  · rw [if_pos c1] at hQ
    have c1' := eq_false c1
    simp (dsimp := false) [hg, splice, hT, hx, c1', hF]
    refine ⟨.nils, by rw [hQ]; rfl, leave_ext ?_, by rw [hQ]; exact Sl.nil _ 2, Hi.nils⟩
    intro y hy
    have := hes0 y hy
    simp (dsimp := false) [H.size] at this ⊢
    omega
end
end Go.Proofs.YtklbbjfbcibghaaGreat
end
section
namespace Go.Proofs.YtklbbjfbcibghaaGreat
open Go.Hl
set_option maxHeartbeats 4000000
variable {C : CallT}
section
variable {h : H} {c : Ck} {vp vc vg vd : V}
theorem chunk_Put (hc : CkIs h c vp vc vg vd) (hl : CkSmall c) : Does Tryz.prog C 111 [.agg (c.cells vp vc vg vd)] h = some (.str c.put, h) := by
  have hf := hc.facts
  have f2 : ∀ m, Does Tryz.prog C 103 [.agg (c.cells vp vc vg vd)] ⟨h.blks ++ m, []⟩ = some (.bool c.may, ⟨h.blks ++ m, []⟩) := fun m => chunk_May (hc.app m) hl
  have f5 : ∀ m, Does Tryz.prog C 128 [.agg (c.cells vp vc vg vd)] ⟨h.blks ++ m, []⟩ = some (.str c.body, ⟨h.blks ++ m, []⟩) := fun m => chunk_body (hc.app m) hl.lp hl.lc hl.lg hl.ld hl.ls
  have hb := body_lt hl
  have hw : IntKind.i64.wrap ((c.body.length : Int) + 4) = c.body.length + 4 := wrap_i64 (by omega) (by omega)
  have f6 := fun h => octet_Filled (C := C) (h := h) (b8 c.typ :: b8 c.flags :: (be2 (c.body.length + 4) ++ c.body)) (by simp (dsimp := false) [be2_len]; omega)
  have g1 : 2 + 2 + c.body.length ≤ 9223372036854775807 := by omega
  unfold Ck.cells at f2 f5 ⊢
  refine Does_eq (n := 24) (rs := [.tmp 2]) Tryz.func111 (by kernel_rfl) rfl rfl rfl (by simp) fun σ hg => ?_
  simp (dsimp := false) [hg, hf, f2]
  cases hm : c.may with
  | false => simp (dsimp := false) [Ck.put, hm]
  | true =>
    simp (dsimp := false) [f5]
    refine (W_anyF (F := [(4, 2)]) (by kernel_rfl)).2 ?_
    simp (dsimp := false) [octet_U8, octet_U16, be2_len, hw, f6, g1]
    simp (dsimp := false) [Ck.put, hm]
end
theorem allLoop_len : ∀ (k : Nat) (r : RS) (out : List Pm), out.length ≤ 16 → (allLoop k r out).2.length ≤ 16
  | 0, _, _, h => h
  | k + 1, r, out, h => by
    unfold allLoop
    split
    · split
      · exact h
      · exact allLoop_len k _ _ (by simp; omega)
    · exact h
theorem allP_len (s : Bs) : (allP s).1.length ≤ 16 := by
  have := allLoop_len 17 ⟨s, 0⟩ [] (by simp)
  unfold allP
  simp only
  split
  · simp
  · exact this
theorem allP_err {s : Bs} (h : (allP s).2 ≠ 0) : (allP s).1 = [] := by
  unfold allP at h ⊢
  simp only at h ⊢
  split
  · rfl
  · rename_i h1
    rw [if_neg h1] at h
    exact absurd rfl h
theorem cause_All {h : H} (s : Bs) : Ok (Does Tryz.prog C 123 [.str s] h) (AllPost h s) := by
  refine Does_wp (n := 33) (rs := [.tmp 2, .tmp 3]) Tryz.func123 (by kernel_rfl) rfl rfl rfl (by simp) fun σ hg => ?_
  simp (dsimp := false) [hg]
  refine (param_All (C := C) (h := ⟨h.blks, []⟩) s).mono ?_
  rintro ⟨x, h1⟩ ⟨v, hx, he, hs, -, -⟩
  simp only at hx hs he
  subst hx
  obtain ⟨m0, es0, rfl, hes0⟩ := he
  have h16 := allP_len s
  have herr := @allP_err s
  unfold AllPost
  simp (dsimp := false) [hg]
  generalize hA : allP s = A at *
  obtain ⟨l, e⟩ := A
  simp only at hs h16 herr ⊢
  have hlen := hs.len Tryz.underlying27
  obtain ⟨p, hia, hrd, -⟩ := (hs.blks (h' := ⟨h.blks ++ m0, es0⟩) rfl).at Pm.cells_len
  by_cases c : e = 0
  · simp (dsimp := false) [c, hlen]
    refine W_loopM (fun k σ h' => ∃ i v' m, k = l.length - i ∧ i ≤ l.length ∧ h' = ⟨h.blks ++ (m0 ++ m), es0⟩ ∧ σ 6 = v' ∧ σ 17 = v ∧ σ 18 = .int .i64 l.length ∧ σ 19 = .int .i64 i ∧
        Sl ⟨h.blks ++ (m0 ++ m), es0⟩ 2 i ((l.take i).flatMap Pm.cells) v' ∧ OwnF (h.blks ++ m0).length ⟨h.blks ++ (m0 ++ m), es0⟩ 2 i v') ?_ l.length _ _ ?_
    · rintro _ σ _ ⟨i, v', m, rfl, hi, rfl, h6, h17, h18, h19, hs', ho'⟩
      simp (dsimp := false) [h6, h17, h18, h19]
      split
      · rename_i hlt
        have hE : ∀ m', Ext ⟨h.blks ++ m0, es0⟩ ⟨h.blks ++ (m0 ++ m'), es0⟩ := fun m' => ⟨m', [], by simp, by simp⟩
        simp (dsimp := false) [h6, hia i hlt, hrd i hlt _ (hE _), Pm.cells, splice]
        rw [← List.append_assoc] at hs' ho'
        have hs2 := hs'.app (m := [⟨l[i].cells, 0, 0, false⟩]) (es' := es0)
        have ho2 := ho'.app (m := [⟨l[i].cells, 0, 0, false⟩]) (es' := es0)
        rw [List.append_assoc] at hs2 ho2
        obtain ⟨v'', m', es', ha, ha1, ha2, -, -, ha6, -⟩ := append_new (eb := 24) (ys := l[i].cells) hs2 ho2 rfl (by decide) (by simp (dsimp := false) [Pm.cells]) (by omega) (by omega) (h.blks.length + (m0.length + (m.length + 1))) (by simp; omega)
        have hes := ha6 (fun b => by simp (dsimp := false) [Pm.cells])
        subst hes
        simp (dsimp := false) [Pm.cells] at ha ha1 ha2
        rw [ha]
        simp (dsimp := false) [h17, h18, h19, wrap_succ hlt (by omega)]
        refine ⟨_, by omega, i + 1, rfl, by omega, by simp, ?_, by simpa using ha2⟩
        rw [List.take_succ_eq_append_getElem hlt, List.flatMap_append]
        simpa [Pm.cells] using ha1
      · obtain rfl : i = l.length := by omega
        rw [List.take_length] at hs'
        subst h6
        refine ⟨_, ⟨rfl, c.symm⟩, leave_ext hes0, leave_sl hs' (fun hu => by simpa using hu), fun hc => absurd c hc, ho'.hi.le (by simp)⟩
    · exact ⟨0, .nils, [], by simp (dsimp := false) [Sl.nil, OwnF.nil]⟩
  · simp (dsimp := false) [c]
    refine ⟨leave_ext hes0, ?_, Hi.nils⟩
    rw [herr c]
    exact Sl.nil _ 2
end Go.Proofs.YtklbbjfbcibghaaGreat
end
section
namespace Go.Proofs.YtklbbjfbcibghaaGreat
open Go.Hl
set_option maxHeartbeats 1000000
variable {C : CallT}
section
variable {l : List Blk} {es : List (Nat × Nat)} {b : Nat} {r : RS}
theorem leave_len {l1 l2 : List Blk} {es : List (Nat × Nat)} {h' : H} {v : V} (h : l1.length = l2.length) : leave ⟨l1, es⟩ h' v = leave ⟨l2, es⟩ h' v := by
  unfold leave H.size
  rw [h]
/-- Parameters of what is left. -/
def parR (r : RS) : RS := if (allP r.rest).2 ≠ 0 then r.gone.fail (allP r.rest).2 else r.gone
theorem chunk_params (hr : l[b]? = some r.blk) : Ok (Does Tryz.prog C 120 [.ptr b 0 0 2] ⟨l, es⟩) (fun x => ∃ v m es', x = (v, ⟨l.set b (parR r).blk ++ m, es ++ es'⟩) ∧ (∀ x ∈ es', l.length ≤ x.1) ∧ Sl x.2 2 (allP r.rest).1.length ((allP r.rest).1.flatMap Pm.cells) v ∧ Hi l.length v) := by
  have hlt := lt_of_some hr
  obtain ⟨l', hl', rfl⟩ : ∃ l', b < l'.length ∧ l = l'.set b r.blk := ⟨l, hlt, (set_self hr).symm⟩
  refine Ok.mono (Q := fun x => ∃ v m es', x = (v, ⟨l'.set b (parR r).blk ++ m, es ++ es'⟩) ∧ (∀ x ∈ es', l'.length ≤ x.1) ∧ Sl x.2 2 (allP r.rest).1.length ((allP r.rest).1.flatMap Pm.cells) v ∧ Hi l'.length v) ?_ (fun x hx => by simpa using hx)
  refine Does_wp (n := 17) (rs := [.tmp 2]) Tryz.func120 (by kernel_rfl) rfl rfl rfl (by simp) fun σ hg => ?_
  simp (dsimp := false) [hg, hl']
  refine (param_All (C := C) (h := ⟨l'.set b r.gone.blk, []⟩) r.rest).mono ?_
  rintro ⟨x, h1⟩ ⟨v, hx, he, hs, hn, hi⟩
  simp only at hx hs he
  subst hx
  obtain ⟨m0, es0, rfl, hes0⟩ := he
  simp (dsimp := false) [hg]
  by_cases c : (allP r.rest).2 = 0
  · simp (dsimp := false) [c]
    rw [leave_len (l2 := l'.set b r.gone.blk) (by simp)]
    obtain ⟨m, es', h1, h2⟩ := leave_ext (v := v) (h := ⟨l'.set b r.gone.blk, es⟩) hes0
    refine ⟨v, m, es', ⟨rfl, ?_⟩, by simpa using h2, leave_sl hs (fun hu => hu), by simpa using hi⟩
    rw [h1]
    simp (dsimp := false) [parR, c]
  · simp (dsimp := false) [c, hl']
    rw [leave_len (l2 := l'.set b (RS.fail (allP r.rest).snd r.gone).blk) (by simp)]
    obtain ⟨m, es', h1, h2⟩ := leave_ext (v := v) (h := ⟨l'.set b (RS.fail (allP r.rest).snd r.gone).blk, es⟩) (m := m0) (es := es0) (by simpa [H.size] using hes0)
    refine ⟨v, m, es', ⟨rfl, ?_⟩, by simpa using h2, ?_, by simpa using hi⟩
    · rw [h1]
      simp (dsimp := false) [parR, c]
    · rw [hn c, allP_err c]
      exact Sl.nil _ 2
end
end Go.Proofs.YtklbbjfbcibghaaGreat
end
section
namespace Go.Proofs.YtklbbjfbcibghaaGreat
open Go.Hl
set_option maxHeartbeats 1000000
variable {C : CallT}
theorem two_assoc {L m : List Blk} {x y : Blk} : L ++ x :: y :: m = (L ++ [x, y]) ++ m := by simp
theorem swap_two {L m : List Blk} {x y x' y' : Blk} {es es' : List (Nat × Nat)} {z n : Nat} {cs : List V} {v : V} (hs : Sl ⟨L ++ x :: y :: m, es⟩ z n cs v) (ho : OwnF (L.length + 2) ⟨L ++ x :: y :: m, es⟩ z n v) :
    Sl ⟨L ++ x' :: y' :: m, es'⟩ z n cs v ∧ OwnF (L.length + 2) ⟨L ++ x' :: y' :: m, es'⟩ z n v := by
  have e : (L ++ [x, y]).length = L.length + 2 := by simp
  have e' : (L ++ [x', y']).length = L.length + 2 := by simp
  rw [two_assoc] at hs ho ⊢
  rw [← e] at ho
  rw [← e']
  exact SlOwn_swap (e'.trans e.symm) hs ho
theorem Sl.upto_le {h : H} {z n k b : Nat} {cs : List V} {v : V} (s : Sl h z n cs v) (hb : b ∈ V.upto (k + 2) v) : b ∈ V.upto k v := by
  rcases s with ⟨rfl, -⟩ | ⟨b', off, ver, lim, x, rfl, -⟩
  · simp at hb
  · rw [upto_sl] at hb ⊢
    split at hb
    · simp at hb
    · rw [if_neg (by omega)]
      exact hb
theorem swap_hi {L m : List Blk} {x y x' y' : Blk} {es es' : List (Nat × Nat)} {z n : Nat} {cs : List V} {v : V} (hs : Sl ⟨L ++ x :: y :: m, es⟩ z n cs v) (ho : Hi (L.length + 2) v) :
    Sl ⟨L ++ x' :: y' :: m, es'⟩ z n cs v := by
  rcases hs with hs | ⟨b, off, ver, lim, k, rfl, hk, h3⟩
  · exact .inl hs
  · have := ho _ _ _ _ _ _ rfl
    obtain ⟨j, rfl⟩ : ∃ j, b = L.length + (j + 2) := ⟨b - L.length - 2, by omega⟩
    refine .inr ⟨_, off, ver, lim, k, rfl, ?_, h3⟩
    rw [at_add] at hk ⊢
    exact hk
theorem append_two {L m : List Blk} {x y x' y' : Blk} {es : List (Nat × Nat)} {z n eb : Nat} {cs ys : List V} {v : V} (hs : Sl ⟨L ++ x :: y :: m, es⟩ z n cs v) (ho : OwnF (L.length + 2) ⟨L ++ x :: y :: m, es⟩ z n v)
    (hy : ys.length = z) (hz : 0 < z) (hok : ys.all V.cellOk = true) (hb : (n + 1) * eb ≤ 70368744177664) (hn : n + 1 ≤ 70368744177664) (hu : ∀ b, V.uptos b ys = []) :
    ∃ v' m', appendV z eb ⟨L ++ x' :: y' :: (m ++ [⟨ys, 0, 0, false⟩]), es⟩ v (.sl (L.length + (m.length + 2)) 0 1 0 z false) = some (v', ⟨L ++ x' :: y' :: m', es⟩) ∧
      Sl ⟨L ++ x' :: y' :: m', es⟩ z (n + 1) (cs ++ ys) v' ∧ OwnF (L.length + 2) ⟨L ++ x' :: y' :: m', es⟩ z (n + 1) v' ∧ Keeps ⟨L ++ x' :: y' :: m, es⟩ ⟨L ++ x' :: y' :: m', es⟩ := by
  obtain ⟨hs', ho'⟩ := swap_two (x' := x') (y' := y') (es' := es) hs ho
  have e' : (L ++ [x', y']).length = L.length + 2 := by simp
  rw [two_assoc] at hs' ho'
  rw [← e'] at ho'
  obtain ⟨v', m', es', ha, ha1, ha2, -, hk, ha6, -⟩ := append_new (eb := eb) (ys := ys) hs' ho' hy hz hok hb hn (L.length + (m.length + 2)) (by simp; omega)
  have := ha6 hu
  subst this
  rw [e'] at ha2
  simp only [List.append_nil] at ha ha1 ha2 hk
  refine ⟨v', m', ?_, ?_, ?_, ?_⟩
  · rw [two_assoc (m := m ++ _), two_assoc (m := m')]; exact ha
  · rw [two_assoc]; exact ha1
  · rw [two_assoc]; exact ha2
  · rw [two_assoc, two_assoc (m := m')]; exact hk
def gapsN : Nat → RS → List (Int × Int) × RS
  | 0, r => ([], r)
  | k + 1, r => let x := gapsN k r; (x.1 ++ [((x.2.num 2 : Int), ((x.2.tk 2).num 2 : Int))], (x.2.tk 2).tk 2)
def dupsN : Nat → RS → List Int × RS
  | 0, r => ([], r)
  | k + 1, r => let x := dupsN k r; (x.1 ++ [(x.2.num 4 : Int)], x.2.tk 4)
theorem gapsN_len (k : Nat) (r : RS) : (gapsN k r).1.length = k := by
  induction k with
  | zero => rfl
  | succ k ih => simp (dsimp := false) [gapsN, ih]
theorem dupsN_len (k : Nat) (r : RS) : (dupsN k r).1.length = k := by
  induction k with
  | zero => rfl
  | succ k ih => simp (dsimp := false) [dupsN, ih]
/-- A SACK that is read. -/
def sackR (r : RS) (c : Ck) : RS × Ck :=
  let r2 := (r.tk 4).tk 4
  let r4 := (r2.tk 2).tk 2
  let g := r2.num 2
  let d := (r2.tk 2).num 2
  let c1 : Ck := { c with tsn := (r.num 4 : Nat), rwnd := ((r.tk 4).num 4 : Nat) }
  if 16 < g ∨ 16 < d then (r4.fail 5, c1) else
  let x := gapsN g r4
  let y := dupsN d x.2
  (if y.2.e = 0 ∧ rising x.1 = false then y.2.fail 3 else y.2, { c1 with gaps := x.1, dups := y.1 })
/-- What a reader of chunks leaves: the chunk at L, the reader after it. -/
def ReadsTo (L : List Blk) (es : List (Nat × Nat)) (r : RS) (c : Ck) (x : V × H) : Prop :=
  ∃ vp vc vg vd m es', x = (.tup [], ⟨L ++ ⟨c.cells vp vc vg vd, 0, 0, false⟩ :: r.blk :: m, es ++ es'⟩) ∧ (∀ y ∈ es', L.length ≤ y.1) ∧ CkIs x.2 c vp vc vg vd ∧
    ∀ v ∈ [vp, vc, vg, vd], Hi (L.length + 2) v ∧ ∀ b ∈ V.upto (L.length + 2) v, (L.length, b) ∈ es'
theorem leave_two {L m : List Blk} {x y x0 y0 : Blk} {es es0 : List (Nat × Nat)} :
    leave ⟨L ++ [x0, y0], es⟩ ⟨L ++ x :: y :: m, es0⟩ (.tup []) = ⟨L ++ x :: y :: m, es ++ es0⟩ ∨
      ((∀ e ∈ es0, L.length + 2 ≤ e.1 ∨ e.2 < L.length + 2) ∧ leave ⟨L ++ [x0, y0], es⟩ ⟨L ++ x :: y :: m, es0⟩ (.tup []) = ⟨L ++ [x, y], es ++ es0.filter fun e => decide (e.1 < L.length + 2)⟩) := by
  have hz : (⟨L ++ [x0, y0], es⟩ : H).size = L.length + 2 := by simp (dsimp := false) [H.size]
  unfold leave
  rw [hz]
  split
  · rename_i hc
    rw [Bool.and_eq_true, List.all_eq_true] at hc
    refine .inr ⟨fun e he => by simpa using hc.2 e he, ?_⟩
    rw [two_assoc, List.take_append_of_le_length (by simp), List.take_of_length_le (by simp)]
  · exact .inl rfl
theorem reads_of {L m : List Blk} {x0 y0 : Blk} {es es0 : List (Nat × Nat)} {r : RS} {c : Ck} {vp vc vg vd : V} (h1 : ∀ y ∈ es0, L.length ≤ y.1)
    (hS : CkIs ⟨L ++ ⟨c.cells vp vc vg vd, 0, 0, false⟩ :: r.blk :: m, es0⟩ c vp vc vg vd) (hH : ∀ v ∈ [vp, vc, vg, vd], Hi (L.length + 2) v ∧ ∀ b ∈ V.upto (L.length + 2) v, (L.length, b) ∈ es0) :
    ReadsTo L es r c (.tup [], leave ⟨L ++ [x0, y0], es⟩ ⟨L ++ ⟨c.cells vp vc vg vd, 0, 0, false⟩ :: r.blk :: m, es0⟩ (.tup [])) := by
  rcases leave_two (L := L) (m := m) (x := ⟨c.cells vp vc vg vd, 0, 0, false⟩) (y := r.blk) (x0 := x0) (y0 := y0) (es := es) (es0 := es0) with h | ⟨h2, h⟩
  · rw [h]
    exact ⟨vp, vc, vg, vd, m, es0, rfl, h1, hS.blks rfl, hH⟩
  · rw [h]
    have key : ∀ v ∈ [vp, vc, vg, vd], ∀ z n cs h', Sl ⟨L ++ ⟨c.cells vp vc vg vd, 0, 0, false⟩ :: r.blk :: m, es0⟩ z n cs v → Sl h' z n cs v := by
      intro v hv z n cs h' s
      rcases s with s | ⟨b, off, ver, lim, k, rfl, -⟩
      · exact .inl s
      · have a := (hH _ hv).1 _ _ _ _ _ _ rfl
        have := h2 _ ((hH _ hv).2 b (by rw [upto_sl, if_neg (by omega)]; simp))
        simp only at this
        omega
    refine ⟨vp, vc, vg, vd, [], _, rfl, fun y hy => h1 y (List.mem_filter.1 hy).1, ⟨key _ (by simp) _ _ _ _ hS.sp, key _ (by simp) _ _ _ _ hS.sc, key _ (by simp) _ _ _ _ hS.sg, key _ (by simp) _ _ _ _ hS.sd⟩, fun v hv => ⟨(hH v hv).1, fun b hb => ?_⟩⟩
    exact List.mem_filter.2 ⟨(hH v hv).2 b hb, by simp⟩
attribute [local irreducible] RS.num RS.tk numB
theorem chunk_sack {L : List Blk} {es : List (Nat × Nat)} {r : RS} {c : Ck} (hp : c.params = []) (hc : c.causes = []) (hg' : c.gaps = []) (hd : c.dups = []) :
    Ok (Does Tryz.prog C 121 [.ptr (L.length + 1) 0 0 2, .ptr L.length 0 0 15] ⟨L ++ [⟨c.cells .nils .nils .nils .nils, 0, 0, false⟩, r.blk], es⟩) (ReadsTo L es (sackR r c).1 (sackR r c).2) := by
  unfold Ck.cells
  generalize hg2 : ((r.tk 4).tk 4).num 2 = g
  generalize hd2 : (((r.tk 4).tk 4).tk 2).num 2 = d
  have hA : sackR r c = sackR r c := rfl
  conv at hA => rhs; unfold sackR
  simp only [hg2, hd2] at hA
  refine Does_wp (n := 74) (rs := []) Tryz.func121 (by kernel_rfl) rfl rfl rfl (by simp) fun σ hg => ?_
  by_cases c1 : 16 < g ∨ 16 < d
  · simp (dsimp := false) [-run_groupK, run_join, hg, splice, hg2, hd2]
    have e : (16 < (g : Int)) ∨ (16 < (d : Int)) := by omega
    simp (dsimp := false) [e]
    rw [if_pos c1] at hA
    rw [hA]
    refine ⟨.nils, .nils, .nils, .nils, [], [], by simp (dsimp := false) [Ck.cells], by simp, ⟨?_, ?_, ?_, ?_⟩, by simp (dsimp := false) [Hi.nils]⟩ <;> simp (dsimp := false) [hp, hc, hg', hd, Sl.nil]
  · have e : ¬ ((16 < (g : Int)) ∨ (16 < (d : Int))) := by omega
    simp (dsimp := false) [-run_groupK, run_join, hg, splice, hg2, hd2, e]
    rw [if_neg c1] at hA
    rw [hA]
    clear hA hg2 hd2
    generalize RS.tk 2 (RS.tk 2 (RS.tk 4 (RS.tk 4 r))) = r4 at *
    generalize RS.num 4 r = tsn at *
    generalize RS.num 4 (RS.tk 4 r) = rwnd at *
    refine W_loopM (fun k σ h' => ∃ i vg m es0, k = g - i ∧ i ≤ g ∧ h' = ⟨L ++ ⟨[.int .i64 c.typ, .int .i64 c.flags, .int .u32 tsn, .int .i64 c.stream, .int .i64 c.ssn, .int .u32 c.proto, .str c.data, .int .u32 c.tag, .int .u32 rwnd, .int .i64 c.out, .int .i64 c.inn, .nils, .nils, vg, .nils], 0, 0, false⟩ :: (gapsN i r4).2.blk :: m, es0⟩ ∧
      σ 0 = .ptr (L.length + 1) 0 0 2 ∧ σ 1 = .ptr L.length 0 0 15 ∧ σ 5 = .int .i64 d ∧ σ 28 = .int .i64 g ∧ σ 29 = .int .i64 i ∧
      Sl h' 2 i ((gapsN i r4).1.flatMap gapCells) vg ∧ OwnF (L.length + 2) h' 2 i vg ∧
      (∀ y ∈ es0, L.length ≤ y.1) ∧ ∀ b ∈ V.upto (L.length + 2) vg, (L.length, b) ∈ es0) ?_ g _ _ ?_
    · rintro _ σ _ ⟨i, vg, m, es0, rfl, hi, rfl, h0, h1, h5, h28, h29, hs, ho, he1, he2⟩
      simp (dsimp := false) [h5, h28, h29]
      split
      · rename_i hlt
        have hi16 : i + 1 ≤ 16 := by omega
        have hi1 : i + 1 ≤ 70368744177664 := Nat.le_trans hi16 (by decide)
        have hi2 : (i + 1) * 16 ≤ 70368744177664 := Nat.le_trans (Nat.mul_le_mul_right 16 hi16) (by decide)
        obtain ⟨v', m', ha, ha1, ha2, hk⟩ := append_two (x' := ⟨[.int .i64 c.typ, .int .i64 c.flags, .int .u32 tsn, .int .i64 c.stream, .int .i64 c.ssn, .int .u32 c.proto, .str c.data, .int .u32 c.tag, .int .u32 rwnd, .int .i64 c.out, .int .i64 c.inn, .nils, .nils, vg, .nils], 0, 0, false⟩) (y' := (((gapsN i r4).2.tk 2).tk 2).blk) (eb := 16) (ys := gapCells ((((gapsN i r4).2.num 2 : Nat) : Int), ((((gapsN i r4).2.tk 2).num 2 : Nat) : Int))) hs ho rfl Nat.two_pos rfl hi2 hi1 (fun b => rfl)
        refine (W_anyF (F := [(4, 6), (4, 8), (4, 10)]) (by kernel_rfl)).2 ?_
        simp (dsimp := false) [gapCells] at ha
        have hv := ha1.facts
        simp (dsimp := false) [h0, h1, h5, h28, h29, splice, ha, hv.1, hv.2.2.1]
        have hsw := swap_two (x' := ⟨[.int .i64 c.typ, .int .i64 c.flags, .int .u32 tsn, .int .i64 c.stream, .int .i64 c.ssn, .int .u32 c.proto, .str c.data, .int .u32 c.tag, .int .u32 rwnd, .int .i64 c.out, .int .i64 c.inn, .nils, .nils, v', .nils], 0, 0, false⟩) (y' := (((gapsN i r4).2.tk 2).tk 2).blk) (es' := es0 ++ List.map (fun r => (L.length, r)) (V.upto L.length v')) ha1 ha2
        refine ⟨g - (i + 1), by omega, i + 1, rfl, by omega, v', m', _, ⟨⟨rfl, rfl, rfl⟩, rfl⟩, by rw [wrap_succ hlt (by omega)], ?_, hsw.2, ?_, ?_⟩
        · show Sl _ 2 (i + 1) (List.flatMap gapCells ((gapsN i r4).1 ++ [_])) v'
          rw [List.flatMap_append, List.flatMap_singleton]
          exact hsw.1
        · intro a b hab
          rcases List.mem_append.1 hab with h | h
          · exact he1 _ h
          · obtain ⟨_, -, h⟩ := List.mem_map.1 h
            injection h with h
            omega
        · intro b hb
          exact List.mem_append_right _ (List.mem_map.2 ⟨b, Sl.upto_le ha1 hb, rfl⟩)
      · obtain rfl : i = g := by omega
        generalize hX : gapsN i r4 = X at *
        refine W_loopM (fun k σ h' => ∃ j vd m es1, k = d - j ∧ j ≤ d ∧ h' = ⟨L ++ ⟨[.int .i64 c.typ, .int .i64 c.flags, .int .u32 tsn, .int .i64 c.stream, .int .i64 c.ssn, .int .u32 c.proto, .str c.data, .int .u32 c.tag, .int .u32 rwnd, .int .i64 c.out, .int .i64 c.inn, .nils, .nils, vg, vd], 0, 0, false⟩ :: (dupsN j X.2).2.blk :: m, es1⟩ ∧
          σ 0 = .ptr (L.length + 1) 0 0 2 ∧ σ 1 = .ptr L.length 0 0 15 ∧ σ 46 = .int .i64 d ∧ σ 47 = .int .i64 j ∧
          Sl h' 2 i (X.1.flatMap gapCells) vg ∧ Sl h' 1 j ((dupsN j X.2).1.flatMap dupCells) vd ∧ OwnF (L.length + 2) h' 1 j vd ∧ Hi (L.length + 2) vg ∧
          (∀ y ∈ es1, L.length ≤ y.1) ∧ (∀ b ∈ V.upto (L.length + 2) vg, (L.length, b) ∈ es1) ∧ ∀ b ∈ V.upto (L.length + 2) vd, (L.length, b) ∈ es1) ?_ d _ _ ?_
        · rintro _ σ _ ⟨j, vd, m, es1, rfl, hj, rfl, h0, h1, h46, h47, hs, hs1, ho1, hHi, he1, he2, he3⟩
          simp (dsimp := false) [h0, h1, h46, h47]
          split
          · rename_i hlt
            have hi16 : j + 1 ≤ 16 := by omega
            have hi1 : j + 1 ≤ 70368744177664 := Nat.le_trans hi16 (by decide)
            have hi2 : (j + 1) * 4 ≤ 70368744177664 := Nat.le_trans (Nat.mul_le_mul_right 4 hi16) (by decide)
            obtain ⟨v', m', ha, ha1, ha2, hk⟩ := append_two (x' := ⟨[.int .i64 c.typ, .int .i64 c.flags, .int .u32 tsn, .int .i64 c.stream, .int .i64 c.ssn, .int .u32 c.proto, .str c.data, .int .u32 c.tag, .int .u32 rwnd, .int .i64 c.out, .int .i64 c.inn, .nils, .nils, vg, vd], 0, 0, false⟩) (y' := ((dupsN j X.2).2.tk 4).blk) (eb := 4) (ys := dupCells (((dupsN j X.2).2.num 4 : Nat) : Int)) hs1 ho1 rfl Nat.one_pos rfl hi2 hi1 (fun b => rfl)
            refine (W_anyF (F := [(4, 6), (4, 7)]) (by kernel_rfl)).2 ?_
            simp (dsimp := false) [dupCells] at ha
            have hv := ha1.facts
            simp (dsimp := false) [h0, h1, h46, h47, splice, ha, hv.1, hv.2.2.1]
            have hsw := swap_two (x' := ⟨[.int .i64 c.typ, .int .i64 c.flags, .int .u32 tsn, .int .i64 c.stream, .int .i64 c.ssn, .int .u32 c.proto, .str c.data, .int .u32 c.tag, .int .u32 rwnd, .int .i64 c.out, .int .i64 c.inn, .nils, .nils, vg, v'], 0, 0, false⟩) (y' := ((dupsN j X.2).2.tk 4).blk) (es' := es1 ++ List.map (fun r => (L.length, r)) (V.upto L.length v')) ha1 ha2
            have hvg := swap_hi (x' := ⟨[.int .i64 c.typ, .int .i64 c.flags, .int .u32 tsn, .int .i64 c.stream, .int .i64 c.ssn, .int .u32 c.proto, .str c.data, .int .u32 c.tag, .int .u32 rwnd, .int .i64 c.out, .int .i64 c.inn, .nils, .nils, vg, v'], 0, 0, false⟩) (y' := ((dupsN j X.2).2.tk 4).blk) (es' := es1 ++ List.map (fun r => (L.length, r)) (V.upto L.length v')) (hk _ _ _ _ (swap_hi hs hHi)) hHi
            refine ⟨d - (j + 1), by omega, j + 1, rfl, by omega, v', m', _, ⟨⟨rfl, rfl, rfl⟩, rfl⟩, by rw [wrap_succ hlt (by omega)], hvg, ?_, hsw.2, hHi, ?_, ?_, ?_⟩
            · show Sl _ 1 (j + 1) (List.flatMap dupCells ((dupsN j X.2).1 ++ [_])) v'
              rw [List.flatMap_append, List.flatMap_singleton]
              exact hsw.1
            · intro a b hab
              rcases List.mem_append.1 hab with h | h
              · exact he1 _ h
              · obtain ⟨_, -, h⟩ := List.mem_map.1 h
                injection h with h
                omega
            · intro b hb
              exact List.mem_append_left _ (he2 b hb)
            · intro b hb
              exact List.mem_append_right _ (List.mem_map.2 ⟨b, Sl.upto_le ha1 hb, rfl⟩)
          · obtain rfl : j = d := by omega
            have hrl : X.1.length = i := by rw [← hX, gapsN_len]
            have hdl : (dupsN j X.2).1.length = j := dupsN_len _ _
            have hs' := hs
            rw [← hrl] at hs'
            have hri := chunk_rising (C := C) hs' (by omega)
            have fin : ∀ r' : RS, ReadsTo L es r' { typ := c.typ, flags := c.flags, tsn := ↑tsn, stream := c.stream, ssn := c.ssn, proto := c.proto, data := c.data, tag := c.tag, rwnd := ↑rwnd, out := c.out, inn := c.inn, params := c.params, causes := c.causes, gaps := X.1, dups := (dupsN j X.2).1 }
                (.tup [], leave ⟨L ++ [⟨[.int .i64 c.typ, .int .i64 c.flags, .int .u32 c.tsn, .int .i64 c.stream, .int .i64 c.ssn, .int .u32 c.proto, .str c.data, .int .u32 c.tag, .int .u32 c.rwnd, .int .i64 c.out, .int .i64 c.inn, .nils, .nils, .nils, .nils], 0, 0, false⟩, r.blk], es⟩
                  ⟨L ++ ⟨[.int .i64 c.typ, .int .i64 c.flags, .int .u32 tsn, .int .i64 c.stream, .int .i64 c.ssn, .int .u32 c.proto, .str c.data, .int .u32 c.tag, .int .u32 rwnd, .int .i64 c.out, .int .i64 c.inn, .nils, .nils, vg, vd], 0, 0, false⟩ :: r'.blk :: m, es1⟩ (.tup [])) := by
              intro r'
              refine reads_of (vp := .nils) (vc := .nils) (vg := vg) (vd := vd) he1 ⟨?_, ?_, ?_, ?_⟩ ?_
              · simp only [hp]; exact Sl.nil _ 2
              · simp only [hc]; exact Sl.nil _ 2
              · simp only [hrl]; exact swap_hi hs hHi
              · simp only [hdl]; exact swap_hi hs1 (OwnF.hi ho1)
              · intro v hv
                have hn : Hi (L.length + 2) .nils := fun b off n ver z l e => by cases e
                simp only [List.mem_cons, List.not_mem_nil, or_false] at hv
                rcases hv with rfl | rfl | rfl | rfl
                · exact ⟨hn, by simp⟩
                · exact ⟨hn, by simp⟩
                · exact ⟨hHi, he2⟩
                · exact ⟨OwnF.hi ho1, he3⟩
            simp (dsimp := false) [h0, h1, hri]
            split
            · rename_i hce
              split
              · rename_i hr1
                rw [if_neg (by rw [hr1]; simp)]
                exact fin _
              · rename_i hr1
                rw [if_pos ⟨hce, by simpa using hr1⟩]
                exact fin _
            · rename_i hce
              rw [if_neg (fun h => hce h.1)]
              exact fin _
        · exact ⟨0, .nils, m, es0, by simp (dsimp := false) [dupsN, Sl.nil, OwnF.nil, h0, h1, hs]; exact ⟨OwnF.hi ho, fun a b h => he1 _ h, he2⟩⟩
    · exact ⟨0, .nils, [], [], by simp (dsimp := false) [gapsN, Sl.nil, OwnF.nil, hg]⟩
end Go.Proofs.YtklbbjfbcibghaaGreat
end
section
namespace Go.Proofs.YtklbbjfbcibghaaGreat
open Go.Hl
set_option maxHeartbeats 2000000
variable {C : CallT}
/-- What a chunk's body says: the reader then, the chunk. -/
def saysR (r : RS) (c : Ck) : RS × Ck :=
  let t := c.typ
  if t = 0 then
    let r4 := (((r.tk 4).tk 2).tk 2).tk 4
    (r4.gone, { c with tsn := (r.num 4 : Nat), stream := ((r.tk 4).num 2 : Nat), ssn := (((r.tk 4).tk 2).num 2 : Nat), proto := ((((r.tk 4).tk 2).tk 2).num 4 : Nat), data := r4.rest })
  else if isInit t then
    let r5 := ((((r.tk 4).tk 4).tk 2).tk 2).tk 4
    (parR r5, { c with tag := (r.num 4 : Nat), rwnd := ((r.tk 4).num 4 : Nat), out := (((r.tk 4).tk 4).num 2 : Nat), inn := ((((r.tk 4).tk 4).tk 2).num 2 : Nat), tsn := (((((r.tk 4).tk 4).tk 2).tk 2).num 4 : Nat), params := (allP r5.rest).1 })
  else if t = 3 then sackR r c
  else if isBeat t then
    let x := tkParam r
    (if x.2.e = 0 ∧ x.1.typ ≠ 1 then x.2.fail 3 else x.2, { c with data := x.1.val })
  else if isErr t then (parR r, { c with causes := (allP r.rest).1 })
  else if t = 7 then (r.tk 4, { c with tsn := (r.num 4 : Nat) })
  else if isConf t then (parR (r.tk 4), { c with tsn := (r.num 4 : Nat), params := (allP (r.tk 4).rest).1 })
  else if isBare t then (r, c)
  else if t = 15 then
    let r2 := (r.tk 2).tk 2
    (r2.gone, { c with stream := (r.num 2 : Nat), ssn := ((r.tk 2).num 2 : Nat), data := r2.rest })
  else (r.gone, { c with data := r.rest })
theorem reads_plain {L : List Blk} {es : List (Nat × Nat)} {r : RS} {c : Ck} (hp : c.params = []) (hc : c.causes = []) (hg' : c.gaps = []) (hd : c.dups = []) :
    ReadsTo L es r c (.tup [], ⟨L ++ [⟨c.cells .nils .nils .nils .nils, 0, 0, false⟩, r.blk], es⟩) :=
  ⟨.nils, .nils, .nils, .nils, [], [], by simp, by simp, ⟨by rw [hp]; exact Sl.nil _ 2, by rw [hc]; exact Sl.nil _ 2, by rw [hg']; exact Sl.nil _ 2, by rw [hd]; exact Sl.nil _ 1⟩, by simp (dsimp := false) [Hi.nils]⟩
/-- Parameters or causes that are read last. -/
theorem reads_last {L m : List Blk} {x0 y0 x r0 : Blk} {es es0 : List (Nat × Nat)} {r : RS} {c : Ck} {vp vc v : V} {n : Nat} {cs : List V} (h1 : ∀ y ∈ es0, L.length + 2 ≤ y.1)
    (hv : Sl ⟨L ++ x :: r0 :: m, es0⟩ 2 n cs v) (hi : Hi (L.length + 2) v) (hg' : c.gaps = []) (hd : c.dups = [])
    (hw : vp = v ∧ vc = .nils ∧ c.causes = [] ∧ n = c.params.length ∧ cs = c.params.flatMap Pm.cells ∨ vc = v ∧ vp = .nils ∧ c.params = [] ∧ n = c.causes.length ∧ cs = c.causes.flatMap Pm.cells) :
    ReadsTo L es r c (.tup [], leave ⟨L ++ [x0, y0], es⟩ ⟨L ++ ⟨c.cells vp vc .nils .nils, 0, 0, false⟩ :: r.blk :: m, es0 ++ (V.upto L.length v).map fun b => (L.length, b)⟩ (.tup [])) := by
  have hs : ∀ x y es, Sl ⟨L ++ x :: y :: m, es⟩ 2 n cs v := fun x y es => swap_hi hv hi
  have hu : ∀ b ∈ V.upto (L.length + 2) v, (L.length, b) ∈ es0 ++ (V.upto L.length v).map fun b => (L.length, b) := fun b hb => List.mem_append_right _ (List.mem_map.2 ⟨b, Sl.upto_le hv hb, rfl⟩)
  refine reads_of ?_ ?_ ?_
  · intro y hy
    rcases List.mem_append.1 hy with hy | hy
    · exact Nat.le_trans (Nat.le_add_right _ _) (h1 y hy)
    · obtain ⟨b, -, rfl⟩ := List.mem_map.1 hy
      exact Nat.le_refl _
  · rcases hw with ⟨rfl, rfl, h2, rfl, rfl⟩ | ⟨rfl, rfl, h2, rfl, rfl⟩
    · exact ⟨hs _ _ _, by rw [h2]; exact Sl.nil _ 2, by rw [hg']; exact Sl.nil _ 2, by rw [hd]; exact Sl.nil _ 1⟩
    · exact ⟨by rw [h2]; exact Sl.nil _ 2, hs _ _ _, by rw [hg']; exact Sl.nil _ 2, by rw [hd]; exact Sl.nil _ 1⟩
  · intro u hu'
    have hn : ∀ b, ¬ b ∈ V.upto (L.length + 2) .nils := by simp
    simp only [List.mem_cons, List.not_mem_nil, or_false] at hu'
    rcases hw with ⟨rfl, rfl, -⟩ | ⟨rfl, rfl, -⟩
    · rcases hu' with rfl | rfl | rfl | rfl
      · exact ⟨hi, hu⟩
      all_goals exact ⟨Hi.nils, fun b hb => absurd hb (hn b)⟩
    · rcases hu' with rfl | rfl | rfl | rfl
      · exact ⟨Hi.nils, fun b hb => absurd hb (hn b)⟩
      · exact ⟨hi, hu⟩
      all_goals exact ⟨Hi.nils, fun b hb => absurd hb (hn b)⟩
attribute [local irreducible] RS.num RS.tk numB allP
theorem chunk_says {L : List Blk} {es : List (Nat × Nat)} {r : RS} {c : Ck} (hp : c.params = []) (hc : c.causes = []) (hg' : c.gaps = []) (hd : c.dups = []) :
    Ok (Does Tryz.prog C 102 [.ptr (L.length + 1) 0 0 2, .ptr L.length 0 0 15] ⟨L ++ [⟨c.cells .nils .nils .nils .nils, 0, 0, false⟩, r.blk], es⟩) (ReadsTo L es (saysR r c).1 (saysR r c).2) := by
  have hpl := fun (r' : RS) (c' : Ck) a b c d => reads_plain (L := L) (es := es) (r := r') (c := c') a b c d
  unfold Ck.cells at hpl ⊢
  refine Does_wp (n := 161) (rs := []) Tryz.func102 (by kernel_rfl) rfl rfl rfl (by simp) fun σ hg => ?_
  by_cases t0 : c.typ = 0
  · have F : ∀ k : Int, (c.typ = k) = ((0 : Int) = k) := fun k => by rw [t0]
    rw [saysR, if_pos t0]
    simp (dsimp := false) [hg, splice, F]
    exact hpl _ _ hp hc hg' hd
  by_cases ti : isInit c.typ = true
  · have F : ∃ t, (t = 1 ∨ t = 2) ∧ ∀ k : Int, (c.typ = k) = (t = k) := by
      unfold isInit at ti
      simp only [Bool.or_eq_true, decide_eq_true_eq] at ti
      exact ⟨c.typ, ti, fun k => rfl⟩
    obtain ⟨t, ht, F⟩ := F
    rw [saysR, if_neg t0, if_pos ti]
    have key := fun x => chunk_params (C := C) (l := L ++ [x, (((((r.tk 4).tk 4).tk 2).tk 2).tk 4).blk]) (es := []) (b := L.length + 1) (r := ((((r.tk 4).tk 4).tk 2).tk 2).tk 4) (by simp)
    rcases ht with rfl | rfl
    all_goals
      simp (dsimp := false) [hg, splice, F]
      refine (key _).mono ?_
      rintro ⟨x, h1⟩ ⟨v, m, es', hx, he, hs, hi⟩
      obtain ⟨rfl, rfl⟩ := Prod.mk.inj hx
      simp (dsimp := false) [hg, hs.facts]
      simp at hs hi he
      refine reads_last (vp := x) (vc := .nils) (by simpa using he) hs hi ?_ ?_ (.inl ⟨rfl, rfl, ?_, rfl, rfl⟩)
      · exact hg'
      · exact hd
      · exact hc
  by_cases t3 : c.typ = 3
  · have F : ∀ k : Int, (c.typ = k) = ((3 : Int) = k) := fun k => by rw [t3]
    rw [saysR, if_neg t0, if_neg ti, if_pos t3]
    have hk := fun es => chunk_sack (C := C) (L := L) (es := es) (r := r) (c := c) hp hc hg' hd
    unfold Ck.cells at hk
    simp (dsimp := false) [hg, F]
    refine (hk []).mono ?_
    rintro ⟨x, h1⟩ ⟨vp, vc, vg, vd, m, es', hx, he, hS, hH⟩
    obtain ⟨rfl, rfl⟩ := Prod.mk.inj hx
    simp only [List.nil_append] at hS
    simp (dsimp := false) [hg]
    exact reads_of he hS hH
  by_cases tb : isBeat c.typ = true
  · have F : ∃ t, (t = 4 ∨ t = 5) ∧ ∀ k : Int, (c.typ = k) = (t = k) := by
      unfold isBeat at tb
      simp only [Bool.or_eq_true, decide_eq_true_eq] at tb
      exact ⟨c.typ, tb, fun k => rfl⟩
    obtain ⟨t, ht, F⟩ := F
    rw [saysR, if_neg t0, if_neg ti, if_neg t3, if_pos tb]
    rcases ht with rfl | rfl
    all_goals
      simp (dsimp := false) [-run_groupK, run_join, hg, splice, F, Pm.cells]
      have fin : ∀ (r' : RS) z, ReadsTo L es r' { c with data := (tkParam r).1.val } (.tup [], leave ⟨L ++ [_, r.blk], es⟩ ⟨L ++ [⟨Ck.cells { c with data := (tkParam r).1.val } .nils .nils .nils .nils, 0, 0, false⟩, r'.blk, z], []⟩ (.tup [])) :=
        fun r' z => reads_of (m := [z]) (es0 := []) (vp := .nils) (vc := .nils) (vg := .nils) (vd := .nils) (x0 := ⟨c.cells .nils .nils .nils .nils, 0, 0, false⟩) (by simp) ⟨by simp only [hp]; exact Sl.nil _ 2, by simp only [hc]; exact Sl.nil _ 2, by simp only [hg']; exact Sl.nil _ 2, by simp only [hd]; exact Sl.nil _ 1⟩ (by simp (dsimp := false) [Hi.nils])
      split
      · exact fin _ _
      · exact fin _ _
  by_cases te : isErr c.typ = true
  · have F : ∃ t, (t = 6 ∨ t = 9) ∧ ∀ k : Int, (c.typ = k) = (t = k) := by
      unfold isErr at te
      simp only [Bool.or_eq_true, decide_eq_true_eq] at te
      exact ⟨c.typ, te, fun k => rfl⟩
    obtain ⟨t, ht, F⟩ := F
    rw [saysR, if_neg t0, if_neg ti, if_neg t3, if_neg tb, if_pos te]
    have key := fun x => cause_All (C := C) (h := ⟨L ++ [x, r.gone.blk], []⟩) r.rest
    rcases ht with rfl | rfl
    all_goals
      simp (dsimp := false) [hg, F]
      refine (key _).mono ?_
      rintro ⟨x, h1⟩ ⟨v, hx, he, hs, -, hi⟩
      simp only at hx hs he
      subst hx
      obtain ⟨m0, es0, rfl, hes0⟩ := he
      simp only [List.nil_append] at hs hi
      have hf := hs.facts
      simp at hs hi hes0
      by_cases c1 : (allP r.rest).2 = 0
      · have hpr : parR r = r.gone := by simp (dsimp := false) [parR, c1]
        simp (dsimp := false) [hg, c1, hf, splice]
        rw [hpr]
        refine reads_last (vp := .nils) (vc := v) (by simpa [H.size] using hes0) hs hi ?_ ?_ (.inr ⟨rfl, rfl, ?_, rfl, rfl⟩)
        · exact hg'
        · exact hd
        · exact hp
      · have hpr : parR r = r.gone.fail (allP r.rest).2 := by simp (dsimp := false) [parR, c1]
        simp (dsimp := false) [hg, c1, hf, splice]
        rw [hpr]
        refine reads_last (vp := .nils) (vc := v) (by simpa [H.size] using hes0) hs hi ?_ ?_ (.inr ⟨rfl, rfl, ?_, rfl, rfl⟩)
        · exact hg'
        · exact hd
        · exact hp
  by_cases t7 : c.typ = 7
  · have F : ∀ k : Int, (c.typ = k) = ((7 : Int) = k) := fun k => by rw [t7]
    rw [saysR, if_neg t0, if_neg ti, if_neg t3, if_neg tb, if_neg te, if_pos t7]
    simp (dsimp := false) [hg, splice, F]
    exact hpl _ _ hp hc hg' hd
  by_cases tc : isConf c.typ = true
  · have F : ∃ t, (t = 193 ∨ t = 128 ∨ t = 130) ∧ ∀ k : Int, (c.typ = k) = (t = k) := by
      unfold isConf at tc
      simp only [Bool.or_eq_true, decide_eq_true_eq, or_assoc] at tc
      exact ⟨c.typ, tc, fun k => rfl⟩
    obtain ⟨t, ht, F⟩ := F
    rw [saysR, if_neg t0, if_neg ti, if_neg t3, if_neg tb, if_neg te, if_neg t7, if_pos tc]
    have key := fun x => chunk_params (C := C) (l := L ++ [x, (r.tk 4).blk]) (es := []) (b := L.length + 1) (r := r.tk 4) (by simp)
    rcases ht with rfl | rfl | rfl
    all_goals
      simp (dsimp := false) [hg, splice, F]
      refine (key _).mono ?_
      rintro ⟨x, h1⟩ ⟨v, m, es', hx, he, hs, hi⟩
      obtain ⟨rfl, rfl⟩ := Prod.mk.inj hx
      simp (dsimp := false) [hg, hs.facts]
      simp at hs hi he
      refine reads_last (vp := x) (vc := .nils) (by simpa using he) hs hi ?_ ?_ (.inl ⟨rfl, rfl, ?_, rfl, rfl⟩)
      · exact hg'
      · exact hd
      · exact hc
  by_cases tr : isBare c.typ = true
  · have F : ∃ t, (t = 8 ∨ t = 11 ∨ t = 14) ∧ ∀ k : Int, (c.typ = k) = (t = k) := by
      unfold isBare at tr
      simp only [Bool.or_eq_true, decide_eq_true_eq, or_assoc] at tr
      exact ⟨c.typ, tr, fun k => rfl⟩
    obtain ⟨t, ht, F⟩ := F
    rw [saysR, if_neg t0, if_neg ti, if_neg t3, if_neg tb, if_neg te, if_neg t7, if_neg tc, if_pos tr]
    rcases ht with rfl | rfl | rfl
    all_goals
      simp (dsimp := false) [hg, F]
      exact hpl _ _ hp hc hg' hd
  by_cases t15 : c.typ = 15
  · have F : ∀ k : Int, (c.typ = k) = ((15 : Int) = k) := fun k => by rw [t15]
    rw [saysR, if_neg t0, if_neg ti, if_neg t3, if_neg tb, if_neg te, if_neg t7, if_neg tc, if_neg tr, if_pos t15]
    simp (dsimp := false) [hg, splice, F]
    exact hpl _ _ hp hc hg' hd
  · rw [saysR, if_neg t0, if_neg ti, if_neg t3, if_neg tb, if_neg te, if_neg t7, if_neg tc, if_neg tr, if_neg t15]
    unfold isInit at ti
    unfold isBeat at tb
    unfold isErr at te
    unfold isConf at tc
    unfold isBare at tr
    simp only [Bool.or_eq_true, decide_eq_true_eq, not_or] at ti tb te tc tr
    simp (dsimp := false) [hg, splice, t0, ti, t3, tb, te, t7, tc, tr, t15]
    exact hpl _ _ hp hc hg' hd
end Go.Proofs.YtklbbjfbcibghaaGreat
end
section
namespace Go.Proofs.YtklbbjfbcibghaaGreat
open Go.Hl
set_option maxHeartbeats 2000000
variable {C : CallT}
def ck0 : Ck := { typ := 0, flags := 0, tsn := 0, stream := 0, ssn := 0, proto := 0, data := [], tag := 0, rwnd := 0, out := 0, inn := 0, params := [], causes := [], gaps := [], dups := [] }
/-- What a chunk's taking leaves: the reader, the chunk. -/
def tkChunk (r : RS) : RS × Ck :=
  let r1 := r.tk 1
  let r2 := r1.tk 1
  let r3 := r2.tk 2
  let n : Int := (r2.num 2 : Int) - 4
  let r4 := if r3.e = 0 ∧ n < 0 then r3.fail 3 else r3
  let r5 := r4.tk n
  if r5.e ≠ 0 then (r5, ck0) else
  let r6 := if r5.left < (-n) % 4 then r5.fail 2 else r5
  let r7 := r6.fill n
  if r7.e ≠ 0 then (r7, ck0) else
  let x := saysR ⟨r4.got n, 0⟩ { ck0 with typ := (r.num 1 : Nat), flags := (r1.num 1 : Nat) }
  if x.1.end.e ≠ 0 then (r7.fail x.1.end.e, ck0) else
  if x.2.may = false then (r7.fail 3, ck0) else (r7, x.2)
/-- The chunk that a taking hands back, the reader at b. -/
def TakePost (l : List Blk) (es : List (Nat × Nat)) (b : Nat) (r' : RS) (c : Ck) (x : V × H) : Prop :=
  ∃ vp vc vg vd m es', x = (.agg (c.cells vp vc vg vd), ⟨l.set b r'.blk ++ m, es ++ es'⟩) ∧ (∀ y ∈ es', l.length ≤ y.1) ∧ CkIs x.2 c vp vc vg vd ∧ ∀ v ∈ [vp, vc, vg, vd], Hi l.length v
theorem take_fin {l : List Blk} {es es0 : List (Nat × Nat)} {b : Nat} {r r' : RS} {c : Ck} {vp vc vg vd : V} {m : List Blk} (hes0 : ∀ y ∈ es0, l.length ≤ y.1) (hS : CkIs ⟨l.set b r'.blk ++ m, es0⟩ c vp vc vg vd) (hH : ∀ v ∈ [vp, vc, vg, vd], Hi l.length v) :
    TakePost (l.set b r.blk) es b r' c (.agg (c.cells vp vc vg vd), leave ⟨l.set b r.blk, es⟩ ⟨l.set b r'.blk ++ m, es0⟩ (.agg (c.cells vp vc vg vd))) := by
  rw [leave_len (l2 := l.set b r'.blk) (by simp)]
  obtain ⟨m', es', h1, h2⟩ := leave_ext (v := .agg (c.cells vp vc vg vd)) (h := ⟨l.set b r'.blk, es⟩) (m := m) (es := es0) (by simpa [H.size] using hes0)
  have hu : V.under (l.set b r'.blk).length (.agg (c.cells vp vc vg vd)) = true → ∀ v ∈ [vp, vc, vg, vd], V.under (l.set b r'.blk).length v = true := by
    intro h v hv
    simp (dsimp := false) [Ck.cells] at h
    simp only [List.mem_cons, List.not_mem_nil, or_false] at hv
    simp only [List.length_set]
    rcases hv with rfl | rfl | rfl | rfl
    · exact h.1
    · exact h.2.1
    · exact h.2.2.1
    · exact h.2.2.2
  refine ⟨vp, vc, vg, vd, m', es', ?_, by simpa [H.size] using h2, ⟨?_, ?_, ?_, ?_⟩, by simpa using hH⟩
  · rw [h1]
    simp
  · exact leave_sl hS.sp (fun h => hu h _ (by simp))
  · exact leave_sl hS.sc (fun h => hu h _ (by simp))
  · exact leave_sl hS.sg (fun h => hu h _ (by simp))
  · exact leave_sl hS.sd (fun h => hu h _ (by simp))
theorem take_fin0 {l : List Blk} {es es0 : List (Nat × Nat)} {b : Nat} {r r' : RS} {m : List Blk} (hes0 : ∀ y ∈ es0, l.length ≤ y.1) :
    TakePost (l.set b r.blk) es b r' ck0 (.agg (ck0.cells .nils .nils .nils .nils), leave ⟨l.set b r.blk, es⟩ ⟨l.set b r'.blk ++ m, es0⟩ (.agg (ck0.cells .nils .nils .nils .nils))) :=
  take_fin hes0 ⟨Sl.nil _ 2, Sl.nil _ 2, Sl.nil _ 2, Sl.nil _ 1⟩ (by simp (dsimp := false) [Hi.nils])
theorem take_done0 {l : List Blk} {es : List (Nat × Nat)} {b : Nat} {r r' : RS} : TakePost (l.set b r.blk) es b r' ck0 (.agg (ck0.cells .nils .nils .nils .nils), ⟨l.set b r'.blk, es⟩) :=
  ⟨.nils, .nils, .nils, .nils, [], [], by simp, by simp, ⟨Sl.nil _ 2, Sl.nil _ 2, Sl.nil _ 2, Sl.nil _ 1⟩, by simp (dsimp := false) [Hi.nils]⟩
theorem CkIs.swap {L m : List Blk} {x y x' y' : Blk} {es es' : List (Nat × Nat)} {c : Ck} {vp vc vg vd : V} (hS : CkIs ⟨L ++ x :: y :: m, es⟩ c vp vc vg vd) (hH : ∀ v ∈ [vp, vc, vg, vd], Hi (L.length + 2) v) : CkIs ⟨L ++ x' :: y' :: m, es'⟩ c vp vc vg vd :=
  ⟨swap_hi hS.sp (hH _ (by simp)), swap_hi hS.sc (hH _ (by simp)), swap_hi hS.sg (hH _ (by simp)), swap_hi hS.sd (hH _ (by simp))⟩
theorem num2_lt (r : RS) : r.num 2 < 65536 := by
  refine Nat.lt_of_lt_of_le (numB_lt _) ?_
  exact Nat.pow_le_pow_right (n := 256) (by decide) (tkS_len 2 r.s r.e)
theorem rest_le (r : RS) : r.rest.length ≤ r.s.length := by
  unfold RS.rest
  split <;> simp
theorem RS.tk_le (n : Int) (r : RS) : (r.tk n).s.length ≤ r.s.length := tkR_le n r.s r.e
theorem RS.got_le (n : Int) (r : RS) : (r.got n).length ≤ r.s.length := tkS_le n r.s r.e
theorem tkParam_le (r : RS) : (tkParam r).1.val.length ≤ r.s.length := by
  have key : ∀ q : RS, q.s.length ≤ r.s.length → ∀ n, (q.got n).length ≤ r.s.length := fun q h n => Nat.le_trans (RS.got_le n q) h
  have h2 : ((r.tk 2).tk 2).s.length ≤ r.s.length := Nat.le_trans (RS.tk_le 2 _) (RS.tk_le 2 r)
  have h3 : ∀ x, (((r.tk 2).tk 2).fail x).s.length ≤ r.s.length := fun _ => h2
  unfold tkParam
  simp only
  generalize ((r.tk 2).num 2 : Int) - 4 = n
  generalize (r.tk 2).tk 2 = r2 at *
  have h4 : ∀ c : Bool, ((if c = true then r2.fail 3 else r2).got n).length ≤ r.s.length := fun c => by
    cases c
    · exact key _ h2 n
    · exact key _ (h3 3) n
  by_cases c : r2.e = 0 ∧ (n < 0 ∨ 1000 < n)
  · rw [if_pos c]
    have := h4 true
    simp only [if_true] at this
    repeat' split
    all_goals (first | exact Nat.zero_le r.s.length | exact this)
  · rw [if_neg c]
    have := h4 false
    simp only [Bool.false_eq_true, if_false] at this
    repeat' split
    all_goals (first | exact Nat.zero_le r.s.length | exact this)
theorem saysR_small {r : RS} (hs : r.s.length ≤ 65536) {c : Ck} (hp : c.params = []) (hc : c.causes = []) (hg : c.gaps = []) (hd : c.dups = []) (h0 : c.data = []) : CkSmall (saysR r c).2 := by
  have e1 : ∀ q : RS, q.s.length ≤ r.s.length → q.rest.length ≤ 1000000 := fun q h => by
    have := rest_le q
    omega
  have tk1 : ∀ (n : Int) (q : RS), q.s.length ≤ r.s.length → (q.tk n).s.length ≤ r.s.length := fun n q h => Nat.le_trans (tkR_le n q.s q.e) h
  have e2 : ∀ q : RS, (allP q.rest).1.length ≤ 1000000 := fun q => Nat.le_trans (allP_len _) (by decide)
  have e3 : (tkParam r).1.val.length ≤ 1000000 := by
    have := tkParam_le r
    omega
  have z : (0 : Nat) ≤ 1000000 := by decide
  unfold saysR
  simp only
  split
  · exact ⟨by simp only [hp]; exact z, by simp only [hc]; exact z, by simp only [hg]; exact z, by simp only [hd]; exact z, e1 _ (tk1 _ _ (tk1 _ _ (tk1 _ _ (tk1 _ _ (Nat.le_refl _)))))⟩
  split
  · exact ⟨e2 _, by simp only [hc]; exact z, by simp only [hg]; exact z, by simp only [hd]; exact z, by simp only [h0]; exact z⟩
  split
  · unfold sackR
    simp only
    split
    · exact ⟨by simp only [hp]; exact z, by simp only [hc]; exact z, by simp only [hg]; exact z, by simp only [hd]; exact z, by simp only [h0]; exact z⟩
    · rename_i hgd
      exact ⟨by simp only [hp]; exact z, by simp only [hc]; exact z, by simp only [gapsN_len]; omega, by simp only [dupsN_len]; omega, by simp only [h0]; exact z⟩
  split
  · exact ⟨by simp only [hp]; exact z, by simp only [hc]; exact z, by simp only [hg]; exact z, by simp only [hd]; exact z, e3⟩
  split
  · exact ⟨by simp only [hp]; exact z, e2 _, by simp only [hg]; exact z, by simp only [hd]; exact z, by simp only [h0]; exact z⟩
  split
  · exact ⟨by simp only [hp]; exact z, by simp only [hc]; exact z, by simp only [hg]; exact z, by simp only [hd]; exact z, by simp only [h0]; exact z⟩
  split
  · exact ⟨e2 _, by simp only [hc]; exact z, by simp only [hg]; exact z, by simp only [hd]; exact z, by simp only [h0]; exact z⟩
  split
  · exact ⟨by simp only [hp]; exact z, by simp only [hc]; exact z, by simp only [hg]; exact z, by simp only [hd]; exact z, by simp only [h0]; exact z⟩
  split
  · exact ⟨by simp only [hp]; exact z, by simp only [hc]; exact z, by simp only [hg]; exact z, by simp only [hd]; exact z, e1 _ (tk1 _ _ (tk1 _ _ (Nat.le_refl _)))⟩
  · exact ⟨by simp only [hp]; exact z, by simp only [hc]; exact z, by simp only [hg]; exact z, by simp only [hd]; exact z, e1 _ (Nat.le_refl _)⟩
theorem chunk_Take {l : List Blk} {es : List (Nat × Nat)} {b : Nat} {r : RS} (hr : l[b]? = some r.blk) : Ok (Does Tryz.prog C 70 [.ptr b 0 0 2] ⟨l, es⟩) (TakePost l es b (tkChunk r).1 (tkChunk r).2) := by
  have hlt := lt_of_some hr
  obtain ⟨l', hl', rfl⟩ : ∃ l', b < l'.length ∧ l = l'.set b r.blk := ⟨l, hlt, (set_self hr).symm⟩
  clear hr hlt
  have hn2 := num2_lt ((r.tk 1).tk 1)
  have hw : IntKind.i64.wrap ((((r.tk 1).tk 1).num 2 : Int) - 4) = (((r.tk 1).tk 1).num 2 : Int) - 4 := wrap_i64 (by omega) (by omega)
  have hT : tkChunk r = tkChunk r := rfl
  conv at hT => rhs; unfold tkChunk
  simp only at hT
  have hn3 : (((r.tk 1).tk 1).num 2 : Int) - 4 < 65536 := by omega
  obtain ⟨r3, hr3⟩ : ∃ r3, ((r.tk 1).tk 1).tk 2 = r3 := ⟨_, rfl⟩
  obtain ⟨n, hn⟩ : ∃ n, (((r.tk 1).tk 1).num 2 : Int) - 4 = n := ⟨_, rfl⟩
  replace hw := hw.trans hn
  rw [hn] at hn3
  rw [hr3, hn] at hT
  refine Does_wp (n := 63) (rs := [.cell 2 32]) Tryz.func70 (by kernel_rfl) rfl rfl rfl (by simp) fun σ hg => ?_
  by_cases c1 : r3.e = 0 ∧ n < 0
  · have e5 : ¬ ((r3.fail 3).tk n).e = 0 := by
      simp (dsimp := false) [RS.fail, RS.tk, failE, c1.1, tkE, noTake]
    rw [if_pos c1, if_pos e5] at hT
    rw [hT]
    simp (dsimp := false) [-run_groupK, run_join, hg, hl', splice, hr3, hw, c1.1, c1.2, e5]
    exact take_done0
  rw [if_neg c1] at hT
  by_cases c5 : ((r3.tk n).e = 0)
  · obtain ⟨r5, h5⟩ : ∃ r5, r3.tk n = r5 := ⟨_, rfl⟩
    obtain ⟨s, hs⟩ : ∃ s, r3.got n = s := ⟨_, rfl⟩
    have hsl : s.length ≤ 65536 := by
      rw [← hs]
      have := tkS_len n r3.s r3.e
      unfold RS.got
      omega
    have c3 : r3.e = 0 := by
      refine Classical.byContradiction fun h => ?_
      rw [tk_bad h] at c5
      exact h c5
    have cn : ¬ n < 0 := fun h => c1 ⟨c3, h⟩
    rw [h5] at c5 hT
    rw [hs, if_neg (fun h => h c5)] at hT
    obtain ⟨r7, h7⟩ : ∃ r7, (if r5.left < (-n) % 4 then r5.fail 2 else r5).fill n = r7 := ⟨_, rfl⟩
    rw [h7] at hT
    obtain ⟨fl, hfl⟩ : ∃ f, (r.tk 1).num 1 = f := ⟨_, rfl⟩
    obtain ⟨ty, hty⟩ : ∃ f, r.num 1 = f := ⟨_, rfl⟩
    rw [hfl, hty] at hT
    have key := fun q k => chunk_says (C := C) (L := l'.set b q ++ [k]) (es := []) (r := ⟨s, 0⟩) (c := { ck0 with typ := (ty : Nat), flags := (fl : Nat) }) rfl rfl rfl rfl
    have hsm := saysR_small (r := ⟨s, 0⟩) hsl (c := { ck0 with typ := (ty : Nat), flags := (fl : Nat) }) rfl rfl rfl rfl rfl
    generalize saysR ⟨s, 0⟩ { ck0 with typ := (ty : Nat), flags := (fl : Nat) } = X at *
    obtain ⟨ri, c⟩ := X
    simp only [ck0, Ck.cells] at key
    simp at key
    by_cases c6 : r5.left < (-n) % 4
    all_goals
      simp only [c6, if_true, if_false] at h7
      simp (dsimp := false) [-run_groupK, run_join, hg, hl', splice, hr3, hw, c3, cn, h5, c5, hs, c6, h7, hfl, hty]
      split
      · rename_i c7
        rw [if_neg (fun h => h c7)] at hT
        refine (key _ _).mono ?_
        rintro ⟨x, h1⟩ ⟨vp, vc, vg, vd, m, es', hx, he, hS, hH⟩
        obtain ⟨rfl, rfl⟩ := Prod.mk.inj hx
        simp only [List.nil_append] at hS
        have hS' := fun x' y' es' => CkIs.swap (x' := x') (y' := y') (es' := es') hS (fun v hv => (hH v hv).1)
        have hf := hS.facts
        have hM := fun x' y' es' => chunk_May (C := C) (hS' x' y' es') hsm
        simp at hM hS' he hf
        unfold Ck.cells at hM
        by_cases c8 : ri.end.e = 0
        · rw [if_neg (fun h => h c8)] at hT
          have hes : ∀ y ∈ es' ++ (List.map (fun r => (l'.length, r)) (V.upto l'.length vp) ++ (List.map (fun r => (l'.length, r)) (V.upto l'.length vc) ++ (List.map (fun r => (l'.length, r)) (V.upto l'.length vg) ++ List.map (fun r => (l'.length, r)) (V.upto l'.length vd)))), l'.length ≤ y.1 := by
            intro y hy
            simp only [List.mem_append, List.mem_map] at hy
            rcases hy with hy | ⟨_, -, rfl⟩ | ⟨_, -, rfl⟩ | ⟨_, -, rfl⟩ | ⟨_, -, rfl⟩
            · have := he y.1 y.2 hy
              omega
            all_goals exact Nat.le_refl _
          have hHi : ∀ v ∈ [vp, vc, vg, vd], Hi l'.length v := fun v hv => (hH v hv).1.le (by simp; omega)
          have hes1 : ∀ y ∈ es', l'.length ≤ y.1 := fun y hy => by
            have := he y.1 y.2 hy
            omega
          simp (dsimp := false) [-run_groupK, hg, hl', splice, Ck.cells, c8, hM, hf]
          split
          · rename_i c9
            rw [c9, if_neg (by simp)] at hT
            rw [hT]
            refine take_fin (m := ⟨c.cells vp vc vg vd, 0, 0, false⟩ :: ⟨c.cells vp vc vg vd, 0, 0, false⟩ :: ri.end.blk :: m) hes ?_ hHi
            have h0 := CkIs.pre (p := l'.set b r7.blk ++ [⟨ck0.cells .nils .nils .nils .nils, 0, 0, false⟩, ⟨c.cells vp vc vg vd, 0, 0, false⟩, ri.end.blk]) (p' := l'.set b r7.blk ++ [⟨c.cells vp vc vg vd, 0, 0, false⟩, ⟨c.cells vp vc vg vd, 0, 0, false⟩, ri.end.blk]) (m := m) (es := es')
              (es' := es' ++ (List.map (fun r => (l'.length, r)) (V.upto l'.length vp) ++ (List.map (fun r => (l'.length, r)) (V.upto l'.length vc) ++ (List.map (fun r => (l'.length, r)) (V.upto l'.length vg) ++ List.map (fun r => (l'.length, r)) (V.upto l'.length vd)))))
              (c := c) (vp := vp) (vc := vc) (vg := vg) (vd := vd) (by simp) (by have := hS' ⟨c.cells vp vc vg vd, 0, 0, false⟩ ri.end.blk es'; simpa [ck0, Ck.cells] using this) (fun v hv => (hH v hv).1.le (by simp))
            simpa using h0
          · rename_i c9
            simp only [Bool.not_eq_true] at c9
            rw [c9, if_pos rfl] at hT
            rw [hT]
            exact take_fin0 hes1
        · rw [if_pos c8] at hT
          rw [hT]
          have hes1 : ∀ y ∈ es', l'.length ≤ y.1 := fun y hy => by
            have := he y.1 y.2 hy
            omega
          simp (dsimp := false) [-run_groupK, hg, hl', splice, Ck.cells, c8]
          exact take_fin0 hes1
      · rename_i c7
        rw [if_pos c7] at hT
        rw [hT]
        exact take_done0
  · rw [if_pos c5] at hT
    rw [hT]
    by_cases c3 : r3.e = 0
    · have cn : ¬ n < 0 := fun h => c1 ⟨c3, h⟩
      simp (dsimp := false) [-run_groupK, run_join, hg, hl', splice, hr3, hw, c3, cn, c5]
      exact take_done0
    · simp (dsimp := false) [-run_groupK, run_join, hg, hl', splice, hr3, hw, c3, c5]
      exact take_done0
end Go.Proofs.YtklbbjfbcibghaaGreat
end
section
namespace Go.Hl
/-- Appending leaves other blocks alone. -/
theorem appendV_keep {l : List Blk} {es : List (Nat × Nat)} {esz eb : Nat} {v x v' : V} {h' : H} (h : appendV esz eb ⟨l, es⟩ v x = some (v', h')) {i : Nat} {k : Blk} (hv : ∀ b off n ver z lim, v = .sl b off n ver z lim → b ≠ i) (hi : l[i]? = some k) : h'.blks[i]? = some k := by
  unfold appendV at h
  split at h
  · rename_i m ys
    split at h
    · split at h
      · injection h with h; injection h with h1 h2; subst h2; exact hi
      · injection h with h; injection h with h1 h2; subst h2; exact hi
      · cases h
    · split at h
      · unfold appendTo at h
        split at h
        · split at h
          · injection h with h; injection h with h1 h2; subst h2
            exact at_old hi
          · cases h
        · split at h
          · split at h
            · injection h with h; injection h with h1 h2; subst h2
              exact at_old hi
            · cases h
          · cases h
        · rename_i b off len ver ez
          have hb := hv _ _ _ _ _ _ rfl
          split at h
          · split at h
            · split at h
              · rw [Option.map_eq_some_iff] at h
                obtain ⟨h1, h2, h3⟩ := h
                injection h3 with h3 h4
                subst h4
                unfold H.grow at h2
                split at h2
                · split at h2
                  · injection h2 with h2
                    subst h2
                    simp only
                    rw [List.getElem?_set_ne hb]
                    exact hi
                  · cases h2
                · cases h2
              · split at h
                · rw [Option.map_eq_some_iff] at h
                  obtain ⟨h1, h2, h3⟩ := h
                  injection h3 with h3 h4
                  subst h4
                  unfold H.write at h2
                  split at h2
                  · split at h2
                    · injection h2 with h2
                      subst h2
                      simp only
                      rw [List.getElem?_set_ne hb]
                      exact hi
                    · cases h2
                  · cases h2
                · cases h
            · cases h
          · cases h
        · cases h
      · cases h
  · cases h
theorem four_assoc {L m : List Blk} {a b c d : Blk} : L ++ a :: b :: c :: d :: m = (L ++ [a, b, c, d]) ++ m := by simp
theorem swap4 {L m : List Blk} {es es' : List (Nat × Nat)} {a b c d a' b' c' d' : Blk} {z n : Nat} {cs : List V} {v : V} (hs : Sl ⟨L ++ a :: b :: c :: d :: m, es⟩ z n cs v) (hH : Hi (L.length + 4) v) : Sl ⟨L ++ a' :: b' :: c' :: d' :: m, es'⟩ z n cs v := by
  rw [four_assoc] at hs ⊢
  exact swap_pre (by simp) hs (by simpa using hH)
/-- One element more, behind four blocks; a block q that was made just before stays. -/
theorem grow4 {L m : List Blk} {es : List (Nat × Nat)} {a b c d q : Blk} {z n eb : Nat} {cs ys : List V} {v : V} (hs : Sl ⟨L ++ a :: b :: c :: d :: m, es⟩ z n cs v) (ho : OwnF (L.length + 4) ⟨L ++ a :: b :: c :: d :: m, es⟩ z n v)
    (hy : ys.length = z) (hz : 0 < z) (hok : ys.all V.cellOk = true) (hb : (n + 1) * eb ≤ 70368744177664) (hn : n + 1 ≤ 70368744177664) (hu : ∀ b, V.uptos b ys = []) (j : Nat) (hj : j = L.length + (m.length + 5)) :
    ∃ v' M, appendV z eb ⟨L ++ a :: b :: c :: d :: (m ++ [q, ⟨ys, 0, 0, false⟩]), es⟩ v (.sl j 0 1 0 z false) = some (v', ⟨L ++ a :: b :: c :: d :: M, es⟩) ∧
      (∀ a' b' c' d' es', Sl ⟨L ++ a' :: b' :: c' :: d' :: M, es'⟩ z (n + 1) (cs ++ ys) v' ∧ OwnF (L.length + 4) ⟨L ++ a' :: b' :: c' :: d' :: M, es'⟩ z (n + 1) v') ∧ M[m.length]? = some q ∧
      (∀ z' n' cs' u a' b' c' d' es', Sl ⟨L ++ a :: b :: c :: d :: m, es⟩ z' n' cs' u → Hi (L.length + 4) u → Sl ⟨L ++ a' :: b' :: c' :: d' :: M, es'⟩ z' n' cs' u) := by
  have hl4 : ∀ a b c d : Blk, (L ++ [a, b, c, d]).length = L.length + 4 := by simp
  have hvf := hs.facts
  have hs1 := hs
  rw [four_assoc] at hs ho
  rw [← hl4 a b c d] at ho
  have hs2 := hs.app (m := [q]) (es' := es)
  have ho2 := ho.app (m := [q]) (es' := es)
  rw [List.append_assoc] at hs2 ho2
  obtain ⟨v', M, es', h1, h2, h3, -, h5, h6, -⟩ := append_new (eb := eb) (ys := ys) hs2 ho2 hy hz hok hb hn j (by simp; omega)
  have := h6 hu
  subst this
  simp only [List.append_nil] at h1 h2 h3 h5
  have hap := h1
  rw [List.append_assoc m, ← four_assoc, ← four_assoc] at h1
  refine ⟨v', M, by simpa using h1, fun a' b' c' d' es' => ?_, ?_, fun z' n' cs' u a' b' c' d' es' hsu hHu => ?_⟩
  · have h := SlOwn_swap (p' := L ++ [a', b', c', d']) (es' := es') (by simp) h2 h3
    rw [hl4, ← four_assoc] at h
    exact h
  · have hk := appendV_keep hap (i := (L ++ [a, b, c, d]).length + m.length) (k := q) (by
      intro b' off n' ver z' lim hv
      subst hv
      have := hvf.2.2.2.1
      simp at this ⊢
      omega) (by rw [at_add]; simp)
    simp only at hk
    rw [at_add] at hk
    exact hk
  · rw [four_assoc] at hsu
    have h := h5 _ _ _ _ (by rw [← List.append_assoc]; exact hsu.app (m := [q]) (es' := es))
    rw [four_assoc]
    exact swap_pre (by simp) h (by rw [hl4]; exact hHu)
end Go.Hl
namespace Go.Proofs.YtklbbjfbcibghaaGreat
open Go.Hl
set_option maxHeartbeats 4000000
variable {C : CallT}
section
variable {h : H} {r : RS} {c : Ck}
/-- What a reader of chunks hands back: the reader, the chunk. -/
def SayPost (h : H) (q : RS) (c : Ck) (x : V × H) : Prop := ∃ vp vc vg vd, x.1 = .tup [.agg (rc q), .agg (c.cells vp vc vg vd)] ∧ Ext h x.2 ∧ CkIs x.2 c vp vc vg vd ∧ ∀ v ∈ [vp, vc, vg, vd], Hi h.blks.length v
theorem say_fin {m : List Blk} {es : List (Nat × Nat)} {q : RS} {c : Ck} {vp vc vg vd : V} (hes : ∀ y ∈ es, h.blks.length ≤ y.1) (hS : CkIs ⟨h.blks ++ m, es⟩ c vp vc vg vd) (hH : ∀ v ∈ [vp, vc, vg, vd], Hi h.blks.length v) :
    SayPost h q c (.tup [.agg (rc q), .agg (c.cells vp vc vg vd)], leave h ⟨h.blks ++ m, es⟩ (.tup [.agg (rc q), .agg (c.cells vp vc vg vd)])) := by
  have hu : V.under h.blks.length (.tup [.agg (rc q), .agg (c.cells vp vc vg vd)]) = true → ∀ v ∈ [vp, vc, vg, vd], V.under h.blks.length v = true := by
    intro h v hv
    simp (dsimp := false) [Ck.cells, rc] at h
    simp only [List.mem_cons, List.not_mem_nil, or_false] at hv
    rcases hv with rfl | rfl | rfl | rfl
    · exact h.1
    · exact h.2.1
    · exact h.2.2.1
    · exact h.2.2.2
  exact ⟨vp, vc, vg, vd, rfl, leave_ext hes, ⟨leave_sl hS.sp (fun h => hu h _ (by simp)), leave_sl hS.sc (fun h => hu h _ (by simp)), leave_sl hS.sg (fun h => hu h _ (by simp)), leave_sl hS.sd (fun h => hu h _ (by simp))⟩, hH⟩
attribute [local irreducible] qTk qGot qNum qFail
theorem rdoc_sack (hp : c.params = []) (hc : c.causes = []) (hg' : c.gaps = []) (hd : c.dups = []) : Ok (Does Tryz.prog C 114 [.agg (rc r), .agg (c.cells .nils .nils .nils .nils)] h) (SayPost h (qSack r c).1 (qSack r c).2) := by
  have hN4 : ∀ (s : Bs) (e : Int) h, Does Tryz.prog C 46 [.agg [.str s, .int .i64 e], .int .i64 4] h = some (.tup [.agg (rc (qTk 4 ⟨s, e⟩)), .int .u64 (qNum 4 ⟨s, e⟩ : Nat)], h) := fun s e h => rdoc_Num (r := ⟨s, e⟩) (by decide)
  have hN2 : ∀ (s : Bs) (e : Int) h, Does Tryz.prog C 46 [.agg [.str s, .int .i64 e], .int .i64 2] h = some (.tup [.agg (rc (qTk 2 ⟨s, e⟩)), .int .u64 (qNum 2 ⟨s, e⟩ : Nat)], h) := fun s e h => rdoc_Num (r := ⟨s, e⟩) (by decide)
  have hF : ∀ (s : Bs) (e : Int) h, Does Tryz.prog C 79 [.agg [.str s, .int .i64 e], .int .i64 5] h = some (.agg (rc (qFail 5 ⟨s, e⟩)), h) := fun s e h => rdoc_Fail (h := h) (r := ⟨s, e⟩) 5
  have hQ : qSack r c = qSack r c := rfl
  conv at hQ => rhs; unfold qSack
  simp only at hQ
  have b1 := qNum4_lt r
  have b2 := qNum4_lt (qTk 4 r)
  have b3 := qNum2_lt (qTk 4 (qTk 4 r))
  have b4 := qNum2_lt (qTk 2 (qTk 4 (qTk 4 r)))
  obtain ⟨g, hgg⟩ : ∃ g, qNum 2 (qTk 4 (qTk 4 r)) = g := ⟨_, rfl⟩
  obtain ⟨d, hdd⟩ : ∃ d, qNum 2 (qTk 2 (qTk 4 (qTk 4 r))) = d := ⟨_, rfl⟩
  obtain ⟨r4, hr4⟩ : ∃ q, qTk 2 (qTk 2 (qTk 4 (qTk 4 r))) = q := ⟨_, rfl⟩
  obtain ⟨tsn, ht⟩ : ∃ q, qNum 4 r = q := ⟨_, rfl⟩
  obtain ⟨rwnd, hw⟩ : ∃ q, qNum 4 (qTk 4 r) = q := ⟨_, rfl⟩
  rw [hgg] at b3
  rw [hdd] at b4
  rw [hgg, hdd, hr4, ht, hw] at hQ
  rw [ht] at b1
  rw [hw] at b2
  have hwt : IntKind.u32.wrap (tsn : Int) = tsn := wrap_u32 b1
  have hww : IntKind.u32.wrap (rwnd : Int) = rwnd := wrap_u32 b2
  unfold rc Ck.cells at *
  refine Does_wp (n := 98) (rs := [.cell 4 100, .cell 5 32]) Tryz.func114 (by kernel_rfl) rfl rfl rfl (by simp) fun σ hg => ?_
  by_cases c1 : 16 < g ∨ 16 < d
  · rw [if_pos c1] at hQ
    have c1' : (16 < (g : Int) ∨ 16 < (d : Int)) = True := eq_true (by omega)
    simp (dsimp := false) [-run_groupK, run_join, hg, splice, hN4, hN2, RS_eta, hgg, hdd, hr4, ht, hw, c1']
    refine (W_anyF (F := [(2, 1), (2, 3)]) (by kernel_rfl)).2 ?_
    simp (dsimp := false) [splice, hF, RS_eta]
    rw [hQ]
    exact ⟨.nils, .nils, .nils, .nils, rfl, Ext.refl h, ⟨by simp only [hp]; exact Sl.nil _ 2, by simp only [hc]; exact Sl.nil _ 2, by simp only [hg']; exact Sl.nil _ 2, by simp only [hd]; exact Sl.nil _ 1⟩, by simp (dsimp := false) [Hi.nils]⟩
  · rw [if_neg c1] at hQ
    have c1' : (16 < (g : Int) ∨ 16 < (d : Int)) = False := eq_false (by omega)
    simp (dsimp := false) [-run_groupK, run_join, hg, splice, hN4, hN2, RS_eta, hgg, hdd, hr4, ht, hw, c1', hwt, hww]
    rw [hQ]
    clear hQ c1' b1 b2 b3 b4 hgg hdd hr4 ht hw hwt hww
    refine W_loopM (fun k σ h' => ∃ i vg m es0, k = g - i ∧ i ≤ g ∧ h' = ⟨h.blks ++ (⟨[.str (qGaps i r4).2.s, .int .i64 (qGaps i r4).2.e], 0, 0, false⟩ :: ⟨[.int .i64 c.typ, .int .i64 c.flags, .int .u32 tsn, .int .i64 c.stream, .int .i64 c.ssn, .int .u32 c.proto, .str c.data, .int .u32 c.tag, .int .u32 rwnd, .int .i64 c.out, .int .i64 c.inn, .nils, .nils, vg, .nils], 0, 0, false⟩ :: ⟨[.str [], .int .i64 0], 0, 0, false⟩ :: ⟨ck0.cells .nils .nils .nils .nils, 0, 0, false⟩ :: m), es0⟩ ∧
      σ 2 = .ptr h.blks.length 0 0 2 ∧ σ 3 = .ptr (h.blks.length + 1) 0 0 15 ∧ σ 4 = .ptr (h.blks.length + 2) 0 0 2 ∧ σ 5 = .ptr (h.blks.length + 3) 0 0 15 ∧ σ 8 = .int .u64 g ∧ σ 9 = .int .u64 d ∧ σ 10 = .int .u64 i ∧
      Sl h' 2 i ((qGaps i r4).1.flatMap gapCells) vg ∧ OwnF (h.blks.length + 4) h' 2 i vg ∧ (∀ y ∈ es0, h.blks.length ≤ y.1)) ?_ g _ _ ?_
    · rintro _ σ _ ⟨i, vg, m, es0, rfl, hi, rfl, h2, h3, h4, h5, h8, h9, h10, hs, ho, he⟩
      simp (dsimp := false) [h2, h8, h10, ck0, Ck.cells]
      split
      · rename_i hlt
        have hi16 : i + 1 ≤ 16 := by omega
        have hi1 : i + 1 ≤ 70368744177664 := Nat.le_trans hi16 (by decide)
        have hi2 : (i + 1) * 16 ≤ 70368744177664 := Nat.le_trans (Nat.mul_le_mul_right 16 hi16) (by decide)
        have x1 := qNum2_lt (qGaps i r4).2
        have x2 := qNum2_lt (qTk 2 (qGaps i r4).2)
        have w1 : IntKind.i64.wrap (qNum 2 (qGaps i r4).2 : Int) = (qNum 2 (qGaps i r4).2 : Nat) := wrap_i64 (by omega) (by omega)
        have w2 : IntKind.i64.wrap (qNum 2 (qTk 2 (qGaps i r4).2) : Int) = (qNum 2 (qTk 2 (qGaps i r4).2) : Nat) := wrap_i64 (by omega) (by omega)
        have w3 : IntKind.u64.wrap ((i : Int) + 1) = (i : Int) + 1 := by
          have := wrap_u64' (n := i + 1) (by omega)
          rwa [Int.natCast_add] at this
        simp (dsimp := false) [hN2, RS_eta, splice]
        have hf := hs.facts
        simp at hf
        obtain ⟨v', M, ha, hv', hq, hk⟩ := grow4 (q := ⟨rc (qTk 2 (qTk 2 (qGaps i r4).2)), 0, 0, false⟩) (eb := 16) (ys := gapCells (((qNum 2 (qGaps i r4).2 : Nat) : Int), ((qNum 2 (qTk 2 (qGaps i r4).2) : Nat) : Int))) hs ho rfl Nat.two_pos rfl hi2 hi1 (fun b => rfl) (h.blks.length + (m.length + 1 + 1 + 1 + 1 + 1)) (by omega)
        simp (dsimp := false) [gapCells, ck0, Ck.cells, rc] at ha
        simp (dsimp := false) [rc] at hq
        have hvf := (hv' ⟨[], 0, 0, false⟩ ⟨[], 0, 0, false⟩ ⟨[], 0, 0, false⟩ ⟨[], 0, 0, false⟩ []).1.facts
        simp at hvf
        refine (W_anyF (F := [(0, 8), (0, 9), (2, 8)]) (by kernel_rfl)).2 ?_
        simp (dsimp := false) [h2, h3, h4, h5, h8, h9, h10, w1, w2, splice, ha, hq, hvf]
        refine ⟨g - (i + 1), by omega, i + 1, rfl, by omega, v', M, _, ⟨⟨⟨rfl, rfl⟩, rfl, rfl, rfl⟩, rfl⟩, by rw [w3]; simp, ?_, (hv' _ _ _ _ _).2, ?_⟩
        · show Sl _ 2 (i + 1) (List.flatMap gapCells ((qGaps i r4).1 ++ [_])) v'
          rw [List.flatMap_append, List.flatMap_singleton]
          exact (hv' _ _ _ _ _).1
        · intro a b hab
          rcases List.mem_append.1 hab with hab | hab
          · exact he _ hab
          · obtain ⟨_, -, hab⟩ := List.mem_map.1 hab
            injection hab with h1 h2
            omega
      · obtain rfl : i = g := by omega
        generalize hX : qGaps i r4 = X at *
        have hXl : X.1.length = i := by rw [← hX, qGaps_len]
        have hvgH := ho.hi
        simp
        refine W_loopM (fun k σ h' => ∃ j vd m es0, k = d - j ∧ j ≤ d ∧ h' = ⟨h.blks ++ (⟨[.str (qDups j X.2).2.s, .int .i64 (qDups j X.2).2.e], 0, 0, false⟩ :: ⟨[.int .i64 c.typ, .int .i64 c.flags, .int .u32 tsn, .int .i64 c.stream, .int .i64 c.ssn, .int .u32 c.proto, .str c.data, .int .u32 c.tag, .int .u32 rwnd, .int .i64 c.out, .int .i64 c.inn, .nils, .nils, vg, vd], 0, 0, false⟩ :: ⟨[.str [], .int .i64 0], 0, 0, false⟩ :: ⟨ck0.cells .nils .nils .nils .nils, 0, 0, false⟩ :: m), es0⟩ ∧
          σ 2 = .ptr h.blks.length 0 0 2 ∧ σ 3 = .ptr (h.blks.length + 1) 0 0 15 ∧ σ 4 = .ptr (h.blks.length + 2) 0 0 2 ∧ σ 5 = .ptr (h.blks.length + 3) 0 0 15 ∧ σ 9 = .int .u64 d ∧ σ 14 = .int .u64 j ∧
          Sl h' 2 i (X.1.flatMap gapCells) vg ∧ Sl h' 1 j ((qDups j X.2).1.flatMap dupCells) vd ∧ OwnF (h.blks.length + 4) h' 1 j vd ∧ (∀ y ∈ es0, h.blks.length ≤ y.1)) ?_ d _ _ ?_
        · rintro _ σ _ ⟨j, vd, m, es0, rfl, hj, rfl, h2, h3, h4, h5, h9, h14, hs, hs1, ho1, he⟩
          simp (dsimp := false) [h2, h9, h14, ck0, Ck.cells]
          split
          · rename_i hlt
            have hi16 : j + 1 ≤ 16 := by omega
            have hi1 : j + 1 ≤ 70368744177664 := Nat.le_trans hi16 (by decide)
            have hi2 : (j + 1) * 4 ≤ 70368744177664 := Nat.le_trans (Nat.mul_le_mul_right 4 hi16) (by decide)
            have w1 : IntKind.u32.wrap (qNum 4 (qDups j X.2).2 : Int) = (qNum 4 (qDups j X.2).2 : Nat) := wrap_u32 (qNum4_lt _)
            have w3 : IntKind.u64.wrap ((j : Int) + 1) = (j : Int) + 1 := by
              have := wrap_u64' (n := j + 1) (by omega)
              rwa [Int.natCast_add] at this
            simp (dsimp := false) [hN4, RS_eta, splice]
            have hf := hs.facts
            have hf1 := hs1.facts
            simp at hf hf1
            obtain ⟨v', M, ha, hv', hq, hk⟩ := grow4 (q := ⟨rc (qTk 4 (qDups j X.2).2), 0, 0, false⟩) (eb := 4) (ys := dupCells ((qNum 4 (qDups j X.2).2 : Nat) : Int)) hs1 ho1 rfl Nat.one_pos rfl hi2 hi1 (fun b => rfl) (h.blks.length + (m.length + 1 + 1 + 1 + 1 + 1)) (by omega)
            simp (dsimp := false) [dupCells, ck0, Ck.cells, rc] at ha
            simp (dsimp := false) [rc] at hq
            have hvf := (hv' ⟨[], 0, 0, false⟩ ⟨[], 0, 0, false⟩ ⟨[], 0, 0, false⟩ ⟨[], 0, 0, false⟩ []).1.facts
            simp at hvf
            refine (W_anyF (F := [(0, 5), (0, 6), (2, 5)]) (by kernel_rfl)).2 ?_
            simp (dsimp := false) [h2, h3, h4, h5, h9, h14, w1, splice, ha, hq, hvf]
            refine ⟨d - (j + 1), by omega, j + 1, rfl, by omega, v', M, _, ⟨⟨⟨rfl, rfl⟩, rfl, rfl, rfl⟩, rfl⟩, by rw [w3]; simp, hk _ _ _ _ _ _ _ _ _ hs hvgH, ?_, (hv' _ _ _ _ _).2, ?_⟩
            · show Sl _ 1 (j + 1) (List.flatMap dupCells ((qDups j X.2).1 ++ [_])) v'
              rw [List.flatMap_append, List.flatMap_singleton]
              exact (hv' _ _ _ _ _).1
            · intro a b hab
              rcases List.mem_append.1 hab with hab | hab
              · exact he _ hab
              · obtain ⟨_, -, hab⟩ := List.mem_map.1 hab
                injection hab with h1 h2
                omega
          · obtain rfl : j = d := by omega
            have hdl : (qDups j X.2).1.length = j := qDups_len _ _
            have hf := hs.facts
            have hf1 := hs1.facts
            simp at hf hf1
            simp
            refine (W_anyF (F := [(1, 2)]) (by kernel_rfl)).2 ?_
            simp (dsimp := false) [h2, h3, h4, h5, splice, hf, hf1]
            refine say_fin (q := (qDups j X.2).2) (vp := .nils) (vc := .nils) (vg := vg) (vd := vd) ?_ ⟨?_, ?_, ?_, ?_⟩ ?_
            · intro y hy
              simp only [List.mem_append, List.mem_map] at hy
              rcases hy with hy | ⟨_, -, rfl⟩ | ⟨_, -, rfl⟩
              · exact he y hy
              all_goals (simp only; omega)
            · simp only [hp]; exact Sl.nil _ 2
            · simp only [hc]; exact Sl.nil _ 2
            · simp only [hXl]; exact swap4 hs hvgH
            · simp only [hdl]; exact swap4 hs1 ho1.hi
            · intro v hv
              simp only [List.mem_cons, List.not_mem_nil, or_false] at hv
              rcases hv with rfl | rfl | rfl | rfl
              · exact Hi.nils
              · exact Hi.nils
              · exact hvgH.le (by omega)
              · exact ho1.hi.le (by omega)
        · exact ⟨0, .nils, m, es0, by simp (dsimp := false) [qDups, Sl.nil, OwnF.nil, h2, h3, h4, h5, h9, ck0, Ck.cells]; exact ⟨by simpa [ck0, Ck.cells] using hs, fun a b hab => he _ hab⟩⟩
    · exact ⟨0, .nils, [], [], by simp (dsimp := false) [qGaps, Sl.nil, OwnF.nil, ck0, Ck.cells]⟩
end
end Go.Proofs.YtklbbjfbcibghaaGreat
end
section
namespace Go.Hl
/-- One element more, behind a fixed run of blocks. -/
theorem grow4p {L m0 m : List Blk} {es : List (Nat × Nat)} {a b c d q : Blk} {z n eb : Nat} {cs ys : List V} {v : V} (hs : Sl ⟨L ++ a :: b :: c :: d :: (m0 ++ q :: m), es⟩ z n cs v) (ho : OwnF (L.length + (m0.length + 5)) ⟨L ++ a :: b :: c :: d :: (m0 ++ q :: m), es⟩ z n v)
    (hy : ys.length = z) (hz : 0 < z) (hok : ys.all V.cellOk = true) (hb : (n + 1) * eb ≤ 70368744177664) (hn : n + 1 ≤ 70368744177664) (hu : ∀ b, V.uptos b ys = []) (j : Nat) (hj : j = L.length + (m0.length + m.length + 5)) :
    ∃ v' M, appendV z eb ⟨L ++ a :: b :: c :: d :: (m0 ++ q :: (m ++ [⟨ys, 0, 0, false⟩])), es⟩ v (.sl j 0 1 0 z false) = some (v', ⟨L ++ a :: b :: c :: d :: (m0 ++ q :: M), es⟩) ∧
      (∀ b' es', Sl ⟨L ++ a :: b' :: c :: d :: (m0 ++ q :: M), es'⟩ z (n + 1) (cs ++ ys) v' ∧ OwnF (L.length + (m0.length + 5)) ⟨L ++ a :: b' :: c :: d :: (m0 ++ q :: M), es'⟩ z (n + 1) v') := by
  have hp : ∀ (b : Blk) (m : List Blk), L ++ a :: b :: c :: d :: (m0 ++ q :: m) = (L ++ a :: b :: c :: d :: (m0 ++ [q])) ++ m := fun b m => by simp
  have hl : ∀ b : Blk, (L ++ a :: b :: c :: d :: (m0 ++ [q])).length = L.length + (m0.length + 5) := fun b => by simp
  rw [hp] at hs ho
  rw [← hl b] at ho
  obtain ⟨v', M, es', h1, h2, h3, -, h5, h6, -⟩ := append_new (eb := eb) (ys := ys) hs ho hy hz hok hb hn j (by rw [hl]; omega)
  have := h6 hu
  subst this
  simp only [List.append_nil] at h1 h2 h3 h5
  rw [← hp, ← hp] at h1
  refine ⟨v', M, h1, fun b' es' => ?_⟩
  have h := SlOwn_swap (p' := L ++ a :: b' :: c :: d :: (m0 ++ [q])) (es' := es') (by simp) h2 h3
  rw [hl, ← hp] at h
  exact h
end Go.Hl
namespace Go.Proofs.YtklbbjfbcibghaaGreat
open Go.Hl
set_option maxHeartbeats 4000000
variable {C : CallT}
section
variable {h : H} {r : RS} {c : Ck}
theorem qPars_len (r : RS) : (qPars r).2.length ≤ 16 := by
  unfold qPars
  simp only
  split
  · simp
  · exact qAll_len _
theorem say_plain {q : RS} {c : Ck} (hp : c.params = []) (hc : c.causes = []) (hg' : c.gaps = []) (hd : c.dups = []) : SayPost h q c (.tup [.agg (rc q), .agg (c.cells .nils .nils .nils .nils)], h) :=
  ⟨.nils, .nils, .nils, .nils, rfl, Ext.refl h, ⟨by rw [hp]; exact Sl.nil _ 2, by rw [hc]; exact Sl.nil _ 2, by rw [hg']; exact Sl.nil _ 2, by rw [hd]; exact Sl.nil _ 1⟩, by simp (dsimp := false) [Hi.nils]⟩
attribute [local irreducible] qTk qGot qNum qFail qPars qParam
theorem rdoc_says (hr : r.s.length ≤ 4000000000000000000) (hp : c.params = []) (hc : c.causes = []) (hg' : c.gaps = []) (hd : c.dups = []) : Ok (Does Tryz.prog C 81 [.agg (rc r), .agg (c.cells .nils .nils .nils .nils)] h) (SayPost h (qSays r c).1 (qSays r c).2) := by
  have hN4 : ∀ (s : Bs) (e : Int) h, Does Tryz.prog C 46 [.agg [.str s, .int .i64 e], .int .i64 4] h = some (.tup [.agg (rc (qTk 4 ⟨s, e⟩)), .int .u64 (qNum 4 ⟨s, e⟩ : Nat)], h) := fun s e h => rdoc_Num (r := ⟨s, e⟩) (by decide)
  have hN2 : ∀ (s : Bs) (e : Int) h, Does Tryz.prog C 46 [.agg [.str s, .int .i64 e], .int .i64 2] h = some (.tup [.agg (rc (qTk 2 ⟨s, e⟩)), .int .u64 (qNum 2 ⟨s, e⟩ : Nat)], h) := fun s e h => rdoc_Num (r := ⟨s, e⟩) (by decide)
  have hT : ∀ (s : Bs) (e n : Int) h, Does Tryz.prog C 78 [.agg [.str s, .int .i64 e], .int .i64 n] h = some (.tup [.agg (rc (qTk n ⟨s, e⟩)), .str (qGot n ⟨s, e⟩)], h) := fun s e n h => rdoc_Take (r := ⟨s, e⟩) n
  have hF : ∀ (s : Bs) (e : Int) h, Does Tryz.prog C 79 [.agg [.str s, .int .i64 e], .int .i64 3] h = some (.agg (rc (qFail 3 ⟨s, e⟩)), h) := fun s e h => rdoc_Fail (h := h) (r := ⟨s, e⟩) 3
  have hKi := fun h => rdoc_Kind (C := C) (h := h) c.typ
  have hPT : ∀ h, Does Tryz.prog C 115 [.agg (rc r)] h = some (.tup [.agg (rc (qParam r).1), .agg (qParam r).2.cells], h) := fun h => rdoc4_Take hr
  have w2 : ∀ q : RS, IntKind.i64.wrap (qNum 2 q : Int) = (qNum 2 q : Nat) := fun q => by have := qNum2_lt q; exact wrap_i64 (by omega) (by omega)
  have w4 : ∀ q : RS, IntKind.u32.wrap (qNum 4 q : Int) = (qNum 4 q : Nat) := fun q => wrap_u32 (qNum4_lt q)
  have hpl := fun (q : RS) (c' : Ck) a b e d => say_plain (h := h) (q := q) (c := c') a b e d
  unfold Ck.cells rc at *
  refine Does_wp (n := 235) (rs := [.cell 4 100, .cell 5 32]) Tryz.func81 (by kernel_rfl) rfl rfl rfl (by simp) fun σ hg => ?_
  by_cases t0 : c.typ = 0
  · have hk : qKind c.typ = 0 := by rw [t0]; rfl
    rw [qSays, if_pos t0]
    simp (dsimp := false) [hg, splice, hKi, hk, hN4, hN2, hT, RS_eta, w2, w4]
    refine (W_anyF (F := [(1, 2)]) (by kernel_rfl)).2 ?_
    simp (dsimp := false) [splice]
    exact hpl _ _ hp hc hg' hd
  by_cases ti : isInit c.typ = true
  · have hk : qKind c.typ = 1 := by
      unfold isInit at ti
      simp only [Bool.or_eq_true, decide_eq_true_eq] at ti
      rcases ti with h | h <;> rw [h] <;> rfl
    rw [qSays, if_neg t0, if_pos ti]
    have hl5 : (qTk 4 (qTk 2 (qTk 2 (qTk 4 (qTk 4 r))))).s.length ≤ 4000000000000000000 := Nat.le_trans (Nat.le_trans (qTk_le _ _) (Nat.le_trans (qTk_le _ _) (Nat.le_trans (qTk_le _ _) (Nat.le_trans (qTk_le _ _) (qTk_le _ _))))) hr
    simp (dsimp := false) [hg, splice, hKi, hk, hN4, hN2, RS_eta, w2, w4]
    refine (rdoc_params hl5).mono ?_
    rintro ⟨x1, x2⟩ ⟨v, hv, ⟨m0, es0, he, hes0⟩, hs, hi⟩
    simp only at hv he hs
    subst hv he
    have hvf := hs.facts
    simp at hs hi hes0 hvf
    simp (dsimp := false) [splice, hvf, rc]
    refine (W_anyF (F := [(1, 2)]) (by kernel_rfl)).2 ?_
    simp (dsimp := false) [splice, hvf]
    have hi' : Hi (h.blks.length + 4) v := hi.le (by omega)
    refine say_fin (q := (qPars (qTk 4 (qTk 2 (qTk 2 (qTk 4 (qTk 4 r)))))).1) (vp := v) (vc := .nils) (vg := .nils) (vd := .nils) ?_ ⟨swap4 hs hi', ?_, ?_, ?_⟩ ?_
    · intro y hy
      simp only [List.mem_append, List.mem_map] at hy
      rcases hy with hy | ⟨_, -, rfl⟩ | ⟨_, -, rfl⟩
      · have := hes0 y.1 y.2 hy
        omega
      all_goals (simp only; omega)
    · simp only [hc]; exact Sl.nil _ 2
    · simp only [hg']; exact Sl.nil _ 2
    · simp only [hd]; exact Sl.nil _ 1
    · intro u hu
      simp only [List.mem_cons, List.not_mem_nil, or_false] at hu
      rcases hu with rfl | rfl | rfl | rfl
      · exact hi.le (by omega)
      all_goals exact Hi.nils
  by_cases t3 : c.typ = 3
  · have hk : qKind c.typ = 3 := by rw [t3]; rfl
    rw [qSays, if_neg t0, if_neg ti, if_pos t3]
    have hS := fun h => rdoc_sack (C := C) (h := h) (r := r) hp hc hg' hd
    unfold Ck.cells rc at hS
    simp (dsimp := false) [hg, hKi, hk]
    refine (hS _).mono ?_
    rintro ⟨x1, x2⟩ ⟨vp, vc, vg, vd, hv, ⟨m0, es0, he, hes0⟩, hs, hi⟩
    simp only at hv he hs
    subst hv he
    have hvf := hs.facts
    simp at hs hi hes0 hvf
    simp (dsimp := false) [splice, hvf, rc, Ck.cells]
    obtain ⟨i1, i2, i3, i4⟩ := hi
    refine say_fin (q := (qSack r c).1) (c := (qSack r c).2) (vp := vp) (vc := vc) (vg := vg) (vd := vd) ?_ ⟨swap4 hs.sp i1, swap4 hs.sc i2, swap4 hs.sg i3, swap4 hs.sd i4⟩ ?_
    · intro y hy
      simp only [List.mem_append, List.mem_map] at hy
      rcases hy with hy | ⟨_, -, rfl⟩ | ⟨_, -, rfl⟩ | ⟨_, -, rfl⟩ | ⟨_, -, rfl⟩
      · have := hes0 y.1 y.2 hy
        omega
      all_goals (simp only; omega)
    · intro u hu
      simp only [List.mem_cons, List.not_mem_nil, or_false] at hu
      rcases hu with rfl | rfl | rfl | rfl
      · exact i1.le (by omega)
      · exact i2.le (by omega)
      · exact i3.le (by omega)
      · exact i4.le (by omega)
  by_cases tb : isBeat c.typ = true
  · have hk : qKind c.typ = 4 := by
      unfold isBeat at tb
      simp only [Bool.or_eq_true, decide_eq_true_eq] at tb
      rcases tb with h | h <;> rw [h] <;> rfl
    rw [qSays, if_neg t0, if_neg ti, if_neg t3, if_pos tb]
    simp only
    unfold Pm.cells at hPT
    by_cases c1 : (qParam r).1.e = 0
    · have c1' := eq_true c1
      by_cases c2 : (qParam r).2.typ = 1
      · have c2' := eq_true c2
        rw [if_neg (fun h => h.2 c2)]
        simp (dsimp := false) [-run_groupK, run_join, hg, splice, hKi, hk, hPT, c1', c2']
        refine (W_anyF (F := [(2, 3)]) (by kernel_rfl)).2 ?_
        simp (dsimp := false) [splice]
        refine (W_anyF (F := [(1, 2)]) (by kernel_rfl)).2 ?_
        simp (dsimp := false) [splice]
        exact hpl _ _ hp hc hg' hd
      · have c2' := eq_false c2
        rw [if_pos ⟨c1, c2⟩]
        simp (dsimp := false) [-run_groupK, run_join, hg, splice, hKi, hk, hPT, c1', c2']
        refine (W_anyF (F := [(2, 1), (2, 3)]) (by kernel_rfl)).2 ?_
        simp (dsimp := false) [splice, hF, RS_eta]
        exact hpl _ _ hp hc hg' hd
    · have c1' := eq_false c1
      rw [if_neg (fun h => c1 h.1)]
      simp (dsimp := false) [-run_groupK, run_join, hg, splice, hKi, hk, hPT, c1']
      refine (W_anyF (F := [(2, 3)]) (by kernel_rfl)).2 ?_
      simp (dsimp := false) [splice]
      refine (W_anyF (F := [(1, 2)]) (by kernel_rfl)).2 ?_
      simp (dsimp := false) [splice]
      exact hpl _ _ hp hc hg' hd
  by_cases te : isErr c.typ = true
  · have hk : qKind c.typ = 6 := by
      unfold isErr at te
      simp only [Bool.or_eq_true, decide_eq_true_eq] at te
      rcases te with h | h <;> rw [h] <;> rfl
    rw [qSays, if_neg t0, if_neg ti, if_neg t3, if_neg tb, if_pos te]
    simp (dsimp := false) [hg, hKi, hk]
    refine (rdoc_params hr).mono ?_
    rintro ⟨x1, x2⟩ ⟨v, hv, ⟨m0, es0, he, hes0⟩, hs, hi⟩
    simp only at hv he hs
    subst hv he
    have hvf := hs.facts
    simp at hs hi hes0 hvf
    simp (dsimp := false) [splice, rc]
    have hln := qPars_len r
    generalize qPars r = X at *
    refine W_loopM (fun k σ h' => ∃ i vc m es0, k = X.2.length - i ∧ i ≤ X.2.length ∧ h' = ⟨h.blks ++ (⟨[.str r.s, .int .i64 r.e], 0, 0, false⟩ :: ⟨[.int .i64 c.typ, .int .i64 c.flags, .int .u32 c.tsn, .int .i64 c.stream, .int .i64 c.ssn, .int .u32 c.proto, .str c.data, .int .u32 c.tag, .int .u32 c.rwnd, .int .i64 c.out, .int .i64 c.inn, .nils, vc, .nils, .nils], 0, 0, false⟩ :: ⟨[.str [], .int .i64 0], 0, 0, false⟩ :: ⟨ck0.cells .nils .nils .nils .nils, 0, 0, false⟩ :: (m0 ++ ⟨[.str X.1.s, .int .i64 X.1.e], 0, 0, false⟩ :: m)), es0⟩ ∧
      σ 2 = .ptr h.blks.length 0 0 2 ∧ σ 3 = .ptr (h.blks.length + 1) 0 0 15 ∧ σ 4 = .ptr (h.blks.length + 2) 0 0 2 ∧ σ 5 = .ptr (h.blks.length + 3) 0 0 15 ∧ σ 13 = .ptr (h.blks.length + (m0.length + 1 + 1 + 1 + 1)) 0 0 2 ∧ σ 14 = v ∧ σ 15 = .int .i64 i ∧
      Sl h' 2 i ((X.2.take i).flatMap Pm.cells) vc ∧ OwnF (h.blks.length + (m0.length + 5)) h' 2 i vc ∧ (∀ y ∈ es0, h.blks.length ≤ y.1)) ?_ X.2.length _ _ ?_
    · rintro _ σ _ ⟨i, vc, m, es1, rfl, hi1, rfl, h2, h3, h4, h5, h13, h14, h15, hs1, ho, he⟩
      have hlen := hs.len Tryz.underlying27
      simp (dsimp := false) [h2, h13, h14, h15, hlen, ck0, Ck.cells]
      split
      · rename_i hlt
        have hi16 : i + 1 ≤ 16 := by omega
        have hi1 : i + 1 ≤ 70368744177664 := Nat.le_trans hi16 (by decide)
        have hi2 : (i + 1) * 24 ≤ 70368744177664 := Nat.le_trans (Nat.mul_le_mul_right 24 hi16) (by decide)
        have hs2 := (swap4 (a' := ⟨[.str r.s, .int .i64 r.e], 0, 0, false⟩) (b' := ⟨[.int .i64 c.typ, .int .i64 c.flags, .int .u32 c.tsn, .int .i64 c.stream, .int .i64 c.ssn, .int .u32 c.proto, .str c.data, .int .u32 c.tag, .int .u32 c.rwnd, .int .i64 c.out, .int .i64 c.inn, .nils, vc, .nils, .nils], 0, 0, false⟩) (c' := ⟨[.str [], .int .i64 0], 0, 0, false⟩) (d' := ⟨ck0.cells .nils .nils .nils .nils, 0, 0, false⟩) (es' := es1) hs hi).app (m := ⟨[.str X.1.s, .int .i64 X.1.e], 0, 0, false⟩ :: m) (es' := es1)
        obtain ⟨p, pf, hia, -, hfa, hrf⟩ := hs2.atF Pm.cells_len
        have hx := hrf i hlt 0 (by decide) _ (Ext.refl _)
        have hy := hrf i hlt 1 (by decide) _ (Ext.refl _)
        have hia := hia i hlt
        have hfa := hfa i hlt
        simp only [Pm.cells] at hx hy
        simp (dsimp := false) [ck0, Ck.cells] at hx hy
        have hf := hs1.facts
        simp at hf
        obtain ⟨v', M, ha, hv'⟩ := grow4p (eb := 24) (ys := X.2[i].cells) hs1 ho (Pm.cells_len _) Nat.two_pos rfl hi2 hi1 (fun b => rfl) (h.blks.length + (m0.length + (m.length + 1) + 1 + 1 + 1 + 1)) (by omega)
        simp (dsimp := false) [Pm.cells, ck0, Ck.cells] at ha
        have hvf := (hv' ⟨[], 0, 0, false⟩ []).1.facts
        simp at hvf
        refine (W_anyF (F := [(1, 13)]) (by kernel_rfl)).2 ?_
        simp (dsimp := false) [h2, h3, h4, h5, h13, h14, h15, hia, hfa, hx, hy, splice, ha, hvf]
        refine ⟨X.2.length - (i + 1), by omega, i + 1, rfl, by omega, v', M, _, ⟨⟨rfl, rfl, rfl⟩, rfl⟩, by rw [wrap_succ hlt (by omega)], ?_, (hv' _ _).2, ?_⟩
        · rw [flat_take hlt]
          exact (hv' _ _).1
        · intro a b hab
          rcases List.mem_append.1 hab with hab | hab
          · exact he _ hab
          · obtain ⟨_, -, hab⟩ := List.mem_map.1 hab
            injection hab with h1 h2
            omega
      · obtain rfl : i = X.2.length := by omega
        have hvcH := ho.hi
        have hf := hs1.facts
        simp at hf
        simp
        refine (W_anyF (F := [(1, 2)]) (by kernel_rfl)).2 ?_
        simp (dsimp := false) [h2, h3, h4, h5, splice, hf]
        refine say_fin (q := X.1) (vp := .nils) (vc := vc) (vg := .nils) (vd := .nils) ?_ ⟨?_, ?_, ?_, ?_⟩ ?_
        · intro y hy
          simp only [List.mem_append, List.mem_map] at hy
          rcases hy with hy | ⟨_, -, rfl⟩
          · exact he y hy
          all_goals (simp only; omega)
        · simp only [hp]; exact Sl.nil _ 2
        · simp only
          rw [List.take_length] at hs1
          exact swap4 hs1 (hvcH.le (by omega))
        · simp only [hg']; exact Sl.nil _ 2
        · simp only [hd]; exact Sl.nil _ 1
        · intro v hv
          simp only [List.mem_cons, List.not_mem_nil, or_false] at hv
          rcases hv with rfl | rfl | rfl | rfl
          · exact Hi.nils
          · exact hvcH.le (by omega)
          · exact Hi.nils
          · exact Hi.nils
    · exact ⟨0, .nils, [], es0, by simp (dsimp := false) [Sl.nil, OwnF.nil, ck0, Ck.cells]; exact fun a b hab => Nat.le_trans (by omega) (hes0 a b hab)⟩
  by_cases t7 : c.typ = 7
  · have hk : qKind c.typ = 7 := by rw [t7]; rfl
    rw [qSays, if_neg t0, if_neg ti, if_neg t3, if_neg tb, if_neg te, if_pos t7]
    simp (dsimp := false) [hg, splice, hKi, hk, hN4, RS_eta, w4]
    refine (W_anyF (F := [(1, 2)]) (by kernel_rfl)).2 ?_
    simp (dsimp := false) [splice]
    exact hpl _ _ hp hc hg' hd
  by_cases tc : isConf c.typ = true
  · have hk : qKind c.typ = 16 := by
      unfold isConf at tc
      simp only [Bool.or_eq_true, decide_eq_true_eq, or_assoc] at tc
      rcases tc with h | h | h <;> rw [h] <;> rfl
    rw [qSays, if_neg t0, if_neg ti, if_neg t3, if_neg tb, if_neg te, if_neg t7, if_pos tc]
    have hl1 : (qTk 4 r).s.length ≤ 4000000000000000000 := Nat.le_trans (qTk_le _ _) hr
    simp (dsimp := false) [hg, splice, hKi, hk, hN4, RS_eta, w4]
    refine (rdoc_params hl1).mono ?_
    rintro ⟨x1, x2⟩ ⟨v, hv, ⟨m0, es0, he, hes0⟩, hs, hi⟩
    simp only at hv he hs
    subst hv he
    have hvf := hs.facts
    simp at hs hi hes0 hvf
    simp (dsimp := false) [splice, hvf, rc]
    refine (W_anyF (F := [(1, 2)]) (by kernel_rfl)).2 ?_
    simp (dsimp := false) [splice, hvf]
    have hi' : Hi (h.blks.length + 4) v := hi.le (by omega)
    refine say_fin (q := (qPars (qTk 4 r)).1) (vp := v) (vc := .nils) (vg := .nils) (vd := .nils) ?_ ⟨swap4 hs hi', ?_, ?_, ?_⟩ ?_
    · intro y hy
      simp only [List.mem_append, List.mem_map] at hy
      rcases hy with hy | ⟨_, -, rfl⟩ | ⟨_, -, rfl⟩
      · have := hes0 y.1 y.2 hy
        omega
      all_goals (simp only; omega)
    · simp only [hc]; exact Sl.nil _ 2
    · simp only [hg']; exact Sl.nil _ 2
    · simp only [hd]; exact Sl.nil _ 1
    · intro u hu
      simp only [List.mem_cons, List.not_mem_nil, or_false] at hu
      rcases hu with rfl | rfl | rfl | rfl
      · exact hi.le (by omega)
      all_goals exact Hi.nils
  by_cases tr : isBare c.typ = true
  · have hk : qKind c.typ = 8 := by
      unfold isBare at tr
      simp only [Bool.or_eq_true, decide_eq_true_eq, or_assoc] at tr
      rcases tr with h | h | h <;> rw [h] <;> rfl
    rw [qSays, if_neg t0, if_neg ti, if_neg t3, if_neg tb, if_neg te, if_neg t7, if_neg tc, if_pos tr]
    simp (dsimp := false) [hg, hKi, hk]
    refine (W_anyF (F := [(1, 2)]) (by kernel_rfl)).2 ?_
    simp (dsimp := false) [splice]
    exact hpl _ _ hp hc hg' hd
  by_cases t15 : c.typ = 15
  · have hk : qKind c.typ = 15 := by rw [t15]; rfl
    rw [qSays, if_neg t0, if_neg ti, if_neg t3, if_neg tb, if_neg te, if_neg t7, if_neg tc, if_neg tr, if_pos t15]
    simp (dsimp := false) [hg, splice, hKi, hk, hN2, hT, RS_eta, w2]
    refine (W_anyF (F := [(1, 2)]) (by kernel_rfl)).2 ?_
    simp (dsimp := false) [splice]
    exact hpl _ _ hp hc hg' hd
  · have hk : qKind c.typ = 10 ∨ qKind c.typ = 20 := by
      unfold isInit at ti
      unfold isBeat at tb
      unfold isErr at te
      unfold isConf at tc
      unfold isBare at tr
      simp only [Bool.or_eq_true, decide_eq_true_eq] at ti tb te tc tr
      unfold qKind
      repeat' split
      all_goals omega
    rw [qSays, if_neg t0, if_neg ti, if_neg t3, if_neg tb, if_neg te, if_neg t7, if_neg tc, if_neg tr, if_neg t15]
    rcases hk with hk | hk
    all_goals
      simp (dsimp := false) [hg, splice, hKi, hk, hT, RS_eta]
      refine (W_anyF (F := [(1, 2)]) (by kernel_rfl)).2 ?_
      simp (dsimp := false) [splice]
      exact hpl _ _ hp hc hg' hd
end
end Go.Proofs.YtklbbjfbcibghaaGreat
end
section
/-! The document's chunks: one is taken. -/
namespace Go.Proofs.YtklbbjfbcibghaaGreat
open Go.Hl
set_option maxHeartbeats 2000000
variable {C : CallT}
def qChunk (r : RS) : RS × Ck :=
  let r2 := qTk 1 (qTk 1 r)
  let r3 := qTk 2 r2
  let n : Int := (qNum 2 r2 : Nat)
  let r4 := if r3.e = 0 ∧ n < 4 then qFail 3 r3 else r3
  let r5 := qTk (n - 4) r4
  if r5.e ≠ 0 then (r5, ck0) else
  let r6 := qWhole n r5
  if r6.e ≠ 0 then (r6, ck0) else
  let x := qSays ⟨qGot (n - 4) r4, 0⟩ { ck0 with typ := (qNum 1 r : Nat), flags := (qNum 1 (qTk 1 r) : Nat) }
  let y := if x.1.e = 0 ∧ qKind x.2.typ = 3 ∧ rising x.2.gaps = false then qFail 3 x.1 else x.1
  if qEnd y ≠ 0 then (qFail (qEnd y) r6, ck0) else
  if qMay x.2 = false then (qFail 3 r6, ck0) else (r6, x.2)
theorem qTk_le' (n : Int) (r : RS) : (qTk n r).s.length ≤ r.s.length := by
  unfold qTk qFail
  repeat' split
  all_goals simp
theorem qGot_le' (n : Int) (r : RS) : (qGot n r).length ≤ r.s.length := by
  unfold qGot
  repeat' split
  all_goals simp
  exact Nat.min_le_right _ _
theorem qGot_len' (n : Int) (r : RS) : (qGot n r).length ≤ n.toNat := by
  unfold qGot
  repeat' split
  all_goals simp
  exact Nat.min_le_left _ _
theorem qNum2_lt' (r : RS) : qNum 2 r < 65536 := by
  refine Nat.lt_of_lt_of_le (numB_lt _) ?_
  exact Nat.pow_le_pow_right (n := 256) (by decide) (qGot_len' 2 r)
theorem qNum1_lt' (r : RS) : qNum 1 r < 256 := by
  refine Nat.lt_of_lt_of_le (numB_lt _) ?_
  exact Nat.pow_le_pow_right (n := 256) (by decide) (qGot_len' 1 r)
theorem qParam_le' (r : RS) : (qParam r).2.val.length ≤ r.s.length := by
  have h2 : (qTk 2 (qTk 2 r)).s.length ≤ r.s.length := Nat.le_trans (qTk_le' 2 _) (qTk_le' 2 r)
  have key : ∀ (q : RS) n, q.s.length ≤ r.s.length → (qGot n q).length ≤ r.s.length := fun q n h => Nat.le_trans (qGot_le' n q) h
  unfold qParam
  simp only
  generalize qTk 2 (qTk 2 r) = r2 at *
  generalize hn : ((qNum 2 (qTk 2 r) : Nat) : Int) = n
  have h3 : (qFail 3 r2).s.length ≤ r.s.length := by
    unfold qFail
    split
    · simp
    · exact h2
  split
  all_goals split
  all_goals first | exact Nat.zero_le _ | skip
  all_goals split
  all_goals first | exact Nat.zero_le _ | skip
  · exact key _ _ h3
  · exact key _ _ h2
theorem qAll_len' (s : Bs) : (qAll s).1.length ≤ 16 := by
  have key : ∀ k r out, out.length ≤ 16 → (qLoop k r out).1.length ≤ 16 := by
    intro k
    induction k with
    | zero => intro r out h; exact h
    | succ k ih =>
      intro r out h
      unfold qLoop
      split
      · split
        · exact Nat.zero_le _
        · exact ih _ _ (by simp; omega)
      · split
        · exact Nat.zero_le _
        · exact h
  exact key 17 _ [] (by simp)
theorem qPars_len' (r : RS) : (qPars r).2.length ≤ 1000000 := by
  unfold qPars
  simp only
  split
  · simp
  · exact Nat.le_trans (qAll_len' _) (by decide)
theorem qGaps_lt (k : Nat) (r : RS) : ∀ g ∈ (qGaps k r).1, g.1 < 65536 := by
  induction k with
  | zero => simp (dsimp := false) [qGaps]
  | succ k ih =>
    intro g hg
    simp only [qGaps, List.mem_append, List.mem_singleton] at hg
    rcases hg with hg | rfl
    · exact ih g hg
    · have := qNum2_lt' (qGaps k r).2
      simp only
      omega
theorem qSays_small {r : RS} (hs : r.s.length ≤ 65536) {c : Ck} (hp : c.params = []) (hc : c.causes = []) (hg : c.gaps = []) (hd : c.dups = []) (h0 : c.data = []) : CkSmall (qSays r c).2 := by
  have tk1 : ∀ (n : Int) (q : RS), q.s.length ≤ r.s.length → (qTk n q).s.length ≤ r.s.length := fun n q h => Nat.le_trans (qTk_le' n q) h
  have e1 : ∀ (n : Int) (q : RS), q.s.length ≤ r.s.length → (qGot n q).length ≤ 1000000 := fun n q h => by
    have := qGot_le' n q
    omega
  have e2 : ∀ q : RS, (qPars q).2.length ≤ 1000000 := qPars_len'
  have e3 : (qParam r).2.val.length ≤ 1000000 := by
    have := qParam_le' r
    omega
  have z : (0 : Nat) ≤ 1000000 := by decide
  have c0 : CkSmall c := ⟨by simp only [hp]; exact z, by simp only [hc]; exact z, by simp only [hg]; exact z, by simp only [hd]; exact z, by simp only [h0]; exact z⟩
  unfold qSays
  simp only
  split
  · exact ⟨c0.lp, c0.lc, c0.lg, c0.ld, e1 _ _ (tk1 _ _ (tk1 _ _ (tk1 _ _ (tk1 _ _ (Nat.le_refl _)))))⟩
  split
  · exact ⟨e2 _, c0.lc, c0.lg, c0.ld, c0.ls⟩
  split
  · unfold qSack
    simp only
    split
    · exact c0
    · rename_i hgd
      exact ⟨c0.lp, c0.lc, by simp only [qGaps_len]; omega, by simp only [qDups_len]; omega, c0.ls⟩
  split
  · split
    · exact c0
    · exact ⟨c0.lp, c0.lc, c0.lg, c0.ld, e3⟩
  split
  · exact ⟨c0.lp, e2 _, c0.lg, c0.ld, c0.ls⟩
  split
  · exact ⟨c0.lp, c0.lc, c0.lg, c0.ld, c0.ls⟩
  split
  · exact ⟨e2 _, c0.lc, c0.lg, c0.ld, c0.ls⟩
  split
  · exact c0
  split
  · exact ⟨c0.lp, c0.lc, c0.lg, c0.ld, e1 _ _ (tk1 _ _ (tk1 _ _ (Nat.le_refl _)))⟩
  · exact ⟨c0.lp, c0.lc, c0.lg, c0.ld, e1 _ _ (Nat.le_refl _)⟩
theorem qSays_gaps {r : RS} {c : Ck} (hg : c.gaps = []) : ∀ g ∈ (qSays r c).2.gaps, g.1 ≤ 9223372036854775807 := by
  have c0 : ∀ g ∈ c.gaps, g.1 ≤ 9223372036854775807 := by rw [hg]; simp
  unfold qSays
  simp only
  split
  · exact c0
  split
  · exact c0
  split
  · unfold qSack
    simp only
    split
    · exact c0
    · intro g h
      have := qGaps_lt _ _ g h
      omega
  split
  · split
    · exact c0
    · exact c0
  repeat' split
  all_goals exact c0
section
variable {h : H}
attribute [local irreducible] qTk qGot qNum qFail qSays qWhole
theorem say_fin0 {m : List Blk} {es : List (Nat × Nat)} {q : RS} (hes : ∀ y ∈ es, h.blks.length ≤ y.1) :
    SayPost h q ck0 (.tup [.agg (rc q), .agg (ck0.cells .nils .nils .nils .nils)], leave h ⟨h.blks ++ m, es⟩ (.tup [.agg (rc q), .agg (ck0.cells .nils .nils .nils .nils)])) :=
  say_fin hes ⟨Sl.nil _ 2, Sl.nil _ 2, Sl.nil _ 2, Sl.nil _ 1⟩ (by simp (dsimp := false) [Hi.nils])
theorem rdoc6_Take {r : RS} (hr : r.s.length ≤ 4000000000000000000) : Ok (Does Tryz.prog C 47 [.agg (rc r)] h) (SayPost h (qChunk r).1 (qChunk r).2) := by
  have hN1 : ∀ (s : Bs) (e : Int) h, Does Tryz.prog C 46 [.agg [.str s, .int .i64 e], .int .i64 1] h = some (.tup [.agg (rc (qTk 1 ⟨s, e⟩)), .int .u64 (qNum 1 ⟨s, e⟩ : Nat)], h) := fun s e h => rdoc_Num (r := ⟨s, e⟩) (by decide)
  have hN2 : ∀ (s : Bs) (e : Int) h, Does Tryz.prog C 46 [.agg [.str s, .int .i64 e], .int .i64 2] h = some (.tup [.agg (rc (qTk 2 ⟨s, e⟩)), .int .u64 (qNum 2 ⟨s, e⟩ : Nat)], h) := fun s e h => rdoc_Num (r := ⟨s, e⟩) (by decide)
  have hT : ∀ (s : Bs) (e n : Int) h, Does Tryz.prog C 78 [.agg [.str s, .int .i64 e], .int .i64 n] h = some (.tup [.agg (rc (qTk n ⟨s, e⟩)), .str (qGot n ⟨s, e⟩)], h) := fun s e n h => rdoc_Take (r := ⟨s, e⟩) n
  have hF : ∀ (s : Bs) (e x : Int) h, Does Tryz.prog C 79 [.agg [.str s, .int .i64 e], .int .i64 x] h = some (.agg (rc (qFail x ⟨s, e⟩)), h) := fun s e x h => rdoc_Fail (h := h) (r := ⟨s, e⟩) x
  have hE : ∀ (s : Bs) (e : Int) h, Does Tryz.prog C 84 [.agg [.str s, .int .i64 e]] h = some (.int .i64 (qEnd ⟨s, e⟩), h) := fun s e h => rdoc_End (h := h) (r := ⟨s, e⟩)
  have hKi := fun h t => rdoc_Kind (C := C) (h := h) t
  have hn2 := qNum2_lt' (qTk 1 (qTk 1 r))
  have hQ : qChunk r = qChunk r := rfl
  conv at hQ => rhs; unfold qChunk
  simp only at hQ
  obtain ⟨r3, hr3⟩ : ∃ r3, qTk 2 (qTk 1 (qTk 1 r)) = r3 := ⟨_, rfl⟩
  have hl3 : r3.s.length ≤ 4000000000000000000 := by
    rw [← hr3]
    exact Nat.le_trans (qTk_le' _ _) (Nat.le_trans (qTk_le' _ _) (Nat.le_trans (qTk_le' _ _) hr))
  obtain ⟨n, hn⟩ : ∃ n, qNum 2 (qTk 1 (qTk 1 r)) = n := ⟨_, rfl⟩
  obtain ⟨fl, hfl⟩ : ∃ f, qNum 1 (qTk 1 r) = f := ⟨_, rfl⟩
  obtain ⟨ty, hty⟩ : ∃ f, qNum 1 r = f := ⟨_, rfl⟩
  have hfl1 : fl < 256 := by
    rw [← hfl]
    exact qNum1_lt' _
  have hty1 : ty < 256 := by
    rw [← hty]
    exact qNum1_lt' _
  rw [hn] at hn2
  rw [hr3, hn, hfl, hty] at hQ
  have wn : IntKind.i64.wrap (n : Int) = n := wrap_i64 (by omega) (by omega)
  have wn4 : IntKind.i64.wrap ((n : Int) - 4) = (n : Int) - 4 := wrap_i64 (by omega) (by omega)
  have wfl : IntKind.i64.wrap (fl : Int) = fl := wrap_i64 (by omega) (by omega)
  have wty : IntKind.i64.wrap (ty : Int) = ty := wrap_i64 (by omega) (by omega)
  have hpl := fun (q : RS) => say_plain (h := h) (q := q) (c := ck0) rfl rfl rfl rfl
  unfold rc Ck.cells at *
  refine Does_wp (n := 102) (rs := [.cell 2 100, .cell 3 32]) Tryz.func47 (by kernel_rfl) rfl rfl rfl (by simp) fun σ hg => ?_
  by_cases c1 : r3.e = 0 ∧ (n : Int) < 4
  · rw [if_pos c1] at hQ
    have e5 : qTk ((n : Int) - 4) (qFail 3 r3) = qFail 3 r3 := qTk_bad (by unfold qFail; rw [if_pos c1.1]; decide)
    have e6 : (qFail 3 r3).e ≠ 0 := by unfold qFail; rw [if_pos c1.1]; decide
    have e6' := eq_false e6
    rw [e5, if_pos e6] at hQ
    rw [hQ]
    have c11 := eq_true c1.1
    have c12 := eq_true c1.2
    simp (dsimp := false) [-run_groupK, run_join, hg, splice, hN1, hN2, hT, hF, RS_eta, hr3, hn, hfl, hty, wn, wn4, c11, c12, e5, e6']
    exact hpl _
  rw [if_neg c1] at hQ
  obtain ⟨r5, h5⟩ : ∃ r5, qTk ((n : Int) - 4) r3 = r5 := ⟨_, rfl⟩
  obtain ⟨s, hs⟩ : ∃ s, qGot ((n : Int) - 4) r3 = s := ⟨_, rfl⟩
  have hl5 : r5.s.length ≤ 4000000000000000000 := by
    rw [← h5]
    exact Nat.le_trans (qTk_le' _ _) hl3
  have hsl : s.length ≤ 65536 := by
    rw [← hs]
    have := qGot_len' ((n : Int) - 4) r3
    omega
  rw [h5, hs] at hQ
  by_cases c5 : r5.e = 0
  · have c3 : r3.e = 0 := by
      refine Classical.byContradiction fun h => ?_
      rw [qTk_bad h] at h5
      rw [h5] at h
      exact h c5
    have cn : ¬ (n : Int) < 4 := fun h => c1 ⟨c3, h⟩
    rw [if_neg (fun h => h c5)] at hQ
    have hW := fun h => rdoc_Whole (C := C) (h := h) (r := r5) (n := (n : Int)) hl5
    unfold rc at hW
    obtain ⟨r6, h6⟩ : ∃ r6, qWhole (n : Int) r5 = r6 := ⟨_, rfl⟩
    rw [h6] at hQ hW
    have c3' := eq_true c3
    have cn' := eq_false cn
    have c5' := eq_true c5
    by_cases c6 : r6.e = 0
    · have c6' := eq_true c6
      rw [if_neg (fun h => h c6)] at hQ
      have key := fun H => rdoc_says (C := C) (h := H) (r := ⟨s, 0⟩) (c := { ck0 with typ := (ty : Nat), flags := (fl : Nat) }) (by simp only; omega) rfl rfl rfl rfl
      have hsm := qSays_small (r := ⟨s, 0⟩) hsl (c := { ck0 with typ := (ty : Nat), flags := (fl : Nat) }) rfl rfl rfl rfl rfl
      have hgp := qSays_gaps (r := ⟨s, 0⟩) (c := { ck0 with typ := (ty : Nat), flags := (fl : Nat) }) rfl
      generalize qSays ⟨s, 0⟩ { ck0 with typ := (ty : Nat), flags := (fl : Nat) } = X at *
      obtain ⟨ri, c⟩ := X
      unfold rc Ck.cells at key
      simp only [ck0] at key hQ hsm hgp
      simp (dsimp := false) [-run_groupK, run_join, hg, splice, hN1, hN2, hT, RS_eta, hr3, hn, hfl, hty, wn, wn4, wfl, wty, c3', cn', h5, hs, c5', hW, c6']
      refine (key _).mono ?_
      rintro ⟨x1, x2⟩ ⟨vp, vc, vg, vd, hv, ⟨m0, es0, he, hes0⟩, hS, hi⟩
      simp only at hv he hS
      subst hv he
      have hS' := fun (x y : Blk) es' => hS.app (es' := es') [x, y]
      have hG := fun (x y : Blk) es' => rdoc_gaps (C := C) (hS' x y es').sg hsm.lg hgp
      have hM := fun (x y : Blk) es' => rdoc_May (C := C) (hS' x y es') hsm hgp
      have hf := hS.facts
      simp at hi hes0 hf hG hM hS'
      unfold Ck.cells at hM
      obtain ⟨i1, i2, i3, i4⟩ := hi
      unfold rc Ck.cells
      simp (dsimp := false) [-run_groupK, run_join, splice, hF, hE, RS_eta, hKi, hG, hM, hf]
      split
      · rename_i cy
        rw [show (if ri.e = 0 ∧ qKind c.typ = 3 ∧ rising c.gaps = false then qFail 3 ri else ri) = qFail 3 ri from if_pos ⟨cy.1.1, cy.1.2, cy.2⟩] at hQ
        split
        · rename_i ce
          rw [if_neg (fun h => h ce)] at hQ
          split
          · rename_i cm
            rw [cm, if_neg (by simp)] at hQ
            rw [hQ]
            refine (W_anyF (F := [(1, 2)]) (by kernel_rfl)).2 ?_
            simp (dsimp := false) [splice, hf]
            refine say_fin (q := r6) (c := c) (vp := vp) (vc := vc) (vg := vg) (vd := vd) ?_ ⟨swap4 (hS' _ _ []).sp (i1.le (by omega)), swap4 (hS' _ _ []).sc (i2.le (by omega)), swap4 (hS' _ _ []).sg (i3.le (by omega)), swap4 (hS' _ _ []).sd (i4.le (by omega))⟩ ?_
            · intro y hy
              simp only [List.mem_append, List.mem_map] at hy
              rcases hy with hy | ⟨_, -, rfl⟩ | ⟨_, -, rfl⟩ | ⟨_, -, rfl⟩ | ⟨_, -, rfl⟩ | ⟨_, -, rfl⟩ | ⟨_, -, rfl⟩ | ⟨_, -, rfl⟩ | ⟨_, -, rfl⟩
              · have := hes0 y.1 y.2 hy
                omega
              all_goals (simp only; omega)
            · intro u hu
              simp only [List.mem_cons, List.not_mem_nil, or_false] at hu
              rcases hu with rfl | rfl | rfl | rfl
              · exact i1.le (by omega)
              · exact i2.le (by omega)
              · exact i3.le (by omega)
              · exact i4.le (by omega)
          · rename_i cm
            simp only [Bool.not_eq_true] at cm
            rw [cm, if_pos rfl] at hQ
            rw [hQ]
            refine say_fin0 (q := qFail 3 r6) ?_
            intro y hy
            simp only [List.mem_append, List.mem_map] at hy
            rcases hy with hy | ⟨_, -, rfl⟩ | ⟨_, -, rfl⟩ | ⟨_, -, rfl⟩ | ⟨_, -, rfl⟩
            · have := hes0 y.1 y.2 hy
              omega
            all_goals (simp only; omega)
        · rename_i ce
          rw [if_pos ce] at hQ
          rw [hQ]
          refine say_fin0 (q := qFail _ r6) ?_
          intro y hy
          simp only [List.mem_append, List.mem_map] at hy
          rcases hy with hy | ⟨_, -, rfl⟩ | ⟨_, -, rfl⟩ | ⟨_, -, rfl⟩ | ⟨_, -, rfl⟩
          · have := hes0 y.1 y.2 hy
            omega
          all_goals (simp only; omega)
      · rename_i cy
        rw [show (if ri.e = 0 ∧ qKind c.typ = 3 ∧ rising c.gaps = false then qFail 3 ri else ri) = ri from if_neg (fun h => cy ⟨⟨h.1, h.2.1⟩, h.2.2⟩)] at hQ
        split
        · rename_i ce
          rw [if_neg (fun h => h ce)] at hQ
          split
          · rename_i cm
            rw [cm, if_neg (by simp)] at hQ
            rw [hQ]
            refine (W_anyF (F := [(1, 2)]) (by kernel_rfl)).2 ?_
            simp (dsimp := false) [splice, hf]
            refine say_fin (q := r6) (c := c) (vp := vp) (vc := vc) (vg := vg) (vd := vd) ?_ ⟨swap4 (hS' _ _ []).sp (i1.le (by omega)), swap4 (hS' _ _ []).sc (i2.le (by omega)), swap4 (hS' _ _ []).sg (i3.le (by omega)), swap4 (hS' _ _ []).sd (i4.le (by omega))⟩ ?_
            · intro y hy
              simp only [List.mem_append, List.mem_map] at hy
              rcases hy with hy | ⟨_, -, rfl⟩ | ⟨_, -, rfl⟩ | ⟨_, -, rfl⟩ | ⟨_, -, rfl⟩ | ⟨_, -, rfl⟩ | ⟨_, -, rfl⟩ | ⟨_, -, rfl⟩ | ⟨_, -, rfl⟩
              · have := hes0 y.1 y.2 hy
                omega
              all_goals (simp only; omega)
            · intro u hu
              simp only [List.mem_cons, List.not_mem_nil, or_false] at hu
              rcases hu with rfl | rfl | rfl | rfl
              · exact i1.le (by omega)
              · exact i2.le (by omega)
              · exact i3.le (by omega)
              · exact i4.le (by omega)
          · rename_i cm
            simp only [Bool.not_eq_true] at cm
            rw [cm, if_pos rfl] at hQ
            rw [hQ]
            refine say_fin0 (q := qFail 3 r6) ?_
            intro y hy
            simp only [List.mem_append, List.mem_map] at hy
            rcases hy with hy | ⟨_, -, rfl⟩ | ⟨_, -, rfl⟩ | ⟨_, -, rfl⟩ | ⟨_, -, rfl⟩
            · have := hes0 y.1 y.2 hy
              omega
            all_goals (simp only; omega)
        · rename_i ce
          rw [if_pos ce] at hQ
          rw [hQ]
          refine say_fin0 (q := qFail _ r6) ?_
          intro y hy
          simp only [List.mem_append, List.mem_map] at hy
          rcases hy with hy | ⟨_, -, rfl⟩ | ⟨_, -, rfl⟩ | ⟨_, -, rfl⟩ | ⟨_, -, rfl⟩
          · have := hes0 y.1 y.2 hy
            omega
          all_goals (simp only; omega)
    · have c6' := eq_false c6
      rw [if_pos c6] at hQ
      rw [hQ]
      simp (dsimp := false) [-run_groupK, run_join, hg, splice, hN1, hN2, hT, RS_eta, hr3, hn, hfl, hty, wn, wn4, c3', cn', h5, hs, c5', hW, c6']
      exact hpl _
  · have c5' := eq_false c5
    rw [if_pos c5] at hQ
    rw [hQ]
    by_cases c3 : r3.e = 0
    · have cn : ¬ (n : Int) < 4 := fun h => c1 ⟨c3, h⟩
      have c3' := eq_true c3
      have cn' := eq_false cn
      simp (dsimp := false) [-run_groupK, run_join, hg, splice, hN1, hN2, hT, RS_eta, hr3, hn, hfl, hty, wn, wn4, c3', cn', h5, hs, c5']
      exact hpl _
    · have c3' := eq_false c3
      simp (dsimp := false) [-run_groupK, run_join, hg, splice, hN1, hN2, hT, RS_eta, hr3, hn, hfl, hty, wn, wn4, c3', h5, hs, c5']
      exact hpl _
end
end Go.Proofs.YtklbbjfbcibghaaGreat
end
section
namespace Go.Proofs.YtklbbjfbcibghaaGreat
open Go.Hl
set_option maxHeartbeats 2000000
variable {C : CallT}
/-- A chunk in a row of chunks: where its lists are. -/
structure El where
  c : Ck
  vp : V
  vc : V
  vg : V
  vd : V
def El.cells (e : El) : List V := e.c.cells e.vp e.vc e.vg e.vd
theorem El.cells_len (e : El) : e.cells.length = 15 := rfl
def El.ok (h : H) (e : El) : Prop := CkIs h e.c e.vp e.vc e.vg e.vd
structure CksIs (h : H) (l : List El) (v : V) : Prop where
  sl : Sl h 15 l.length (l.flatMap El.cells) v
  el : ∀ e ∈ l, e.ok h
theorem CksIs.app {l : List Blk} {es es' : List (Nat × Nat)} {L : List El} {v : V} (s : CksIs ⟨l, es⟩ L v) (m : List Blk) : CksIs ⟨l ++ m, es'⟩ L v := ⟨s.sl.app, fun e he => (s.el e he).app m⟩
theorem CksIs.blks {h h' : H} {L : List El} {v : V} (s : CksIs h L v) (hb : h.blks = h'.blks) : CksIs h' L v := ⟨s.sl.blks hb, fun e he => (s.el e he).blks hb⟩
def el0 : El := ⟨ck0, .nils, .nils, .nils, .nils⟩
def firstE : List El → Int → El
  | [], _ => el0
  | e :: l, t => if e.c.typ = t then e else firstE l t
def hasE : List El → Int → Bool
  | [], _ => false
  | e :: l, t => if e.c.typ = t then true else hasE l t
def aloneT (t : Int) : Bool := decide (t = 1) || (decide (t = 2) || decide (t = 14))
def anyAlone : List Ck → Bool
  | [] => false
  | c :: l => if aloneT c.typ = true then true else anyAlone l
def togetherP (f t tag : Int) (l : List Ck) : Bool :=
  if f < 1 ∨ 65536 ≤ f ∨ t < 1 ∨ 65536 ≤ t ∨ l.length = 0 ∨ 20 < l.length then false
  else if anyAlone l = true ∧ 1 < l.length then false
  else decide (tag = 0) == decide ((l.headD default).typ = 1)
def mirroredP (l : List Ck) : Bool := match l with
  | [] => false
  | c :: _ => (decide (c.typ = 6) || decide (c.typ = 9) || decide (c.typ = 14)) && decide (c.flags % 2 ≠ 0)
def sizeP (l : List Ck) : Int := 12 + ((l.flatMap Ck.put).length : Int)
section
variable {h : H}
theorem and_1 (x : Int) : bitsOp .and .i64 x 1 = some (x % 2) := by
  have h3 : (BitVec.ofInt 64 1).toNat = 1 := by decide
  have h : (BitVec.ofInt 64 x &&& BitVec.ofInt 64 1).toNat = (x % 2).toNat := by
    rw [BitVec.toNat_and, h3]
    have h2 : ∀ m : Nat, m &&& 1 = m % 2 := fun m => by
      simp
    rw [h2, BitVec.toNat_ofInt]
    have e64 : (((2 ^ 64 : Nat)) : Int) = 18446744073709551616 := by decide
    rw [e64]
    omega
  show some (IntKind.i64.wrap ((BitVec.ofInt 64 x &&& BitVec.ofInt 64 1).toNat : Int)) = _
  rw [h, wrap_i64 (by omega) (by omega)]
  congr 1
  omega
theorem packet_alone {e : El} (hc : e.ok h) : Does Tryz.prog C 104 [.agg e.cells] h = some (.bool (aloneT e.c.typ), h) := by
  have hf := hc.facts
  unfold El.cells Ck.cells
  refine Does_eq (n := 16) (rs := [.tmp 2]) Tryz.func104 (by kernel_rfl) rfl rfl rfl (by simp) fun σ hg => ?_
  by_cases a : e.c.typ = 1
  · simp (dsimp := false) [hg, hf, a, aloneT]
  by_cases b : e.c.typ = 2
  · simp (dsimp := false) [hg, hf, b, aloneT]
  · simp (dsimp := false) [hg, hf, a, b, aloneT]
theorem packet_Mirrored {l : List El} {v : V} {f t tag : Int} (hs : CksIs h l v) : Does Tryz.prog C 40 [.agg [.int .i64 f, .int .i64 t, .int .u32 tag, v]] h = some (.bool (mirroredP (l.map El.c)), h) := by
  have hlen := hs.sl.len Tryz.underlying33
  have hf := hs.sl.facts
  refine Does_eq (n := 22) (rs := [.tmp 2]) Tryz.func40 (by kernel_rfl) rfl rfl rfl (by simp) fun σ hg => ?_
  cases l with
  | nil => 
    simp at hlen
    simp (dsimp := false) [hg, hlen, hf, mirroredP]
  | cons e l =>
    obtain ⟨p, hia, hrd, -⟩ := (hs.sl.blks (h' := ⟨h.blks, []⟩) rfl).at El.cells_len
    have hi0 := hia 0 (by simp)
    have hr0 := hrd 0 (by simp)
    have hef := (hs.el e (by simp)).facts
    simp only [List.getElem_cons_zero, El.cells, Ck.cells] at hr0
    simp at hlen hi0
    have hne : ¬ ((l.length : Int) + 1 = 0) := by omega
    have ho : bitsOp .and .i64 e.c.flags 1 = some (e.c.flags % 2) := and_1 _
    by_cases a : e.c.typ = 6
    · simp (dsimp := false) [hg, splice, hlen, hf, mirroredP, hne, hi0, hr0 _ Ext.app, hef, a, ho]
    by_cases b : e.c.typ = 9
    · simp (dsimp := false) [hg, splice, hlen, hf, mirroredP, hne, hi0, hr0 _ Ext.app, hef, b, ho]
    by_cases c : e.c.typ = 14
    · simp (dsimp := false) [hg, splice, hlen, hf, mirroredP, hne, hi0, hr0 _ Ext.app, hef, c, ho]
    · simp (dsimp := false) [hg, splice, hlen, hf, mirroredP, hne, hi0, hr0 _ Ext.app, hef, a, b, c]
theorem packet_First {l : List El} {v : V} {f t tag ty : Int} (hs : CksIs h l v) (hl : l.length ≤ 1000000) :
    Does Tryz.prog C 34 [.agg [.int .i64 f, .int .i64 t, .int .u32 tag, v], .int .i64 ty] h = some (.tup [.agg (firstE l ty).cells, .bool (hasE l ty)], h) := by
  have hlen := hs.sl.len Tryz.underlying33
  have hf := hs.sl.facts
  obtain ⟨p, hia, hrd, -⟩ := (hs.sl.blks (h' := ⟨h.blks, []⟩) rfl).at El.cells_len
  refine Does_eq (n := 22) (rs := [.cell 4 32, .tmp 5]) Tryz.func34 (by kernel_rfl) rfl rfl rfl (by simp) fun σ hg => ?_
  simp (dsimp := false) [hg, hlen, hf]
  refine W_loopM (fun k σ h' => ∃ i : Nat, ∃ m, k = l.length - i ∧ i ≤ l.length ∧ h' = ⟨h.blks ++ (⟨[.int .i64 f, .int .i64 t, .int .u32 tag, v], 0, 0, false⟩ :: ⟨ck0.cells .nils .nils .nils .nils, 0, 0, false⟩ :: m), []⟩ ∧
    σ 1 = .int .i64 ty ∧ σ 4 = .ptr (h.blks.length + 1) 0 0 15 ∧ σ 9 = v ∧ σ 10 = .int .i64 l.length ∧ σ 11 = .int .i64 i ∧ firstE l ty = firstE (l.drop i) ty ∧ (hasE l ty) = hasE (l.drop i) ty) ?_ l.length _ _ ?_
  · rintro _ σ _ ⟨i, m, rfl, hi, rfl, h1, h4, h9, h10, h11, hF, hA⟩
    simp (dsimp := false) [h4, h9, h10, h11, ck0, Ck.cells, splice]
    split
    · rename_i hlt
      have hr0 := hrd i hlt
      have hef := (hs.el l[i] (List.getElem_mem hlt)).facts
      simp only [El.cells, Ck.cells] at hr0
      rw [List.drop_eq_getElem_cons hlt] at hF hA
      by_cases a : l[i].c.typ = ty
      · have hF' : firstE l ty = l[i] := by rw [hF, firstE, if_pos a]
        have hA' : (hasE l ty) = true := by rw [hA, hasE, if_pos a]
        rw [hF', hA']
        simp (dsimp := false) [h1, h4, hia i hlt, hr0 _ Ext.app, splice, hef, a, El.cells, Ck.cells]
      · have hF' : firstE l ty = firstE (l.drop (i + 1)) ty := by rw [hF, firstE, if_neg a]
        have hA' : (hasE l ty) = hasE (l.drop (i + 1)) ty := by rw [hA, hasE, if_neg a]
        simp (dsimp := false) [h1, h4, h9, h10, h11, hia i hlt, hr0 _ Ext.app, splice, hef, a, wrap_succ hlt (by omega)]
        exact ⟨_, by omega, i + 1, rfl, by omega, rfl, by simp, hF', hA'⟩
    · obtain rfl : i = l.length := by omega
      have hF' : firstE l ty = el0 := by rw [hF]; simp (dsimp := false) [firstE]
      have hA' : (hasE l ty) = false := by rw [hA]; simp (dsimp := false) [hasE]
      rw [hF', hA']
      simp (dsimp := false) [ck0, Ck.cells, El.cells, el0]
  · exact ⟨0, [], by simp (dsimp := false) [ck0, Ck.cells, hg]⟩
theorem put_lt {c : Ck} (hl : CkSmall c) : c.put.length ≤ 2000000100 := by
  have := body_lt hl
  unfold Ck.put
  split
  · simp (dsimp := false) [filled_len, be2_len, padN]
    omega
  · simp
theorem puts_le {l : List Ck} (hl : ∀ c ∈ l, CkSmall c) : (l.flatMap Ck.put).length ≤ l.length * 2000000100 := by
  induction l with
  | nil => simp
  | cons c l ih =>
    have h1 := ih (fun c hc => hl c (List.mem_cons_of_mem _ hc))
    have h2 := put_lt (hl c (List.mem_cons_self ..))
    rw [List.flatMap_cons, List.length_append, List.length_cons, Nat.add_mul]
    omega
theorem sizeP_le {l : List Ck} (hl : ∀ c ∈ l, CkSmall c) : sizeP l ≤ 12 + l.length * 2000000100 := by
  have := puts_le hl
  unfold sizeP
  omega
theorem sizeP_succ {l : List Ck} {i : Nat} (h : i < l.length) : sizeP (l.take (i + 1)) = sizeP (l.take i) + l[i].put.length := by
  rw [List.take_succ_eq_append_getElem h]
  unfold sizeP
  rw [List.flatMap_append, List.length_append, List.flatMap_singleton]
  omega
end
end Go.Proofs.YtklbbjfbcibghaaGreat
end
section
namespace Go.Proofs.YtklbbjfbcibghaaGreat
open Go.Hl
set_option maxHeartbeats 2000000
variable {C : CallT}
section
variable {h : H}
theorem anyAlone_drop {l : List Ck} {i : Nat} (h : i < l.length) : anyAlone (l.drop i) = if aloneT l[i].typ = true then true else anyAlone (l.drop (i + 1)) := by
  rw [List.drop_eq_getElem_cons h, anyAlone]
theorem packet_together {l : List El} {v : V} {f t tag : Int} (hs : CksIs h l v) (hl : l.length ≤ 1000000) :
    Does Tryz.prog C 71 [.agg [.int .i64 f, .int .i64 t, .int .u32 tag, v]] h = some (.bool (togetherP f t tag (l.map El.c)), h) := by
  have hlen := hs.sl.len Tryz.underlying33
  have hf := hs.sl.facts
  have hs' := hs.blks (h' := ⟨h.blks, []⟩) rfl
  obtain ⟨p, pf, hia, hrd, hfa, hrf⟩ := hs'.sl.atF El.cells_len
  refine Does_eq (n := 61) (rs := [.tmp 2]) Tryz.func71 (by kernel_rfl) rfl rfl rfl (by simp) fun σ hg => ?_
  have hz : ((l.length : Int) = 0) = (l.length = 0) := propext (by omega)
  have h20 : (20 < (l.length : Int)) = (20 < l.length) := propext (by omega)
  by_cases hl0 : l.length = 0
  · have hne : l = [] := List.length_eq_zero_iff.1 hl0
    simp (dsimp := false) [-run_groupK, run_join, hg, hlen, hf, hl0]
    rw [togetherP, if_pos (by simp only [List.length_map]; omega)]
  simp (dsimp := false) [-run_groupK, run_join, hg, hlen, hf, hl0, h20, -List.length_eq_zero_iff]
  split
  · rename_i c1
    rw [togetherP, if_pos (by simp only [List.length_map]; omega)]
  · rename_i c1
    have c1' : ¬ (f < 1 ∨ 65536 ≤ f ∨ t < 1 ∨ 65536 ≤ t ∨ (l.map El.c).length = 0 ∨ 20 < (l.map El.c).length) := by simp only [List.length_map]; omega
    refine W_loopM (fun k σ h' => ∃ i : Nat, ∃ m, k = l.length - i ∧ i ≤ l.length ∧ h' = ⟨h.blks ++ (⟨[.int .i64 f, .int .i64 t, .int .u32 tag, v], 0, 0, false⟩ :: m), []⟩ ∧
      σ 1 = .ptr h.blks.length 0 0 4 ∧ σ 36 = v ∧ σ 37 = .int .i64 l.length ∧ σ 38 = .int .i64 i ∧ ((anyAlone (l.map El.c) = true ∧ 1 < l.length) ↔ (anyAlone ((l.map El.c).drop i) = true ∧ 1 < l.length))) ?_ l.length _ _ ?_
    · rintro _ σ _ ⟨i, m, rfl, hi, rfl, h1, h36, h37, h38, hA⟩
      simp (dsimp := false) [h36, h37, h38]
      split
      · rename_i hlt
        have hr0 := hrd i hlt
        have hok := hs.el l[i] (List.getElem_mem hlt)
        have hef := hok.facts
        have hP := fun m => packet_alone (C := C) (e := l[i]) (h := ⟨h.blks ++ m, []⟩) (CkIs.app (es' := []) hok m)
        simp only [El.cells, Ck.cells] at hr0 hP
        have hd := anyAlone_drop (l := l.map El.c) (i := i) (by simpa using hlt)
        rw [List.getElem_map] at hd
        simp (dsimp := false) [-run_groupK, run_join, h1, h36, h37, h38, hia i hlt, hr0 _ Ext.app, splice, hef, hP, hlen, wrap_succ hlt (by omega)]
        split
        · rename_i c2
          rw [hd, if_pos c2.1] at hA
          have : 1 < l.length := by omega
          rw [togetherP, if_neg c1', if_pos]
          simp only [List.length_map]
          exact hA.2 ⟨rfl, this⟩
        · rename_i c2
          refine ⟨_, by omega, i + 1, rfl, by omega, by simp, fun h1 => ?_⟩
          have ha : ¬ aloneT l[i].c.typ = true := fun h => c2 ⟨h, by omega⟩
          rw [hd, if_neg ha] at hA
          simp only [h1, and_true] at hA
          rw [Bool.eq_iff_iff]
          exact hA
      · obtain rfl : i = l.length := by omega
        have hn : ¬ (anyAlone (l.map El.c) = true ∧ 1 < (l.map El.c).length) := by
          rw [List.length_map, hA]
          rw [List.drop_of_length_le (by simp)]
          simp (dsimp := false) [anyAlone]
        rw [togetherP, if_neg c1', if_neg hn]
        cases l with
        | nil => exact absurd rfl hl0
        | cons e l =>
          have hi0 := hia 0 (by simp)
          have hr := hrf 0 (by simp) 0 (by decide)
          have hq := hfa 0 (by simp)
          simp only [List.getElem_cons_zero, El.cells, Ck.cells] at hr
          simp at hi0 hr hq
          refine (W_anyF (F := []) (by kernel_rfl)).2 ?_
          simp (dsimp := false) [h1, hi0, hr _ Ext.app, hq]
    · exact ⟨0, [], by simp⟩
end
end Go.Proofs.YtklbbjfbcibghaaGreat
end
section
namespace Go.Proofs.YtklbbjfbcibghaaGreat
open Go.Hl
set_option maxHeartbeats 4000000
variable {C : CallT}
section
variable {h : H}
def ckSame (c d : Ck) : Bool := decide (c.typ = d.typ ∧ c.flags = d.flags ∧ c.tsn = d.tsn ∧ c.stream = d.stream ∧ c.ssn = d.ssn ∧ c.proto = d.proto ∧ c.data = d.data ∧ c.tag = d.tag ∧ c.rwnd = d.rwnd ∧ c.out = d.out ∧ c.inn = d.inn ∧ c.params = d.params ∧ c.causes = d.causes ∧ c.gaps = d.gaps ∧ c.dups = d.dups)
theorem ckSame_iff (c d : Ck) : ckSame c d = true ↔ c = d := by
  unfold ckSame
  rw [decide_eq_true_eq]
  cases c
  cases d
  simp
def isStruct (P : Program) (t : TypeId) : Bool := match P.underlying t with
  | some (.struct _) => true
  | _ => false
theorem bin_neq_agg {P : Program} {t : TypeId} {sh : List Leaf} {a b : List V} {r : Bool} (h1 : isStruct P t = true) (h2 : flatSh P 100 t = some sh) (h3 : P.eqGuardType P.depth t = false) (ha : fits sh a = true) (hb : fits sh b = true) (hc : cellsEq a b = some r) :
    binV P .neq t (.agg a) (.agg b) = some (.bool !r) := by
  unfold isStruct at h1
  have h4 : eqOp P t (.agg a) (.agg b) = some r := by
    unfold eqOp
    split at h1
    · rename_i fs hu
      rw [hu]
      simp only [h2, h3, ha, hb, hc]
      rfl
    · cases h1
  unfold binV
  simp only [h4]
  rfl
def leafI (P : Program) (t : TypeId) : Bool := match P.info? t, P.underlying t with
  | some i, some (.int _) => decide (i.size = 1)
  | _, _ => false
def leafS (P : Program) (t : TypeId) : Bool := match P.info? t, P.underlying t with
  | some i, some .string => decide (i.size = 1)
  | _, _ => false
def two (P : Program) (t x y : TypeId) : Bool := match P.info? t, P.underlying t with
  | some i, some (.struct fs) => !P.stoodInHeld t && decide (i.size = 2) && match fs.toList with
    | [f, g] => decide (f.name ≠ "_") && decide (f.offset = 0) && decide (f.type = x) && decide (g.name ≠ "_") && decide (g.offset = 1) && decide (g.type = y)
    | _ => false
  | _, _ => false
theorem flat_I {P : Program} {t : TypeId} (h : leafI P t = true) (d : Nat) : flatSh P (d + 1) t = some [.i] := by
  unfold leafI at h
  split at h
  · rename_i i k hi hu
    rw [flatSh, hi, hu]
    simp only [of_decide_eq_true h, if_true]
  · cases h
theorem flat_S {P : Program} {t : TypeId} (h : leafS P t = true) (d : Nat) : flatSh P (d + 1) t = some [.s] := by
  unfold leafS at h
  split at h
  · rename_i i hi hu
    rw [flatSh, hi, hu]
    simp only [of_decide_eq_true h, if_true]
  · cases h
theorem flat_two {P : Program} {t x y : TypeId} {k k' : Leaf} {d : Nat} (h : two P t x y = true) (ha : flatSh P d x = some [k]) (hb : flatSh P d y = some [k']) : flatSh P (d + 1) t = some [k, k'] := by
  unfold two at h
  split at h
  · rename_i i fs hi hu
    rw [flatSh, hi, hu]
    simp only [Bool.and_eq_true, Bool.not_eq_true', decide_eq_true_eq] at h
    obtain ⟨⟨h1, h2⟩, h3⟩ := h
    split at h3
    · rename_i f g hfs
      simp only [Bool.and_eq_true, decide_eq_true_eq] at h3
      obtain ⟨⟨⟨⟨⟨n1, o1⟩, t1⟩, n2⟩, o2⟩, t2⟩ := h3
      simp (dsimp := false) [h1, hfs, flatSh.flatFs, n1, o1, t1, n2, o2, t2, ha, hb, h2]
    · cases h3
  · cases h
theorem pm_eq (a b : Pm) : cellsEq a.cells b.cells = some (decide (a = b)) := by
  cases a; cases b
  simp (dsimp := false) [Pm.cells, cellsEq, Pm.mk.injEq]
  rw [Bool.eq_iff_iff]; simp
theorem gap_eq (a b : Int × Int) : cellsEq (gapCells a) (gapCells b) = some (decide (a = b)) := by
  cases a; cases b
  simp (dsimp := false) [gapCells, cellsEq, Prod.mk.injEq]
  rw [Bool.eq_iff_iff]; simp
theorem ext_len {α : Type} {l m : List α} (hl : l.length = m.length) (h : ∀ j, j < l.length → l[j]? = m[j]?) : l = m := by
  refine List.ext_getElem? fun j => ?_
  by_cases hj : j < l.length
  · exact h j hj
  · rw [List.getElem?_eq_none (by omega), List.getElem?_eq_none (by omega)]
theorem not_dec {p : Prop} [Decidable p] : (!decide p) = decide (¬ p) := by simp
theorem param_neq (a b : Pm) : binV Tryz.prog .neq 47 (.agg a.cells) (.agg b.cells) = some (.bool (decide (a ≠ b))) := by
  rw [bin_neq_agg (sh := [.i, .s]) (by kernel_rfl) (flat_two (x := 3) (y := 9) (by kernel_rfl) (flat_I (by kernel_rfl) _) (flat_S (by kernel_rfl) _)) (by kernel_rfl) rfl rfl (pm_eq a b), not_dec]
theorem cause_neq (a b : Pm) : binV Tryz.prog .neq 44 (.agg a.cells) (.agg b.cells) = some (.bool (decide (a ≠ b))) := by
  rw [bin_neq_agg (sh := [.i, .s]) (by kernel_rfl) (flat_two (x := 3) (y := 9) (by kernel_rfl) (flat_I (by kernel_rfl) _) (flat_S (by kernel_rfl) _)) (by kernel_rfl) rfl rfl (pm_eq a b), not_dec]
theorem gap_neq (a b : Int × Int) : binV Tryz.prog .neq 143 (.agg (gapCells a)) (.agg (gapCells b)) = some (.bool (decide (a ≠ b))) := by
  rw [bin_neq_agg (sh := [.i, .i]) (by kernel_rfl) (flat_two (x := 3) (y := 3) (by kernel_rfl) (flat_I (by kernel_rfl) _) (flat_I (by kernel_rfl) _)) (by kernel_rfl) rfl rfl (gap_eq a b), not_dec]
end
end Go.Proofs.YtklbbjfbcibghaaGreat
end
section
/-! Hl: the check, bit by bit and by a table, in plain numbers. -/
namespace Go.Hl

def bitStep (c : Nat) : Nat := if c % 2 = 1 then c / 2 ^^^ 2197175160 else c / 2
def steps : Nat → Nat → Nat
  | 0, c => c
  | n + 1, c => steps n (bitStep c)
def eat (c b : Nat) : Nat := steps 8 (c ^^^ b)
def crcFrom (c : Nat) : List UInt8 → Nat
  | [] => c
  | b :: l => crcFrom (eat c b.toNat) l
def crcL (l : List UInt8) : Nat := crcFrom 4294967295 l ^^^ 4294967295

theorem crcFrom_nil (c : Nat) : crcFrom c [] = c := rfl
theorem steps_zero (c : Nat) : steps 0 c = c := rfl
theorem steps_succ : ∀ n c, steps (n + 1) c = bitStep (steps n c)
  | 0, _ => rfl
  | n + 1, c => steps_succ n (bitStep c)
theorem xor_lt {m n : Nat} (hm : m < 4294967296) (hn : n < 4294967296) : m ^^^ n < 4294967296 := Nat.xor_lt_two_pow (n := 32) hm hn
theorem bitStep_lt {c : Nat} (h : c < 4294967296) : bitStep c < 4294967296 := by
  unfold bitStep
  split
  · exact xor_lt (by omega) (by omega)
  · omega
theorem steps_lt : ∀ n {c : Nat}, c < 4294967296 → steps n c < 4294967296
  | 0, _, h => h
  | n + 1, _, h => steps_lt n (bitStep_lt h)
theorem eat_lt {c b : Nat} (h : c < 4294967296) (hb : b < 256) : eat c b < 4294967296 := steps_lt 8 (xor_lt h (by omega))
theorem crcFrom_lt : ∀ (l : List UInt8) {c : Nat}, c < 4294967296 → crcFrom c l < 4294967296
  | [], _, h => h
  | b :: l, _, h => crcFrom_lt l (eat_lt h b.toNat_lt)
theorem crcL_lt (l : List UInt8) : crcL l < 4294967296 := xor_lt (crcFrom_lt l (by omega)) (by omega)
theorem crcFrom_snoc : ∀ (l : List UInt8) (c : Nat) (b : UInt8), crcFrom c (l ++ [b]) = eat (crcFrom c l) b.toNat
  | [], _, _ => rfl
  | _ :: l, _, b => crcFrom_snoc l _ b

/-- A number that is even adds its half behind a step. -/
theorem bitStep_xor (a m : Nat) : bitStep (a ^^^ 2 * m) = bitStep a ^^^ m := by
  have h1 : (a ^^^ 2 * m) % 2 = a % 2 := by
    rw [Nat.xor_mod_two_pow (n := 1) (a := a) (b := 2 * m)] 
    simp
  have h2 : (a ^^^ 2 * m) / 2 = a / 2 ^^^ m := by
    rw [Nat.xor_div_two]
    simp
  unfold bitStep
  rw [h1, h2]
  split
  · rw [Nat.xor_assoc, Nat.xor_comm m, ← Nat.xor_assoc]
  · rfl
theorem steps_xor : ∀ n a m, steps n (a ^^^ 2 ^ n * m) = steps n a ^^^ m
  | 0, a, m => by simp [steps]
  | n + 1, a, m => by
    simp only [steps]
    rw [Nat.pow_succ, Nat.mul_comm (2 ^ n) 2, Nat.mul_assoc, bitStep_xor, steps_xor n]
theorem low_high (c : Nat) : c % 256 ^^^ 256 * (c / 256) = c := by
  have h : ∀ a b : Nat, a < 2 ^ 8 → a ^^^ 2 ^ 8 * b = 2 ^ 8 * b + a := fun a b ha => by
    rw [Nat.xor_comm, Nat.two_pow_add_eq_or_of_lt ha]
    apply Nat.eq_of_testBit_eq
    intro i
    simp only [Nat.testBit_xor, Nat.testBit_or, Nat.testBit_two_pow_mul]
    by_cases hi : i < 8
    · simp [Nat.not_le.2 hi]
    · have : a.testBit i = false := Nat.testBit_lt_two_pow (Nat.lt_of_lt_of_le ha (Nat.pow_le_pow_right (by omega) (by omega)))
      simp [this]
  rw [show (256 : Nat) = 2 ^ 8 from rfl, h _ _ (Nat.mod_lt _ (by decide))]
  omega
theorem eat_table (c b : Nat) : eat c b = steps 8 (c % 256 ^^^ b) ^^^ c / 256 := by
  unfold eat
  conv => lhs; rw [← low_high c]
  rw [Nat.xor_assoc, Nat.xor_comm (256 * _), ← Nat.xor_assoc]
  exact steps_xor 8 _ _
theorem step_odd {x : Nat} (h : x % 2 = 1) : bitStep x = x / 2 ^^^ 2197175160 := by simp [bitStep, h]
theorem step_even {x : Nat} (h : ¬ x % 2 = 1) : bitStep x = x / 2 := by simp [bitStep, h]
theorem crcFrom_take {s : List UInt8} {i : Nat} (c : Nat) (h : i < s.length) : crcFrom c (s.take (i + 1)) = eat (crcFrom c (s.take i)) s[i].toNat := by
  rw [← List.take_append_getElem h, crcFrom_snoc]
def crcTab : List Nat := [0, 4067132163, 3778769143, 324072436, 3348797215, 904991772, 648144872, 3570033899, 2329499855, 2024987596, 1809983544, 2575936315, 1296289744, 3207089363, 2893594407, 1578318884, 274646895, 3795141740, 4049975192, 51262619, 3619967088, 632279923, 922689671, 3298075524, 2592579488, 1760304291, 2075979607, 2312596564, 1562183871, 2943781820, 3156637768, 1313733451, 549293790, 3537243613, 3246849577, 871202090, 3878099393, 357341890, 102525238, 4101499445, 2858735121, 1477399826, 1264559846, 3107202533, 1845379342, 2677391885, 2361733625, 2125378298, 820201905, 3263744690, 3520608582, 598981189, 4151959214, 85089709, 373468761, 3827903834, 3124367742, 1213305469, 1526817161, 2842354314, 2107672161, 2412447074, 2627466902, 1861252501, 1098587580, 3004210879, 2688576843, 1378610760, 2262928035, 1955203488, 1742404180, 2511436119, 3416409459, 969524848, 714683780, 3639785095, 205050476, 4266873199, 3976438427, 526918040, 1361435347, 2739821008, 2954799652, 1114974503, 2529119692, 1691668175, 2005155131, 2247081528, 3690758684, 697762079, 986182379, 3366744552, 476452099, 3993867776, 4250756596, 255256311, 1640403810, 2477592673, 2164122517, 1922457750, 2791048317, 1412925310, 1197962378, 3037525897, 3944729517, 427051182, 170179418, 4165941337, 746937522, 3740196785, 3451792453, 1070968646, 1905808397, 2213795598, 2426610938, 1657317369, 3053634322, 1147748369, 1463399397, 2773627110, 4215344322, 153784257, 444234805, 3893493558, 1021025245, 3467647198, 3722505002, 797665321, 2197175160, 1889384571, 1674398607, 2443626636, 1164749927, 3070701412, 2757221520, 1446797203, 137323447, 4198817972, 3910406976, 461344835, 3484808360, 1037989803, 781091935, 3705997148, 2460548119, 1623424788, 1939049696, 2180517859, 1429367560, 2807687179, 3020495871, 1180866812, 410100952, 3927582683, 4182430767, 186734380, 3756733383, 763408580, 1053836080, 3434856499, 2722870694, 1344288421, 1131464017, 2971354706, 1708204729, 2545590714, 2229949006, 1988219213, 680717673, 3673779818, 3383336350, 1002577565, 4010310262, 493091189, 238226049, 4233660802, 2987750089, 1082061258, 1395524158, 2705686845, 1972364758, 2279892693, 2494862625, 1725896226, 952904198, 3399985413, 3656866545, 731699698, 4283874585, 222117402, 510512622, 3959836397, 3280807620, 837199303, 582374963, 3504198960, 68661723, 4135334616, 3844915500, 390545967, 1230274059, 3141532936, 2825850620, 1510247935, 2395924756, 2091215383, 1878366691, 2644384480, 3553878443, 565732008, 854102364, 3229815391, 340358836, 3861050807, 4117890627, 119113024, 1493875044, 2875275879, 3090270611, 1247431312, 2660249211, 1828433272, 2141937292, 2378227087, 3811616794, 291187481, 34330861, 4032846830, 615137029, 3603020806, 3314634738, 939183345, 1776939221, 2609017814, 2295496738, 2058945313, 2926798794, 1545135305, 1330124605, 3173225534, 4084100981, 17165430, 307568514, 3762199681, 888469610, 3332340585, 3587147933, 665062302, 2042050490, 2346497209, 2559330125, 1793573966, 3190661285, 1279665062, 1595330642, 2910671697]
theorem crcTab_steps : ∀ i, i < 256 → crcTab[i]? = some (steps 8 i) := by decide +kernel
end Go.Hl
end
section
namespace Go.Proofs.YtklbbjfbcibghaaGreat
open Go.Hl
set_option maxHeartbeats 1000000
variable {C : CallT}
def tabV : List V := crcTab.map fun n => .int .u32 (n : Nat)
theorem tabV_at {i : Nat} (h : i < 256) : tabV[i]? = some (.int .u32 ((Hl.steps 8 i : Nat) : Int)) := by
  simp (dsimp := false) [tabV, crcTab_steps i h]
theorem ti_arr : ti Tryz.prog 166 = some ⟨256, true, 1024, List.replicate 256 (.int .u32 0), .arr 256 1 false⟩ := by kernel_rfl
theorem tabV_len : tabV.length = 256 := by kernel_rfl
theorem tabV_ok : tabV.all V.cellOk = true := by kernel_rfl
theorem tabV_escs (b : Nat) : escs b tabV = [] := by kernel_rfl
theorem tabV_under (n : Nat) : V.under n (.agg tabV) = true := by kernel_rfl
theorem crcc_table (h : H) : Does Tryz.prog C 134 [] h = some (.agg tabV, h) := by
  refine Does_eq (n := 2) (rs := [.cell 0 166]) Tryz.func134 (by kernel_rfl) rfl rfl rfl (by simp) fun σ hg => ?_
  have ht := ti_arr
  have h0 : (List.replicate 256 (V.int .u32 0)).all V.cellOk = true := by kernel_rfl
  have h1 := tabV_len
  have h2 := tabV_ok
  have h3 := tabV_escs
  have h4 : Hl.splice (List.replicate 256 (V.int .u32 0)) 0 tabV = tabV := by kernel_rfl
  have h5 : tabV.take 256 = tabV := by kernel_rfl
  have h6 := tabV_under h.size
  generalize hz : List.replicate 256 (V.int .u32 0) = z at *
  have hzl : z.length = 256 := by rw [← hz]; exact List.length_replicate
  clear hz
  rw [W_seq, W_region]
  refine (run_cons).2 ((do_alloc' ht).2 ⟨h0, run_nil.2 ?_⟩)
  simp only [andThen_normal]
  rw [W_seq, W_region]
  refine (run_cons).2 ((do_pure rfl).2 (Ok.of (a := .agg tabV) (by kernel_rfl) ?_))
  refine (run_cons).2 ((do_store' ht).2 ?_)
  generalize tabV = tv at *
  simp (dsimp := false) [h1, hzl, h2, h4, ok_readVar ht, h5]
  refine leave_new (by simpa using h6) ?_
  simp
  exact fun _ _ => Nat.le_refl _
theorem crcc_Of (s : List UInt8) (h : H) (hs : s.length < 9223372036854775807) : Does Tryz.prog C 118 [.str s] h = some (.int .u32 (crcL s), h) := by
  refine Does_eq (n := 24) (rs := [.tmp 2]) Tryz.func118 (by kernel_rfl) rfl rfl rfl (by simp) fun σ hg => ?_
  simp (dsimp := false) [hg]
  refine W_loopM (fun n σ h' => ∃ i : Nat, n = s.length - i ∧ i ≤ s.length ∧ h' = ⟨h.blks, []⟩ ∧ σ 0 = .str s ∧ σ 6 = .int .i64 s.length ∧ σ 7 = .int .i64 i ∧ σ 3 = .int .u32 (crcFrom 4294967295 (s.take i))) ?_ s.length _ _ ?_
  · rintro _ σ _ ⟨i, rfl, hi, rfl, h0, h6, h7, h3⟩
    have hc := crcFrom_lt (s.take i) (c := 4294967295) (by omega)
    generalize hcc : crcFrom 4294967295 (s.take i) = c at h3 hc
    simp (dsimp := false) [h3, h6, h7]
    split
    · rename_i hlt
      have hb : s[i].toNat < 256 := s[i].toNat_lt
      obtain ⟨z72, ht72⟩ : ∃ z, ti Tryz.prog 166 = some ⟨256, true, 1024, z, .arr 256 1 false⟩ := ⟨_, ti_arr⟩
      have hx8 : c % 256 ^^^ s[i].toNat < 2 ^ 8 := Nat.xor_lt_two_pow (by omega) hb
      have hx := xor_u8 (m := c % 256) (n := s[i].toNat) (by omega) hb
      rw [show (((c % 256 : Nat) : Int)) = (c : Int) % 256 by simp] at hx
      have hst := steps_lt 8 (show c % 256 ^^^ s[i].toNat < 4294967296 by omega)
      have hy := xor_u32 (m := steps 8 (c % 256 ^^^ s[i].toNat)) (n := c / 256) hst (by omega)
      have hd : (c : Int).fdiv 256 = ((c / 256 : Nat) : Int) := by
        rw [Int.fdiv_eq_ediv_of_nonneg _ (by omega)]
        simp
      have hta := tabV_at (i := c % 256 ^^^ s[i].toNat) (by omega)
      have hlt256 : c % 256 ^^^ s[i].toNat < 256 := by omega
      have hlt256' : ((c % 256 ^^^ s[i].toNat : Nat) : Int) < 256 := by omega
      have hlt255 : c % 256 ^^^ s[i].toNat ≤ 255 := by omega
      have htb : ∀ hh : c % 256 ^^^ s[i].toNat < tabV.length, tabV[c % 256 ^^^ s[i].toNat]'hh = .int .u32 ((Hl.steps 8 (c % 256 ^^^ s[i].toNat) : Nat) : Int) := fun hh => by
        rw [List.getElem?_eq_getElem hh] at hta
        exact Option.some.inj hta
      have hcd : ((c / 256 : Nat) : Int) = (c : Int) / 256 := by omega
      rw [hcd] at hy hd
      have hw1 : IntKind.i64.wrap ((i : Int) + 1) = (i : Int) + 1 := wrap_i64 (by omega) (by omega)
      refine (W_anyL (by kernel_rfl) (by kernel_rfl)).2 ?_
      simp (dsimp := false) [h0, h3, h6, h7, do_index' ht72, tabV_len, shiftOp, IntKind.bits, crcc_table, hlt, wrap_u8, hx, hta, hd, hlt256', hlt255, hy, hw1]
      refine ⟨_, by omega, i + 1, rfl, by omega, by simp, ?_⟩
      rw [crcFrom_take _ hlt, hcc, eat_table]
    · obtain rfl : i = s.length := by omega
      rw [List.take_length] at hcc
      have hz := xor_u32 (m := c) (n := 4294967295) hc (by omega)
      rw [show ((4294967295 : Nat) : Int) = 4294967295 from rfl] at hz
      simp (dsimp := false) [h3, hz, crcL, hcc]
  · exact ⟨0, by simp (dsimp := false) [hg, crcFrom_nil]⟩
def le4 (c : Nat) : List UInt8 := [UInt8.ofNat c, UInt8.ofNat (c / 256), UInt8.ofNat (c / 65536), UInt8.ofNat (c / 16777216)]
theorem crcc_laid (c : Nat) (h : H) : Does Tryz.prog C 117 [.int .u32 c] h = some (.str (le4 c), h) := by
  refine Does_eq (n := 16) (rs := [.tmp 2]) Tryz.func117 (by kernel_rfl) rfl rfl rfl (by simp) fun σ hg => ?_
  have s8 : ∀ Q, Ok (shiftOp .shr .u32 (c : Int) 8) Q ↔ Q (.int .u32 ((c / 256 : Nat) : Int)) := fun Q => ok_shr (y := 8)
  have s16 : ∀ Q, Ok (shiftOp .shr .u32 (c : Int) 16) Q ↔ Q (.int .u32 ((c / 65536 : Nat) : Int)) := fun Q => ok_shr (y := 16)
  have s24 : ∀ Q, Ok (shiftOp .shr .u32 (c : Int) 24) Q ↔ Q (.int .u32 ((c / 16777216 : Nat) : Int)) := fun Q => ok_shr (y := 24)
  simp (dsimp := false) [-List.all_eq_true, splice, hg, b8_wrap, fdiv_pos]
  show [b8 _, b8 _, b8 _, b8 _] = [_, _, _, _]
  have e : ∀ n : Nat, b8 (n : Int) = UInt8.ofNat n := fun n => by
    unfold b8
    apply UInt8.toNat_inj.1
    simp
    omega
  have q1 : (c : Int) / 256 = ((c / 256 : Nat) : Int) := by omega
  have q2 : (c : Int) / 65536 = ((c / 65536 : Nat) : Int) := by omega
  have q3 : (c : Int) / 16777216 = ((c / 16777216 : Nat) : Int) := by omega
  rw [q1, q2, q3, e, e, e, e]
end Go.Proofs.YtklbbjfbcibghaaGreat
end
section
namespace Go.Proofs.YtklbbjfbcibghaaGreat
open Go.Hl
set_option maxHeartbeats 1000000
variable {C : CallT}
def zed (s : List UInt8) (k : Nat) : List UInt8 := s.take k ++ [0, 0, 0, 0] ++ s.drop (k + 4)
def sealL (s : List UInt8) (k : Nat) : List UInt8 := s.take k ++ le4 (crcL (zed s k)) ++ s.drop (k + 4)
theorem le4_len (c : Nat) : (le4 c).length = 4 := rfl
theorem zed_len {s : List UInt8} {k : Nat} (hk : k + 4 ≤ s.length) : (zed s k).length = s.length := by
  simp (dsimp := false) [zed]
  omega
theorem zed_take {s : List UInt8} {k : Nat} (hk : k + 4 ≤ s.length) : (zed s k).take k = s.take k := by
  unfold zed
  rw [List.append_assoc, List.take_left' (by simp; omega)]
theorem zed_drop {s : List UInt8} {k : Nat} (hk : k + 4 ≤ s.length) : (zed s k).drop (k + 4) = s.drop (k + 4) := by
  unfold zed
  rw [List.drop_left' (by simp; omega)]
theorem wrap_i64_nat {k : Nat} (m : Nat) (h : k + m < 9223372036854775808) : IntKind.i64.wrap ((k : Int) + (m : Int)) = ((k + m : Nat) : Int) := by
  rw [wrap_i64 (by omega) (by omega)]
  simp
theorem sealL_len {s : List UInt8} {k : Nat} (hk : k + 4 ≤ s.length) : (sealL s k).length = s.length := by
  simp (dsimp := false) [sealL, le4_len]
  omega
theorem crcc_zeroed (s : List UInt8) (k : Nat) (h : H) (hk : k + 4 ≤ s.length) (hs : s.length < 4611686018427387904) : Does Tryz.prog C 116 [.str s, .int .i64 k] h = some (.str (zed s k), h) := by
  have hw : IntKind.i64.wrap ((k : Int) + 4) = ((k + 4 : Nat) : Int) := by
    rw [wrap_i64 (by omega) (by omega)]
    simp
  have b1 : 0 ≤ (k : Int) := by omega
  have b2 : (k : Int) ≤ (s.length : Int) := by omega
  have b3 : (((k + 4 : Nat) : Int)) ≤ (s.length : Int) := by omega
  have b4 : 0 ≤ (((k + 4 : Nat) : Int)) := by omega
  refine Does_eq (n := 14) (rs := [.tmp 4]) Tryz.func116 (by kernel_rfl) rfl rfl rfl (by simp) fun σ hg => ?_
  refine W_seq.2 ?_
  simp
  refine (W_anyL (by kernel_rfl) (by kernel_rfl)).2 ?_
  simp (dsimp := false) [hg, hw, b1, b2]
  have e : ((k : Int) + 4).toNat = k + 4 := by omega
  refine ⟨by omega, ⟨by omega, by omega⟩, by omega, ?_⟩
  rw [e, zed]
  simp
theorem crcc_Seal0 (s : List UInt8) (at' : Int) (h : H) (hs : s.length < 4611686018427387904) (hk : at' < 0 ∨ (s.length : Int) - 4 < at') : Does Tryz.prog C 97 [.str s, .int .i64 at'] h = some (.str [], h) := by
  have hw : IntKind.i64.wrap ((s.length : Int) - 4) = (s.length : Int) - 4 := wrap_i64 (by omega) (by omega)
  refine Does_eq (n := 30) (rs := [.tmp 4]) Tryz.func97 (by kernel_rfl) rfl rfl rfl (by simp) fun σ hg => ?_
  simp (dsimp := false) [-run_groupK, run_join, hg, hw, hk]
theorem crcc_Seal (s : List UInt8) (k : Nat) (h : H) (hs : s.length < 4611686018427387904) (hk : k + 4 ≤ s.length) : Does Tryz.prog C 97 [.str s, .int .i64 k] h = some (.str (sealL s k), h) := by
  have hw : IntKind.i64.wrap ((s.length : Int) - 4) = (s.length : Int) - 4 := wrap_i64 (by omega) (by omega)
  have hw4 : IntKind.i64.wrap ((k : Int) + 4) = ((k + 4 : Nat) : Int) := wrap_i64_nat 4 (by omega)
  have c2 : ((s.length : Int) - 4 < (k : Int)) = False := eq_false (by omega)
  have hz := fun h => crcc_zeroed (C := C) s k h hk hs
  have hzl := zed_len hk
  have ho := fun h => crcc_Of (C := C) (zed s k) h (by omega)
  have hl := fun h => crcc_laid (C := C) (crcL (zed s k)) h
  have b1 : 0 ≤ (k : Int) := by omega
  have b2 : (k : Int) ≤ (s.length : Int) := by omega
  have b3 : (((k + 4 : Nat) : Int)) ≤ (s.length : Int) := by omega
  have b4 : 0 ≤ (((k + 4 : Nat) : Int)) := by omega
  refine Does_eq (n := 30) (rs := [.tmp 4]) Tryz.func97 (by kernel_rfl) rfl rfl rfl (by simp) fun σ hg => ?_
  simp (dsimp := false) [-run_groupK, run_join, hg, hw, c2, hz]
  refine (W_anyL (by kernel_rfl) (by kernel_rfl)).2 ?_
  simp (dsimp := false) [hg, hw4, ho, hl, hzl, b1, b2]
  have e : ((k : Int) + 4).toNat = k + 4 := by omega
  rw [e, le4_len, List.take_of_length_le (by omega : (zed s k).length ≤ s.length), zed_take hk, zed_drop hk]
  refine ⟨by omega, ⟨by omega, by omega⟩, by omega, ?_⟩
  simp (dsimp := false) [sealL]
theorem crcc_Sealed (s : List UInt8) (k : Nat) (h : H) (hs : s.length < 4611686018427387904) (hk : k + 4 ≤ s.length) : Does Tryz.prog C 67 [.str s, .int .i64 k] h = some (.bool (decide (sealL s k = s)), h) := by
  have h0 := fun h => crcc_Seal (C := C) s k h hs hk
  have he : s ≠ [] := fun x => by simp (dsimp := false) [x] at hk
  refine Does_eq (n := 14) (rs := [.tmp 4]) Tryz.func67 (by kernel_rfl) rfl rfl rfl (by simp) fun σ hg => ?_
  simp (dsimp := false) [hg, h0, he]
theorem rdoc_Of (s : List UInt8) (h : H) (hs : s.length < 9223372036854775807) : Does Tryz.prog C 66 [.str s] h = some (.int .u32 (crcL s), h) := by
  refine Does_eq (n := 33) (rs := [.tmp 2]) Tryz.func66 (by kernel_rfl) rfl rfl rfl (by simp) fun σ hg => ?_
  simp
  refine W_loopM (fun n σ h' => ∃ i : Nat, n = s.length - i ∧ i ≤ s.length ∧ h' = ⟨h.blks, []⟩ ∧ σ 0 = .str s ∧ σ 4 = .int .i64 i ∧ σ 3 = .int .u32 (crcFrom 4294967295 (s.take i))) ?_ s.length _ _ ?_
  · rintro _ σ _ ⟨i, rfl, hi, rfl, h0, h4, h3⟩
    have hc := crcFrom_lt (s.take i) (c := 4294967295) (by omega)
    generalize hcc : crcFrom 4294967295 (s.take i) = c at h3 hc
    simp (dsimp := false) [h0, h3, h4]
    split
    · rename_i hlt
      have hb : s[i].toNat < 256 := s[i].toNat_lt
      have hxor := xor_lt hc (by omega : s[i].toNat < 4294967296)
      have hx1 := xor_u32 (m := c) (n := s[i].toNat) hc (by omega)
      simp (dsimp := false) [h0, h3, h4, hlt, wrap_u32 (by omega : s[i].toNat < 4294967296), hx1]
      refine W_loopM (fun n σ h' => ∃ k : Nat, n = 8 - k ∧ k ≤ 8 ∧ h' = ⟨h.blks, []⟩ ∧ σ 0 = .str s ∧ σ 4 = .int .i64 i ∧ σ 5 = .int .i64 k ∧ σ 3 = .int .u32 (steps k (c ^^^ s[i].toNat))) ?_ 8 _ _ ?_
      · rintro _ σ _ ⟨k, rfl, hk, rfl, h0, h4, h5, h3⟩
        have hx := steps_lt k hxor
        generalize hxx : steps k (c ^^^ s[i].toNat) = x at h3 hx
        have hx2 : ((x / 2 : Nat) : Int) = (x : Int) / 2 := by omega
        have hw : IntKind.u32.wrap ((x : Int) / 2) = (x : Int) / 2 := by
          have := wrap_u32 (n := x / 2) (by omega)
          rwa [hx2] at this
        have hm : (x : Int).tmod 2 = ((x % 2 : Nat) : Int) := rfl
        have hz := xor_u32 (m := x / 2) (n := 2197175160) (by omega) (by omega)
        rw [show ((2197175160 : Nat) : Int) = 2197175160 from rfl, hx2] at hz
        have hm2 : ((x : Int).tmod 2 = 1) = (x % 2 = 1) := by rw [hm]; exact propext (by omega)
        have hk8' : ((k : Int) < 8) = (k < 8) := propext (by omega)
        have hwk : k < 8 → IntKind.i64.wrap ((k : Int) + 1) = ((k + 1 : Nat) : Int) := fun _ => by
          rw [wrap_i64 (by omega) (by omega)]
          simp
        have hwi : IntKind.i64.wrap ((i : Int) + 1) = ((i + 1 : Nat) : Int) := by
          rw [wrap_i64 (by omega) (by omega)]
          simp
        by_cases hk8 : k < 8
        · by_cases h2 : x % 2 = 1
          · simp (dsimp := false) [h0, h3, h4, h5, hk8', hk8, hw, hm2, h2, hz, hwk hk8]
            refine ⟨8 - (k + 1), by omega, k + 1, rfl, by omega, by simp, ?_⟩
            rw [steps_succ, hxx, step_odd h2]
          · simp (dsimp := false) [h0, h3, h4, h5, hk8', hk8, hw, hm2, h2, hwk hk8]
            refine ⟨8 - (k + 1), by omega, k + 1, rfl, by omega, by simp, ?_⟩
            rw [steps_succ, hxx, step_even h2, hx2]
        · obtain rfl : k = 8 := by omega
          simp (dsimp := false) [h0, h3, h4, h5, hwi]
          refine ⟨s.length - (i + 1), by omega, i + 1, rfl, by omega, by simp, ?_⟩
          rw [crcFrom_take _ hlt, hcc, ← hxx]
          rfl
      · exact ⟨0, by simp (dsimp := false) [h0, h4, steps_zero]⟩
    · obtain rfl : i = s.length := by omega
      rw [List.take_length] at hcc
      have hz := xor_u32 (m := c) (n := 4294967295) hc (by omega)
      rw [show ((4294967295 : Nat) : Int) = 4294967295 from rfl] at hz
      simp (dsimp := false) [h3, hz, crcL, hcc]
  · exact ⟨0, by simp (dsimp := false) [hg, crcFrom_nil]⟩
end Go.Proofs.YtklbbjfbcibghaaGreat
end
section
namespace Go.Proofs.YtklbbjfbcibghaaGreat
open Go.Hl
set_option maxHeartbeats 2000000
variable {C : CallT}
def putGo (s : Bs) : List Ck → Option Bs
  | [] => some s
  | c :: l => if c.put = [] ∨ 1400 - (s.length : Int) < c.put.length then none else putGo (s ++ c.put) l
def headB (f t tag : Int) : Bs := be2 f ++ be2 t ++ be4 tag ++ be4 0
/-- A packet's bytes, or none. -/
def putP (f t tag : Int) (l : List Ck) : Bs := if togetherP f t tag l = false then [] else match putGo (headB f t tag) l with
  | some s => sealL s 8
  | none => []
section
variable {h : H}
theorem putGo_drop {l : List Ck} {i : Nat} {s : Bs} (h : i < l.length) : putGo s (l.drop i) = if l[i].put = [] ∨ 1400 - (s.length : Int) < l[i].put.length then none else putGo (s ++ l[i].put) (l.drop (i + 1)) := by
  rw [List.drop_eq_getElem_cons h, putGo]
theorem packet_Put {l : List El} {v : V} {f t tag : Int} (hs : CksIs h l v) (hl : l.length ≤ 1000000) (hm : ∀ e ∈ l, CkSmall e.c) :
    Does Tryz.prog C 77 [.agg [.int .i64 f, .int .i64 t, .int .u32 tag, v]] h = some (.str (putP f t tag (l.map El.c)), h) := by
  have hlen := hs.sl.len Tryz.underlying33
  have hf := hs.sl.facts
  have hs' := hs.blks (h' := ⟨h.blks, []⟩) rfl
  obtain ⟨p, pf, hia, hrd, hfa, hrf⟩ := hs'.sl.atF El.cells_len
  have hto := fun m => packet_together (C := C) (f := f) (t := t) (tag := tag) (h := ⟨h.blks ++ m, []⟩) (hs'.app m) hl
  refine Does_eq (n := 48) (rs := [.tmp 2]) Tryz.func77 (by kernel_rfl) rfl rfl rfl (by simp) fun σ hg => ?_
  by_cases ht : togetherP f t tag (l.map El.c) = false
  · rw [putP, if_pos ht]
    simp (dsimp := false) [hg, hf, hto, ht]
  rw [putP, if_neg ht]
  simp only [Bool.not_eq_false] at ht
  simp (dsimp := false) [hg, hf, hto, ht]
  refine (W_anyF (F := [(4, 2), (8, 2), (8, 5)]) (by kernel_rfl)).2 ?_
  simp (dsimp := false) (contextual := true) [octet_U16, octet_U32, be2_len, be4_len, hlen]
  have hh : (headB f t tag).length = 12 := rfl
  refine W_loopM (fun k σ h' => ∃ i : Nat, ∃ m, ∃ s : Bs, k = l.length - i ∧ i ≤ l.length ∧ 12 ≤ s.length ∧ s.length ≤ 1400 ∧ h' = ⟨h.blks ++ m, []⟩ ∧ σ 3 = .str s ∧ σ 24 = v ∧ σ 25 = .int .i64 l.length ∧ σ 26 = .int .i64 i ∧ putGo (headB f t tag) (l.map El.c) = putGo s ((l.map El.c).drop i)) ?_ l.length _ _ ?_
  · rintro _ σ _ ⟨i, m, s, rfl, hi, hs12, hs14, rfl, h3, h24, h25, h26, hP⟩
    simp (dsimp := false) [h3, h24, h25, h26]
    split
    · rename_i hlt
      have hr0 := hrd i hlt
      have hok := hs'.el l[i] (List.getElem_mem hlt)
      have hef := hok.facts
      have hCP := fun m => chunk_Put (C := C) (CkIs.app (es' := []) hok m) (hm l[i] (List.getElem_mem hlt))
      have hpl := put_lt (hm l[i] (List.getElem_mem hlt))
      simp only [El.cells, Ck.cells] at hr0 hCP
      rw [putGo_drop (by simpa using hlt), List.getElem_map] at hP
      have hw : IntKind.i64.wrap (1400 - (s.length : Int)) = 1400 - (s.length : Int) := wrap_i64 (by omega) (by omega)
      simp (dsimp := false) [-run_groupK, run_join, h3, h24, h25, h26, hia i hlt, hr0 _ Ext.app, splice, hef, hCP, hw, wrap_succ hlt (by omega)]
      split
      · rename_i c2
        rw [if_pos c2] at hP
        rw [hP]
      · rename_i c2
        rw [if_neg c2] at hP
        simp only [not_or] at c2
        exact ⟨by omega, _, by omega, i + 1, rfl, by omega, _, s ++ l[i].c.put, by simp; omega, by simp; omega, rfl, rfl, by simp, hP⟩
    · obtain rfl : i = l.length := by omega
      have e : putGo (headB f t tag) (l.map El.c) = some s := by
        rw [hP, List.drop_of_length_le (by simp)]
        rfl
      have hS : ∀ h, Does Tryz.prog C 97 [.str s, .int .i64 8] h = some (.str (sealL s 8), h) := fun h => crcc_Seal (C := C) s 8 h (by omega) (by omega)
      rw [e]
      simp (dsimp := false) [h3, hS]
  · refine ⟨0, [_], headB f t tag, by simp, by simp, by omega, by omega, rfl, ?_⟩
    simp (dsimp := false) [headB]
end
end Go.Proofs.YtklbbjfbcibghaaGreat
end
