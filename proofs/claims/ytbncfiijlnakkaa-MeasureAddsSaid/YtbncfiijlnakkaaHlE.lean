/- Part 5 of the library and the walks that the law's proof stands on: no condition. -/
import Derived.Test.YtbncfiijlnakkaaHlD
import Derived.Test.YtbncfiijlnakkaaHlC
import Derived.ChangeArms
import Derived.DataReads
section
namespace Go.Proofs.Ytbncfiijlnakkaa
open Go.Hl
set_option maxHeartbeats 4000000
def qGetGo : Nat → RS → List Ck → RS × List Ck
  | 0, r, out => (r, out)
  | k + 1, r, out => if r.e = 0 ∧ 0 < r.s.length then if out.length = 20 then (qFail 5 r, out) else qGetGo k (qChunk r).1 (out ++ [(qChunk r).2]) else (r, out)
/-- The document's packet that bytes say; the error. -/
def qGetP (s : Bs) : Pk × Int :=
  if 1400 < s.length then (pk0, 5) else if s.length < 12 then (pk0, 2) else if sealL s 8 ≠ s then (pk0, 70) else
  let r1 := qTk 2 ⟨s, 0⟩
  let r2 := qTk 2 r1
  let x := qGetGo 21 (qTk 4 (qTk 4 r2)) []
  let p : Pk := ⟨(qNum 2 ⟨s, 0⟩ : Nat), (qNum 2 r1 : Nat), (qNum 4 r2 : Nat), x.2⟩
  if x.1.e ≠ 0 then (pk0, x.1.e) else if p.ok = false then (pk0, 3) else (p, 0)
def GetsP (g : Pk × Int) (h : H) (x : V × H) : Prop := ∃ u, x.1 = .tup [u, .int .i64 g.2] ∧ Ext h x.2 ∧ PkIs x.2 g.1 u
theorem getsP0 {h : H} {g : Pk × Int} {e : Int} (hg : g = (pk0, e)) : GetsP g h (.tup [.agg [.int .i64 0, .int .i64 0, .int .u32 0, .nils], .int .i64 e], h) := by
  subst hg
  exact ⟨.agg [.int .i64 0, .int .i64 0, .int .u32 0, .nils], rfl, Ext.refl h, .nils, [], rfl, ⟨Sl.nil h 15, by simp⟩, rfl⟩
theorem getsPE {h : H} {g : Pk × Int} {e : Int} {m : List Blk} {es : List (Nat × Nat)} (hg : g = (pk0, e)) (hes : ∀ y ∈ es, h.blks.length ≤ y.1) :
    GetsP g h (.tup [.agg [.int .i64 0, .int .i64 0, .int .u32 0, .nils], .int .i64 e], leave h ⟨h.blks ++ m, es⟩ (.tup [.agg [.int .i64 0, .int .i64 0, .int .u32 0, .nils], .int .i64 e])) := by
  subst hg
  exact ⟨.agg [.int .i64 0, .int .i64 0, .int .u32 0, .nils], rfl, leave_ext hes, .nils, [], rfl, ⟨Sl.nil _ 15, by simp⟩, rfl⟩
theorem qFail_le' (x : Int) (r : RS) : (qFail x r).s.length ≤ r.s.length := by
  unfold qFail
  split <;> simp
theorem qChunk_le (r : RS) : (qChunk r).1.s.length ≤ r.s.length := by
  have h3 : (qTk 2 (qTk 1 (qTk 1 r))).s.length ≤ r.s.length := Nat.le_trans (qTk_le' _ _) (Nat.le_trans (qTk_le' _ _) (qTk_le' _ _))
  unfold qChunk
  simp only
  generalize qTk 2 (qTk 1 (qTk 1 r)) = r3 at *
  have h4 : ∀ n : Int, ∀ c : Prop, ∀ [Decidable c], (qTk n (if c then qFail 3 r3 else r3)).s.length ≤ r.s.length := fun n c _ => by
    refine Nat.le_trans (qTk_le' _ _) ?_
    split
    · exact Nat.le_trans (qFail_le' _ _) h3
    · exact h3
  have h5 := h4 ((qNum 2 (qTk 1 (qTk 1 r)) : Nat) - 4) (r3.e = 0 ∧ ((qNum 2 (qTk 1 (qTk 1 r)) : Nat) : Int) < 4)
  generalize qTk ((qNum 2 (qTk 1 (qTk 1 r)) : Nat) - 4) (if r3.e = 0 ∧ ((qNum 2 (qTk 1 (qTk 1 r)) : Nat) : Int) < 4 then qFail 3 r3 else r3) = r5 at *
  have h6 := Nat.le_trans (qWhole_le ((qNum 2 (qTk 1 (qTk 1 r)) : Nat)) r5) h5
  repeat' split
  all_goals first | exact h5 | exact h6 | exact Nat.le_trans (qFail_le' _ _) h6
variable {C : CallT}
attribute [local irreducible] qNum qTk qChunk
theorem rdoc7_Get {h : H} (s : Bs) (hs : s.length ≤ 4000000000000000000) : Ok (Does Try.prog C 22 [.str s] h) (GetsP (qGetP s) h) := by
  have hN4 : ∀ (s : Bs) (e : Int) h, Does Try.prog C 56 [.agg [.str s, .int .i64 e], .int .i64 4] h = some (.tup [.agg (rc (qTk 4 ⟨s, e⟩)), .int .u64 (qNum 4 ⟨s, e⟩ : Nat)], h) := fun s e h => rdoc_Num (r := ⟨s, e⟩) (by decide)
  have hN2 : ∀ (s : Bs) (e : Int) h, Does Try.prog C 56 [.agg [.str s, .int .i64 e], .int .i64 2] h = some (.tup [.agg (rc (qTk 2 ⟨s, e⟩)), .int .u64 (qNum 2 ⟨s, e⟩ : Nat)], h) := fun s e h => rdoc_Num (r := ⟨s, e⟩) (by decide)
  have w2 : ∀ q : RS, IntKind.i64.wrap (qNum 2 q : Int) = (qNum 2 q : Nat) := fun q => by have := qNum2_lt' q; exact wrap_i64 (by omega) (by omega)
  have w4 : ∀ q : RS, IntKind.u32.wrap (qNum 4 q : Int) = (qNum 4 q : Nat) := fun q => wrap_u32 (qNum4_lt q)
  unfold rc at hN4 hN2
  refine Does_wp (n := 92) (rs := [.cell 2 34, .tmp 3]) Try.func22 (by kernel_rfl) rfl rfl rfl (by simp) fun σ hg => ?_
  have i1 : (1400 < (s.length : Int)) = (1400 < s.length) := propext (by omega)
  have i2 : ((s.length : Int) < 12) = (s.length < 12) := propext (by omega)
  by_cases c1 : 1400 < s.length
  · simp (dsimp := false) [hg, splice, i1, c1]
    exact getsP0 (by rw [qGetP, if_pos c1])
  by_cases c2 : s.length < 12
  · simp (dsimp := false) [hg, splice, i1, i2, c1, c2]
    exact getsP0 (by rw [qGetP, if_neg c1, if_pos c2])
  have hS : ∀ h, Does Try.prog C 46 [.str s] h = some (.str (sealL s 8), h) := fun h => rdoc_seal (C := C) s h (by omega) (by omega)
  by_cases c3 : sealL s 8 ≠ s
  · simp (dsimp := false) [hg, splice, i1, i2, c1, c2, hS, c3]
    exact getsP0 (by rw [qGetP, if_neg c1, if_neg c2, if_pos c3])
  have hG : qGetP s = qGetP s := rfl
  conv at hG => rhs; unfold qGetP
  rw [if_neg c1, if_neg c2, if_neg c3] at hG
  replace c3 : sealL s 8 = s := Classical.byContradiction c3
  simp only at hG
  simp (dsimp := false) [hg, splice, i1, i2, c1, c2, hS, c3, hN2, hN4, RS_eta, w2, w4]
  have hrl : (qTk 4 (qTk 4 (qTk 2 (qTk 2 ⟨s, 0⟩)))).s.length ≤ 4000000000000000000 := Nat.le_trans (qTk_le' _ _) (Nat.le_trans (qTk_le' _ _) (Nat.le_trans (qTk_le' _ _) (Nat.le_trans (qTk_le' _ _) hs)))
  generalize qNum 2 ⟨s, 0⟩ = f at *
  generalize qNum 2 (qTk 2 ⟨s, 0⟩) = t at *
  generalize qNum 4 (qTk 2 (qTk 2 ⟨s, 0⟩)) = tag at *
  generalize qTk 4 (qTk 4 (qTk 2 (qTk 2 ⟨s, 0⟩))) = r0 at *
  generalize hX : qGetGo 21 r0 [] = X at *
  refine W_loopM (fun k σ h' => ∃ r l v m es, k = 21 - l.length ∧ l.length ≤ 20 ∧ r.s.length ≤ 4000000000000000000 ∧ h' = ⟨h.blks ++ (⟨[.int .i64 0, .int .i64 0, .int .u32 0, .nils], 0, 0, false⟩ :: ⟨[.str r.s, .int .i64 r.e], 0, 0, false⟩ :: ⟨[.int .i64 f, .int .i64 t, .int .u32 tag, v], 0, 0, false⟩ :: m), es⟩ ∧
    σ 2 = .ptr h.blks.length 0 0 4 ∧ σ 4 = .ptr (h.blks.length + 1) 0 0 2 ∧ σ 8 = .ptr (h.blks.length + 2) 0 0 4 ∧ CksHi (h.blks.length + 3) h' l v ∧ (∀ y ∈ es, h.blks.length ≤ y.1) ∧ qGetGo (21 - l.length) r (l.map El.c) = X) ?_ 21 _ _ ?_
  · rintro _ σ _ ⟨r, l, v, m, es, rfl, hl, hrl, rfl, h2, h4, h8, hC, he, hgo⟩
    have hlen := hC.is.sl.len Try.underlying32
    have hf := hC.is.sl.facts
    simp at hf
    rw [show 21 - l.length = (20 - l.length) + 1 by omega, qGetGo] at hgo
    by_cases c4 : r.e = 0 ∧ 0 < r.s.length
    · have c4' := eq_true c4.1
      have c4'' := eq_true c4.2
      rw [if_pos c4] at hgo
      by_cases c5 : l.length = 20
      · have c5' : (l.map El.c).length = 20 := by simpa using c5
        rw [if_pos c5'] at hgo
        have hfe : (qFail 5 r).e = 5 := by simp (dsimp := false) [qFail, c4.1]
        rw [← hgo] at hG
        simp only [hfe, ne_eq] at hG
        rw [if_pos (by decide)] at hG
        simp (dsimp := false) [-run_groupK, run_join, h2, h4, h8, c4', c4'', c5, hlen, splice]
        exact getsPE hG he
      · have c5' : ¬ (l.map El.c).length = 20 := by simpa using c5
        have c5i : ¬ ((l.length : Int) = 20) := by omega
        rw [if_neg c5'] at hgo
        obtain ⟨⟨x1, x2⟩, hx, vp, vc, vg, vd, hv, ⟨m', es', he2, hes'⟩, hS, hH⟩ := rdoc6_Take (C := C) (r := r) (h := ⟨h.blks ++ (⟨[.int .i64 0, .int .i64 0, .int .u32 0, .nils], 0, 0, false⟩ :: ⟨[.str r.s, .int .i64 r.e], 0, 0, false⟩ :: ⟨[.int .i64 f, .int .i64 t, .int .u32 tag, v], 0, 0, false⟩ :: m), es⟩) hrl
        simp only at hv he2 hS
        subst hv he2
        simp at hx hS hH hes'
        unfold Ck.cells rc at hx
        have hf2 := hS.facts
        have hf3 := (hS.app (es' := []) [⟨rc (qChunk r).1, 0, 0, false⟩]).facts
        have hf4 := (hS.app (es' := []) [⟨rc (qChunk r).1, 0, 0, false⟩, ⟨(qChunk r).2.cells vp vc vg vd, 0, 0, false⟩]).facts
        simp at hf2 hf3 hf4
        have hpre : ∀ b c : Blk, (h.blks ++ [⟨[.int .i64 0, .int .i64 0, .int .u32 0, .nils], 0, 0, false⟩, b, c]).length = h.blks.length + 3 := fun b c => by simp
        have hC' : CksHi (h.blks ++ [⟨[.int .i64 0, .int .i64 0, .int .u32 0, .nils], 0, 0, false⟩, ⟨[.str r.s, .int .i64 r.e], 0, 0, false⟩, (⟨[.int .i64 f, .int .i64 t, .int .u32 tag, v], 0, 0, false⟩ : Blk)]).length
            ⟨(h.blks ++ [⟨[.int .i64 0, .int .i64 0, .int .u32 0, .nils], 0, 0, false⟩, ⟨[.str r.s, .int .i64 r.e], 0, 0, false⟩, (⟨[.int .i64 f, .int .i64 t, .int .u32 tag, v], 0, 0, false⟩ : Blk)]) ++ (m ++ (m' ++ [⟨rc (qChunk r).1, 0, 0, false⟩, ⟨(qChunk r).2.cells vp vc vg vd, 0, 0, false⟩])), es ++ es'⟩ l v := by
          have h1 := CksHi.app (es' := es ++ es') hC (m' ++ [⟨rc (qChunk r).1, 0, 0, false⟩, ⟨(qChunk r).2.cells vp vc vg vd, 0, 0, false⟩])
          rw [hpre]
          simpa using h1
        obtain ⟨v', m'', es'', ha, he'', hC'', hne⟩ := CksHi.snoc (e := ⟨(qChunk r).2, vp, vc, vg, vd⟩) hC'
          (by
            have h1 := CkIs.app (es' := es ++ es') hS [⟨rc (qChunk r).1, 0, 0, false⟩, ⟨(qChunk r).2.cells vp vc vg vd, 0, 0, false⟩]
            simpa [El.ok] using h1)
          (by
            intro u hu
            simp only [List.mem_cons, List.not_mem_nil, or_false] at hu
            rw [hpre]
            rcases hu with rfl | rfl | rfl | rfl
            · exact hH.1.le (by omega)
            · exact hH.2.1.le (by omega)
            · exact hH.2.2.1.le (by omega)
            · exact hH.2.2.2.le (by omega)) (by omega) (h.blks.length + (m.length + (m'.length + 1 + 1) + 1 + 1 + 1)) (by simp; omega)
        have hq := appendV_keep ha (i := h.blks.length + (m.length + m'.length + 1 + 1 + 1)) (k := ⟨rc (qChunk r).1, 0, 0, false⟩) (by
          intro b' off n' ver z' lim hv
          subst hv
          have := hf.2.2.2.1
          simp at this ⊢
          omega) (by
            rw [show h.blks.length + (m.length + m'.length + 1 + 1 + 1) = (h.blks ++ (⟨[.int .i64 0, .int .i64 0, .int .u32 0, .nils], 0, 0, false⟩ :: ⟨[.str r.s, .int .i64 r.e], 0, 0, false⟩ :: (⟨[.int .i64 f, .int .i64 t, .int .u32 tag, v], 0, 0, false⟩ : Blk) :: (m ++ m'))).length by simp]
            rw [show ∀ x y z : Blk, h.blks ++ [⟨[.int .i64 0, .int .i64 0, .int .u32 0, .nils], 0, 0, false⟩, ⟨[.str r.s, .int .i64 r.e], 0, 0, false⟩, (⟨[.int .i64 f, .int .i64 t, .int .u32 tag, v], 0, 0, false⟩ : Blk)] ++ (m ++ (m' ++ [x, y]) ++ [z]) = (h.blks ++ (⟨[.int .i64 0, .int .i64 0, .int .u32 0, .nils], 0, 0, false⟩ :: ⟨[.str r.s, .int .i64 r.e], 0, 0, false⟩ :: (⟨[.int .i64 f, .int .i64 t, .int .u32 tag, v], 0, 0, false⟩ : Blk) :: (m ++ m'))) ++ [x, y, z] by simp]
            simp)
        simp only at hq
        rw [show h.blks.length + (m.length + m'.length + 1 + 1 + 1) = (h.blks ++ [⟨[.int .i64 0, .int .i64 0, .int .u32 0, .nils], 0, 0, false⟩, ⟨[.str r.s, .int .i64 r.e], 0, 0, false⟩, (⟨[.int .i64 f, .int .i64 t, .int .u32 tag, v], 0, 0, false⟩ : Blk)]).length + (m.length + m'.length) by rw [hpre]; omega, at_add] at hq
        simp (dsimp := false) [El.cells, Ck.cells, rc] at ha
        simp only [rc] at hq
        have hv' := hC''.is.sl.facts
        simp at hv'
        simp (dsimp := false) [-run_groupK, run_join, h4, h8, c4', c4'', c5i, hlen, hx, hf2, hf3, splice]
        refine (W_anyF (F := [(0, 4), (0, 5), (2, 4)]) (by kernel_rfl)).2 ?_
        simp (dsimp := false) [h2, h4, h8, hf2, splice, ha, hv', hq]
        refine ⟨20 - l.length, by omega, (qChunk r).1, l ++ [⟨(qChunk r).2, vp, vc, vg, vd⟩], by simp, by simp; omega, Nat.le_trans (qChunk_le r) hrl, v', m'', _, ⟨⟨⟨rfl, rfl⟩, rfl, rfl⟩, rfl⟩, ?_, ?_, ?_⟩
        · have h1 := CksHi.pre (p' := h.blks ++ [⟨[.int .i64 0, .int .i64 0, .int .u32 0, .nils], 0, 0, false⟩, ⟨[.str (qChunk r).1.s, .int .i64 (qChunk r).1.e], 0, 0, false⟩, (⟨[.int .i64 f, .int .i64 t, .int .u32 tag, v'], 0, 0, false⟩ : Blk)]) (es' := es ++ (es' ++ (es'' ++ List.map (fun r => (h.blks.length + 2, r)) (V.upto (h.blks.length + 2) v')))) (by simp) hC''
          simpa using h1
        · intro a b hab
          simp only [List.mem_append, List.mem_map] at hab
          rcases hab with hab | hab | hab | ⟨_, -, hab⟩
          · exact he _ hab
          · have := hes' a b hab
            omega
          · have := he'' _ hab
            simp at this
            omega
          · injection hab with h1 h2
            omega
        · rw [show 21 - (l ++ [(⟨(qChunk r).2, vp, vc, vg, vd⟩ : El)]).length = 20 - l.length by simp, List.map_append]
          exact hgo
    · rw [if_neg c4] at hgo
      rw [← hgo] at hG
      simp only [ne_eq] at hG
      by_cases c5 : r.e = 0
      · have c5' := eq_true c5
        have c6' : (0 < r.s.length) = False := eq_false (fun h => c4 ⟨c5, h⟩)
        rw [if_neg (fun h => h c5)] at hG
        have hto := rdoc7_May (C := C) (f := f) (t := t) (tag := tag) hC.is (by omega)
        cases c6 : togetherP f t tag (l.map El.c)
        · rw [if_pos (by exact c6)] at hG
          simp (dsimp := false) [-run_groupK, run_join, h2, h4, h8, c5', c6', splice, hto, c6]
          exact getsPE hG he
        · rw [if_neg (by rw [Pk.ok, c6]; simp)] at hG
          simp (dsimp := false) [-run_groupK, run_join, h2, h4, h8, c5', c6', splice, hto, c6, hf]
          have hC2 := CksHi.pre (p := h.blks ++ [⟨[.int .i64 0, .int .i64 0, .int .u32 0, .nils], 0, 0, false⟩, ⟨[.str r.s, .int .i64 r.e], 0, 0, false⟩, (⟨[.int .i64 f, .int .i64 t, .int .u32 tag, v], 0, 0, false⟩ : Blk)])
            (p' := h.blks ++ [⟨[.int .i64 f, .int .i64 t, .int .u32 tag, v], 0, 0, false⟩, ⟨[.str r.s, .int .i64 r.e], 0, 0, false⟩, (⟨[.int .i64 f, .int .i64 t, .int .u32 tag, v], 0, 0, false⟩ : Blk)]) (m := m) (es := es) (es' := es ++ List.map (fun r => (h.blks.length, r)) (V.upto h.blks.length v)) (l := l) (v := v) (by simp) (by simpa using hC)
          rw [hG]
          refine ⟨_, rfl, leave_ext ?_, v, l, rfl, ?_, rfl⟩
          · intro y hy
            rcases List.mem_append.1 hy with hy | hy
            · exact he y hy
            · obtain ⟨_, -, rfl⟩ := List.mem_map.1 hy
              exact Nat.le_refl _
          · refine cks_leave (by simpa using hC2.is) (hC.own.hi.le (by omega)) (fun h => by simpa using h)
      · have c5' := eq_false c5
        rw [if_pos c5] at hG
        simp (dsimp := false) [-run_groupK, run_join, h4, c5']
        refine (W_anyF (F := [(2, 3)]) (by kernel_rfl)).2 ?_
        simp (dsimp := false) [h2, h4, splice]
        exact getsPE hG he
  · refine ⟨r0, [], .nils, [], [], by simp (dsimp := false) [CksHi.nil, hX, hrl]⟩
end Go.Proofs.Ytbncfiijlnakkaa
end
section
/-! Hl: what is handed in: slices become blocks that are read only. -/
namespace Go.Hl
variable {X : Type} {enc : TypeId × Value → X} {P : Program} {W : World}

def H.lay (h : H) (cells : List V) : H := ⟨h.blks ++ [⟨cells, 0, 0, true⟩], h.esc⟩
theorem lay_get {h : H} {cells : List V} {b : Nat} {k : Blk} : (h.lay cells).blks[b]? = some k ↔ h.blks[b]? = some k ∨ (b = h.size ∧ k = ⟨cells, 0, 0, true⟩) := by
  unfold H.lay H.size
  simp only
  rcases Nat.lt_trichotomy b h.blks.length with hb | hb | hb
  · rw [List.getElem?_append_left hb]
    constructor
    · exact .inl
    · rintro (h1 | ⟨h1, _⟩)
      · exact h1
      · omega
  · subst hb
    simp only [List.getElem?_concat_length, Option.some.injEq]
    constructor
    · exact fun h1 => .inr ⟨by simp, h1.symm⟩
    · rintro (h1 | ⟨_, h1⟩)
      · simp at h1
      · exact h1.symm
  · rw [List.getElem?_eq_none (by simp; omega)]
    constructor
    · intro h1
      cases h1
    · rintro (h1 | ⟨h1, _⟩)
      · have := (List.getElem?_eq_some_iff.1 h1).1
        omega
      · omega
theorem lay_ok {ι : Map} {base : Nat} {h : H} {w : World} (hr : Rel ι base h w) {cells : List V} {C : Array Value} {e : TypeId} {fz : Nat × Nat} {blk r cend : Nat}
    (hw : w.heap[blk]? = some (.cells C e fz)) (hb : blk < base) (hc : RelVs ι h cells ((C.toList.drop r).take cells.length)) :
    Rel (ι.set h.size 0 ⟨blk, r, 0, cells.length, cend⟩) base (h.lay cells) w ∧ Agree ι h (ι.set h.size 0 ⟨blk, r, 0, cells.length, cend⟩) (h.lay cells) := by
  have ha : Agree ι h (ι.set h.size 0 ⟨blk, r, 0, cells.length, cend⟩) (h.lay cells) := fun b k hk =>
    ⟨⟨k, lay_get.2 (.inl hk), Nat.le_refl _, rfl⟩, fun g _ => Map.set_ne ι _ (.inl (Nat.ne_of_lt (H.lt_size hk)))⟩
  generalize hL : (⟨blk, r, 0, cells.length, cend⟩ : Loc) = L at *
  have hLb : L.blk = blk := by rw [← hL]
  refine ⟨⟨fun b k hk => ?_, ?_, hr.base, ?_⟩, ha⟩
  · rcases lay_get.1 hk with hk | ⟨rfl, rfl⟩
    · obtain ⟨h1, h2, h3, h4, h5, h6, h7⟩ := hr.blk b k hk
      have hi : ∀ g, (ι.set h.size 0 L) b g = ι b g := fun g => Map.set_ne ι L (.inl (Nat.ne_of_lt (H.lt_size hk)))
      refine ⟨by rw [hi]; exact h1, h2, fun g hg => by rw [hi]; exact h3 g hg, fun g hg => by rw [hi]; exact h4 g hg, fun g g' hg hg' => by rw [hi, hi]; exact h5 g g' hg hg', fun g hg => by rw [hi]; exact h6 g hg, fun g hg hg' => ?_⟩
      rw [hi]
      obtain ⟨c, e', fz', hc', r', hj⟩ := h7 g hg hg'
      refine ⟨c, e', fz', hc', r', fun j a b => ?_⟩
      obtain ⟨u, v, a1, a2, a3⟩ := hj j a b
      exact ⟨u, v, a1, a2, a3.step ha⟩
    · have hi : (ι.set h.size 0 L) h.size 0 = L := Map.set_self ι _ _ L
      have g0 : ∀ g, g ≤ 0 → g = 0 := fun g hg => Nat.le_zero.1 hg
      refine ⟨by rw [hi, ← hL], Nat.le_refl _, fun g hg => ?_, fun g hg => ?_, fun g g' hg hg' => ?_, fun g hg => ?_, fun g _ hg => ?_⟩
      · rw [g0 g hg, hi, hLb]
        exact Nat.lt_of_lt_of_le hb hr.base
      · rw [g0 g hg, hi, hLb]
        exact ⟨fun _ => hb, fun h => (by cases h)⟩
      · rw [g0 g' hg', g0 g (by simp at hg'; omega)]
        exact ⟨Nat.le_refl _, fun _ => ⟨rfl, rfl⟩⟩
      · rw [g0 g hg, hi, ← hL]
        exact ⟨Nat.zero_le _, fun h => (by cases h)⟩
      · rw [g0 g hg, hi]
        refine ⟨C, e, fz, by rw [hLb]; exact hw, fun h => (by cases h), fun j _ hj => ?_⟩
        rw [← hL] at hj ⊢
        simp only [Nat.sub_zero] at hj ⊢
        obtain ⟨v, hv, hrv⟩ := hc.get (List.getElem?_eq_getElem hj)
        rw [List.getElem?_take, if_pos hj, List.getElem?_drop] at hv
        exact ⟨cells[j], v, List.getElem?_eq_getElem hj, by simpa using hv, hrv.step (hL ▸ ha)⟩
  · intro b b' k k' hk hk' hne hro hro' g g' hg hg'
    rcases lay_get.1 hk with hk | ⟨rfl, rfl⟩
    · rcases lay_get.1 hk' with hk' | ⟨rfl, rfl⟩
      · rw [Map.set_ne ι L (.inl (Nat.ne_of_lt (H.lt_size hk))), Map.set_ne ι L (.inl (Nat.ne_of_lt (H.lt_size hk')))]
        exact hr.disj b b' k k' hk hk' hne hro hro' g g' hg hg'
      · cases hro'
    · cases hro
  · intro b k hk u hu
    have hs : h.size ≤ (h.lay cells).size := by simp [H.lay, H.size]
    rcases lay_get.1 hk with hk | ⟨rfl, rfl⟩
    · exact under_mono hs (hr.wf b k hk u hu)
    · exact under_mono hs (unders_mem hc.unders u hu)

theorem cell_add {w : World} {a : Addr} {p k : Nat} {v : Value} (h : w.cell? ((a.add p).add k) = some v) : w.cell? ⟨a.block, a.off + (p + k), none⟩ = some v ∧ (p + k = 0 → a.spot = none) := by
  obtain ⟨b, o, s⟩ := a
  unfold Addr.add at h
  by_cases hp : p = 0
  · by_cases hk : k = 0
    · rw [if_pos hk, if_pos hp] at h
      have hs : s = none := by
        unfold World.cell? at h
        split at h
        · split at h
          · cases h
          · rename_i hn
            simpa using hn
        · cases h
      subst hs hp hk
      exact ⟨h, fun _ => rfl⟩
    · rw [if_neg hk, if_pos hp] at h
      subst hp
      exact ⟨by simpa using h, fun h => by omega⟩
  · by_cases hk : k = 0
    · rw [if_pos hk, if_neg hp] at h
      subst hk
      exact ⟨by simpa using h, fun h => by omega⟩
    · rw [if_neg hk, if_neg hp] at h
      exact ⟨by simpa [Nat.add_assoc] using h, fun h => by omega⟩

/-- What is read of a type is so much in Hl's memory. -/
def OpensTo (enc : TypeId × Value → X) (P : Program) (W : World) (t : TypeId) {α : Type} (f : α → List V) (ok : H → α → Prop) : Prop :=
  ∀ fuel cs x (ι : Map) (l : List Blk), Rel ι W.heap.size ⟨l, []⟩ W → DataW.trod enc P W 0 (fun _ => true) true fuel t cs = some x →
    ∃ a ι' m, Rel ι' W.heap.size ⟨l ++ m, []⟩ W ∧ Agree ι ⟨l, []⟩ ι' ⟨l ++ m, []⟩ ∧ RelVs ι' ⟨l ++ m, []⟩ (f a) cs ∧ ok ⟨l ++ m, []⟩ a

theorem opens_row {e : TypeId} {z : Nat} {α : Type} {f : α → List V} {ok : H → α → Prop} (hz : 0 < z) (hf : ∀ a, (f a).length = z) (hok : ∀ l m a, ok ⟨l, []⟩ a → ok ⟨l ++ m, []⟩ a) (hE : OpensTo enc P W e f ok) {a : Addr} {fuel : Nat} :
    ∀ (n : Nat) (ι : Map) (l : List Blk), Rel ι W.heap.size ⟨l, []⟩ W → (∀ i, i < n → ∃ cs x, W.cells? 0 (a.add (i * z)) z = some cs ∧ DataW.trod enc P W 0 (fun _ => true) true fuel e cs = some x) →
    ∃ (L : List α) (vals : List Value) (ι' : Map) (m : List Blk), L.length = n ∧ Rel ι' W.heap.size ⟨l ++ m, []⟩ W ∧ Agree ι ⟨l, []⟩ ι' ⟨l ++ m, []⟩ ∧ RelVs ι' ⟨l ++ m, []⟩ (L.flatMap f) vals ∧ (∀ a ∈ L, ok ⟨l ++ m, []⟩ a) ∧
      vals.length = n * z ∧ (∀ j, j < n * z → W.cell? ⟨a.block, a.off + j, none⟩ = vals[j]?) ∧ (0 < n → a.spot = none)
  | 0, ι, l, hr, _ => ⟨[], [], ι, [], rfl, by simpa using hr, by simpa using Agree.refl ι ⟨l, []⟩, by simp [RelVs], by simp, by simp, by simp, by simp⟩
  | n + 1, ι, l, hr, hrow => by
    obtain ⟨L, vals, ι1, m1, h1, h2, h3, h4, h5, h6, h7, h8⟩ := opens_row hz hf hok hE n ι l hr (fun i hi => hrow i (by omega))
    obtain ⟨cs, x, hcs, htr⟩ := hrow n (by omega)
    obtain ⟨b, ι2, m2, g1, g2, g3, g4⟩ := hE fuel cs x ι1 _ h2 htr
    rw [List.append_assoc] at g1 g2 g3 g4
    obtain ⟨-, hl, hcell⟩ := World.cells?_some hcs
    have hcell' : ∀ k, k < z → W.cell? ⟨a.block, a.off + (n * z + k), none⟩ = cs[k]? ∧ (n * z + k = 0 → a.spot = none) := fun k hk => by
      have h := hcell k hk
      rw [List.getElem?_eq_getElem (by omega)] at h ⊢
      exact cell_add h
    refine ⟨L ++ [b], vals ++ cs, ι2, m1 ++ m2, by simp [h1], g1, h3.trans g2, ?_, ?_, ?_, ?_, ?_⟩
    · rw [List.flatMap_append, List.flatMap_singleton]
      exact RelVs.append (RelVs.step g2 h4) g3
    · intro y hy
      rcases List.mem_append.1 hy with hy | hy
      · rw [← List.append_assoc]
        exact hok _ _ _ (h5 y hy)
      · rw [List.mem_singleton.1 hy]
        exact g4
    · rw [List.length_append, h6, hl, Nat.add_mul, Nat.one_mul]
    · intro j hj
      by_cases hjn : j < n * z
      · rw [List.getElem?_append_left (by omega)]
        exact h7 j hjn
      · rw [List.getElem?_append_right (by omega), h6]
        have := (hcell' (j - n * z) (by rw [Nat.add_mul] at hj; omega)).1
        rw [show n * z + (j - n * z) = j by omega] at this
        exact this
    · intro _
      rcases Nat.eq_zero_or_pos n with rfl | hn
      · exact (hcell' 0 hz).2 (by simp)
      · exact h8 hn

/-- A slice that may be cut: its end is not its last place for good. -/
def FreeS (v : V) : Prop := ∀ b off n ver z, v = .sl b off n ver z true → n = 0
theorem FreeS.nils : FreeS .nils := fun _ _ _ _ _ h => by cases h
theorem heap_of_cell {w : World} {b o : Nat} {v : Value} (h : w.cell? ⟨b, o, none⟩ = some v) : ∃ C e fz, w.heap[b]? = some (.cells C e fz) ∧ C[o]? = some v := by
  unfold World.cell? at h
  split at h
  · rename_i c e fz hc
    simp only [Option.isSome_none, Bool.false_eq_true, if_false] at h
    exact ⟨c, e, fz, hc, h⟩
  · cases h

/-- A slice. -/
theorem opens_slice {t e : TypeId} {z : Nat} {α : Type} {f : α → List V} {ok : H → α → Prop} (ht : P.underlying t = some (.slice e)) (hc : P.cellsOf e = z) (hz : 0 < z) (hf : ∀ a, (f a).length = z) (hok : ∀ l m a, ok ⟨l, []⟩ a → ok ⟨l ++ m, []⟩ a)
    (hE : OpensTo enc P W e f ok) (hd : ∃ (b : Nat) (C : Array Value) (e' : TypeId) (fz : Nat × Nat), W.heap[b]? = some (Obj.cells C e' fz)) {fuel : Nat} {v : Value} {x : DataW X × List MemPlace} {ι : Map} {l : List Blk} (hr : Rel ι W.heap.size ⟨l, []⟩ W)
    (h : DataW.trod enc P W 0 (fun _ => true) true fuel t [v] = some x) :
    ∃ (L : List α) (u : V) (ι' : Map) (m : List Blk), Rel ι' W.heap.size ⟨l ++ m, []⟩ W ∧ Agree ι ⟨l, []⟩ ι' ⟨l ++ m, []⟩ ∧ RelV ι' ⟨l ++ m, []⟩ u v ∧ Sl ⟨l ++ m, []⟩ z L.length (L.flatMap f) u ∧ (∀ a ∈ L, ok ⟨l ++ m, []⟩ a) ∧ L.length ≤ maxLen ∧ FreeS u := by
  rcases DataW.trod_slice ht h with ⟨h0, -⟩ | ⟨a, len, cap, elems, rest, n, _, hv, -, hb, hlc, hm, hlen, hel, hsp, -⟩
  · simp only [List.cons.injEq, and_true] at h0
    subst h0
    exact ⟨[], .nils, ι, [], by simpa using hr, by simpa using Agree.refl ι ⟨l, []⟩, by simp [RelV], Sl.nil _ z, by simp, by simp, FreeS.nils⟩
  · simp only [List.cons.injEq, and_true] at hv
    subst hv
    rw [hc] at hel hsp
    obtain ⟨L, vals, ι1, m1, h1, h2, h3, h4, h5, h6, h7, h8⟩ := opens_row (a := a) (fuel := n) hz hf hok hE len ι l hr (fun i hi => by
      have := hel i hi
      rw [List.getElem?_eq_getElem (by omega), Option.bind_eq_some_iff] at this
      obtain ⟨cs, h1, h2⟩ := this
      exact ⟨cs, _, h1, h2⟩)
    have hfl : (L.flatMap f).length = len * z := by rw [flat_len hf, h1]
    by_cases hcap : cap = 0
    · subst hcap
      obtain rfl : len = 0 := by omega
      obtain rfl : L = [] := List.length_eq_zero_iff.1 h1
      obtain ⟨b, C, e', fz, hd⟩ := hd
      have hblt : b < W.heap.size := (Array.getElem?_eq_some_iff.1 hd).1
      obtain ⟨k1, k2⟩ := lay_ok (cells := []) (r := 0) (cend := 0) h2 hd hblt (by simp [RelVs])
      refine ⟨[], .sl (l ++ m1).length 0 0 0 z true, _, m1 ++ [⟨[], 0, 0, true⟩], by rw [← List.append_assoc]; exact k1, by rw [← List.append_assoc]; exact h3.trans k2, ?_, ?_, by simp, by simp, fun _ _ _ _ _ h => by injection h with _ _ h; exact h.symm⟩
      · simp only [RelV]
        refine ⟨a, 0, rfl, ⟨[], 0, 0, true⟩, by rw [← List.append_assoc]; simp, Nat.le_refl _, hz, Nat.le_refl _, fun _ => rfl, ?_, ?_, fun h => absurd rfl h, fun h => by cases h⟩
        all_goals rw [show (l ++ m1).length = (⟨l ++ m1, []⟩ : H).size from rfl, Map.set_self]
        · exact Nat.le_refl _
        · simp
      · exact .inr ⟨_, _, _, _, ⟨[], 0, 0, true⟩, rfl, by rw [← List.append_assoc]; simp, Nat.le_refl _, Nat.le_refl _, by simp, by simp⟩
    · have hblk : a.spot = none ∧ ∃ C e fz, W.heap[a.block]? = some (.cells C e fz) := by
        rcases Nat.eq_zero_or_pos len with h0 | h0
        · obtain ⟨hrl, hrr⟩ := hsp rfl
          have := hrr 0 (by omega)
          rw [List.getElem?_eq_getElem (by omega), Option.bind_eq_some_iff] at this
          obtain ⟨cs, h1, -⟩ := this
          obtain ⟨-, hl, hcell⟩ := World.cells?_some h1
          have h := hcell 0 hz
          rw [List.getElem?_eq_getElem (by omega)] at h
          have := cell_add h
          obtain ⟨C, e', fz, hC, -⟩ := heap_of_cell this.1
          exact ⟨this.2 (by simp [h0]), C, e', fz, hC⟩
        · have h := h7 0 (Nat.mul_pos h0 hz)
          rw [List.getElem?_eq_getElem (by rw [h6]; exact Nat.mul_pos h0 hz)] at h
          obtain ⟨C, e', fz, hC, -⟩ := heap_of_cell h
          exact ⟨h8 h0, C, e', fz, hC⟩
      obtain ⟨hspot, C, e', fz, hC⟩ := hblk
      have hblt : a.block < W.heap.size := (Array.getElem?_eq_some_iff.1 hC).1
      have hvals : (C.toList.drop a.off).take (L.flatMap f).length = vals := by
        refine List.ext_getElem? fun j => ?_
        rw [hfl, List.getElem?_take]
        split
        · rename_i hj
          rw [← h7 j hj, List.getElem?_drop]
          unfold World.cell?
          rw [hC]
          simp
        · rename_i hj
          rw [List.getElem?_eq_none (by omega)]
      obtain ⟨k1, k2⟩ := lay_ok (cells := L.flatMap f) (r := a.off) (cend := cap * z) h2 hC hblt (by rw [hvals]; exact h4)
      have hsz : (⟨l ++ m1, []⟩ : H).size = (l ++ m1).length := rfl
      refine ⟨L, .sl (l ++ m1).length 0 len 0 z false, _, m1 ++ [⟨L.flatMap f, 0, 0, true⟩], by rw [← List.append_assoc]; exact k1, by rw [← List.append_assoc]; exact h3.trans k2, ?_, ?_, fun y hy => by rw [← List.append_assoc]; exact hok _ _ _ (h5 y hy), by omega, fun _ _ _ _ _ h => by cases h⟩
      · simp only [RelV]
        refine ⟨a, cap, rfl, ⟨L.flatMap f, 0, 0, true⟩, by rw [← List.append_assoc]; simp, Nat.le_refl _, hz, hlc, (fun h => by cases h), ?_, ?_, fun _ => ?_, fun _ => ?_⟩
        all_goals rw [← hsz, Map.set_self]
        · exact Nat.le_refl _
        · simp only [Nat.zero_add]
          omega
        · obtain ⟨b, o, s⟩ := a
          simp only at hspot
          simp [hspot]
        · simp
      · exact .inr ⟨_, _, _, _, ⟨L.flatMap f, 0, 0, true⟩, by rw [h1], by rw [← List.append_assoc]; simp, Nat.le_refl _, Nat.le_refl _, by simp only [List.drop_zero]; rw [List.take_of_length_le (by rw [hfl, h1]; exact Nat.le_refl _)], by rw [hfl, h1]⟩
/-- A slice that is not in the blocks from n to k. -/
def Beyond (n k : Nat) (v : V) : Prop := ∀ b off len ver z lim, v = .sl b off len ver z lim → b < n ∨ k ≤ b
theorem Beyond.nils {n k : Nat} : Beyond n k .nils := fun _ _ _ _ _ _ h => by cases h
theorem Beyond.of_under {n k : Nat} {v : V} (h : V.under n v = true) : Beyond n k v := fun _ _ _ _ _ _ hv => by
  subst hv
  simp [V.under] at h
  exact .inl h
theorem Beyond.of_hi {n k : Nat} {v : V} (h : Hi k v) : Beyond n k v := fun _ _ _ _ _ _ hv => .inr (h _ _ _ _ _ _ hv)
theorem mid_swap {A mid mid' m : List Blk} {es es' : List (Nat × Nat)} {z n : Nat} {cs : List V} {v : V} (hl : mid'.length = mid.length) (hs : Sl ⟨A ++ (mid ++ m), es⟩ z n cs v) (ho : Beyond A.length (A.length + mid.length) v) : Sl ⟨A ++ (mid' ++ m), es'⟩ z n cs v := by
  rcases hs with hs | ⟨b, off, ver, lim, k, rfl, hk, h3⟩
  · exact .inl hs
  · refine .inr ⟨b, off, ver, lim, k, rfl, ?_, h3⟩
    simp only at hk ⊢
    rcases ho _ _ _ _ _ _ rfl with hb | hb
    · rw [List.getElem?_append_left hb] at hk ⊢
      exact hk
    · rw [List.getElem?_append_right (by omega), List.getElem?_append_right (by omega)] at hk ⊢
      rw [hl]
      exact hk
/-- A slice, cut. -/
theorem Sl.cut {h : H} {z n : Nat} {cs : List V} {v : V} (hs : Sl h z n cs v) (hf : FreeS v) {k : Nat} (hk : k ≤ n) :
    ∃ v', (∀ s b m zz et eb, sliceV ⟨s, b, m, zz, .slice et z eb⟩ v none (some (.int .i64 (k : Int))) = some v') ∧ Sl h z k (cs.take (k * z)) v' ∧ ∀ n k, Beyond n k v → Beyond n k v' := by
  rcases hs with ⟨rfl, rfl, rfl⟩ | ⟨b, off, ver, lim, x, rfl, hb, h1, h2, rfl, h4⟩
  · obtain rfl : k = 0 := by omega
    refine ⟨.nils, fun s b m zz et eb => ?_, by simpa using Sl.nil h z, fun _ _ h => h⟩
    simp [sliceV, optIdx, idx]
  · refine ⟨.sl b off k ver z lim, fun s b' m zz et eb => ?_, .inr ⟨b, off, ver, lim, x, rfl, hb, h1, h2, ?_, ?_⟩, fun _ _ h _ _ _ _ _ _ hv => by
      injection hv with hv
      subst hv
      exact h _ _ _ _ _ _ rfl⟩
    · have hl : ¬ (lim = true ∧ k < n) := fun ⟨h, h'⟩ => by
        subst h
        have := hf _ _ _ _ _ rfl
        omega
      have e1 : idx n (.int .i64 (k : Int)) = some k := by
        simp [idx]
        omega
      simp [sliceV, e1, optIdx, hl]
    · rw [List.take_take, Nat.min_eq_left (Nat.mul_le_mul_right z hk)]
    · rw [List.length_take, h4, Nat.min_eq_left (Nat.mul_le_mul_right z hk)]
/-- A struct's field: its type, where it lies, how many cells. -/
def fld (P : Program) (t : TypeId) (i : Nat) : Option (TypeId × Nat × Nat) := match P.underlying t with
  | some (.struct fs) => (fs[i]?).map fun f => (f.type, f.offset, P.cellsOf f.type)
  | _ => none
theorem trod_flds {t : TypeId} {fuel : Nat} {cs : List Value} {x : DataW X × List MemPlace} (hs : (fld P t 0).isSome = true) (h : DataW.trod enc P W 0 (fun _ => true) true fuel t cs = some x) :
    cs.length = P.cellsOf t ∧ ∃ n, ∀ i ty off c, fld P t i = some (ty, off, c) → ∃ y, DataW.trod enc P W 0 (fun _ => true) true n ty ((cs.drop off).take c) = some y := by
  have : ∃ fs, P.underlying t = some (.struct fs) := by
    unfold fld at hs
    split at hs
    · exact ⟨_, by assumption⟩
    · cases hs
  obtain ⟨fs, ht⟩ := this
  obtain ⟨xs, n, -, -, hl, hxl, hf⟩ := DataW.trod_struct ht h
  refine ⟨hl, n, fun i ty off c hi => ?_⟩
  unfold fld at hi
  rw [ht] at hi
  simp only [Option.map_eq_some_iff] at hi
  obtain ⟨f, hfi, he⟩ := hi
  simp only [Prod.mk.injEq] at he
  obtain ⟨rfl, rfl, rfl⟩ := he
  have hlt : i < xs.length := by
    rw [hxl]
    exact (Array.getElem?_eq_some_iff.1 hfi).1
  exact ⟨xs[i], by rw [hf i f hfi, List.getElem?_eq_getElem hlt]⟩
theorem take_one {cs : List Value} {i : Nat} {v : Value} (h : (cs.drop i).take 1 = [v]) : cs[i]? = some v := by
  have h2 : ((cs.drop i).take 1)[0]? = some v := by rw [h]; rfl
  rw [List.getElem?_take, if_pos (by decide), List.getElem?_drop] at h2
  simpa using h2
theorem int_leaf {t : TypeId} {k : IntKind} {fuel : Nat} {cs : List Value} {i : Nat} {x : DataW X × List MemPlace} (ht : P.underlying t = some (.int k)) (h : DataW.trod enc P W 0 (fun _ => true) true fuel t ((cs.drop i).take 1) = some x) : ∃ n, cs[i]? = some (.int k n) ∧ (Lit.int k n).wf = true := by
  obtain ⟨n, hcs, -, hw⟩ := DataW.trod_int ht h
  exact ⟨n, take_one hcs, hw⟩
theorem str_leaf {t : TypeId} {fuel : Nat} {cs : List Value} {i : Nat} {x : DataW X × List MemPlace} (ht : P.underlying t = some .string) (h : DataW.trod enc P W 0 (fun _ => true) true fuel t ((cs.drop i).take 1) = some x) : ∃ s : Bs, cs[i]? = some (.string ⟨s.toArray⟩) ∧ s.length ≤ maxLen := by
  obtain ⟨s, hcs, -, hw⟩ := DataW.trod_string ht h
  exact ⟨s.data.toList, take_one hcs, by simpa using hw⟩
structure Pm.Wide (p : Pm) : Prop where
  t : (Lit.int .i64 p.typ).wf = true
  v : p.val.length ≤ maxLen
/-- What is handed in for a chunk. -/
structure Ck.Wide (c : Ck) : Prop where
  i : ∀ x ∈ [c.typ, c.flags, c.stream, c.ssn, c.out, c.inn], (Lit.int .i64 x).wf = true
  u : ∀ x ∈ [c.tsn, c.proto, c.tag, c.rwnd], (Lit.int .u32 x).wf = true
  d : c.data.length ≤ maxLen
  p : ∀ x ∈ c.params, x.Wide
  k : ∀ x ∈ c.causes, x.Wide
  g : ∀ x ∈ c.gaps, (Lit.int .i64 x.1).wf = true ∧ (Lit.int .i64 x.2).wf = true
  n : ∀ x ∈ c.dups, (Lit.int .u32 x).wf = true
  lp : c.params.length ≤ maxLen
  lk : c.causes.length ≤ maxLen
  lg : c.gaps.length ≤ maxLen
  ln : c.dups.length ≤ maxLen
theorem opens_pm {t ti ts : TypeId} (h0 : fld P t 0 = some (ti, 0, 1)) (h1 : fld P t 1 = some (ts, 1, 1)) (hi : P.underlying ti = some (.int .i64)) (hs : P.underlying ts = some .string) (hc : P.cellsOf t = 2) :
    OpensTo enc P W t Pm.cells (fun _ p => p.Wide) := by
  intro fuel cs x ι l hr h
  obtain ⟨hl, n, hf⟩ := trod_flds (by rw [h0]; rfl) h
  rw [hc] at hl
  obtain ⟨_, y0⟩ := hf 0 _ _ _ h0
  obtain ⟨_, y1⟩ := hf 1 _ _ _ h1
  obtain ⟨a, ha, wa⟩ := int_leaf hi y0
  obtain ⟨s, hs, ws⟩ := str_leaf hs y1
  match cs, hl with
  | [u, v], _ =>
    simp only [List.getElem?_cons_zero, List.getElem?_cons_succ, Option.some.injEq] at ha hs
    subst ha hs
    exact ⟨⟨a, s⟩, ι, [], by simpa using hr, by simpa using Agree.refl ι ⟨l, []⟩, by simp [RelVs, RelV, Pm.cells], wa, ws⟩
theorem opens_gap {t ti : TypeId} (h0 : fld P t 0 = some (ti, 0, 1)) (h1 : fld P t 1 = some (ti, 1, 1)) (hi : P.underlying ti = some (.int .i64)) (hc : P.cellsOf t = 2) :
    OpensTo enc P W t gapCells (fun _ g => (Lit.int .i64 g.1).wf = true ∧ (Lit.int .i64 g.2).wf = true) := by
  intro fuel cs x ι l hr h
  obtain ⟨hl, n, hf⟩ := trod_flds (by rw [h0]; rfl) h
  rw [hc] at hl
  obtain ⟨_, y0⟩ := hf 0 _ _ _ h0
  obtain ⟨_, y1⟩ := hf 1 _ _ _ h1
  obtain ⟨a, ha, wa⟩ := int_leaf hi y0
  obtain ⟨b, hb, wb⟩ := int_leaf hi y1
  match cs, hl with
  | [u, v], _ =>
    simp only [List.getElem?_cons_zero, List.getElem?_cons_succ, Option.some.injEq] at ha hb
    subst ha hb
    exact ⟨⟨a, b⟩, ι, [], by simpa using hr, by simpa using Agree.refl ι ⟨l, []⟩, by simp [RelVs, RelV, gapCells], wa, wb⟩
theorem opens_u32 {t : TypeId} (hi : P.underlying t = some (.int .u32)) : OpensTo enc P W t dupCells (fun _ n => (Lit.int .u32 n).wf = true) := by
  intro fuel cs x ι l hr h
  obtain ⟨n, rfl, -, hw⟩ := DataW.trod_int hi h
  exact ⟨n, ι, [], by simpa using hr, by simpa using Agree.refl ι ⟨l, []⟩, by simp [RelVs, RelV, dupCells], hw⟩
theorem list15 {cs : List Value} (h : cs.length = 15) : ∃ a b c d e f g i j k l m n o p, cs = [a, b, c, d, e, f, g, i, j, k, l, m, n, o, p] := by
  match cs, h with
  | [a, b, c, d, e, f, g, i, j, k, l, m, n, o, p], _ => exact ⟨a, b, c, d, e, f, g, i, j, k, l, m, n, o, p, rfl⟩
open Go.RowKit in
theorem walk_open {C : CallT} (hmix : P.follows .mixedOrders = true) (hC : CallsOk C P) (hG : ∀ f args h v h', C f args h = some (v, h') → Grows h h') {f : FuncId} {args : List V} {h h' : H} (hc : Does P C f args h = some (.bool true, h')) {ι : Map} (w : World) (args' : List Value)
    (hrel : Rel ι w.heap.size h w) (hargs : RelVs ι h args args') : Calls P f args'.toArray w fun e w' => e = .returned (.bool true) ∧ Below w.heap.size w w' := by
  refine ((Does_ok hmix hC hG f args _ _ _ hc).2 _ _ w args' hargs hrel).mono ?_
  rintro e w' ⟨v', ι', rfl, hv, _, _, hb⟩
  simp only [RelV] at hv
  exact ⟨by rw [hv], hb⟩
end Go.Hl
end
section
namespace Go.Proofs.Ytbncfiijlnakkaa
open Go.Hl
set_option maxHeartbeats 4000000
variable {X : Type} {enc : TypeId × Value → X} {W : World}
def El.okW (h : H) (e : El) : Prop := e.ok h ∧ e.c.Wide ∧ FreeS e.vg ∧ FreeS e.vd
theorem opens_chunk (hd : ∃ (b : Nat) (C : Array Value) (e' : TypeId) (fz : Nat × Nat), W.heap[b]? = some (Obj.cells C e' fz)) : OpensTo enc Try.prog W 49 El.cells El.okW := by
  intro fuel cs x ι l hr h
  obtain ⟨hl, n, hf⟩ := trod_flds (by kernel_rfl) h
  rw [show Try.prog.cellsOf 49 = 15 by kernel_rfl] at hl
  obtain ⟨_, y0⟩ := hf 0 3 0 1 (by kernel_rfl)
  obtain ⟨_, y1⟩ := hf 1 3 1 1 (by kernel_rfl)
  obtain ⟨_, y2⟩ := hf 2 23 2 1 (by kernel_rfl)
  obtain ⟨_, y3⟩ := hf 3 3 3 1 (by kernel_rfl)
  obtain ⟨_, y4⟩ := hf 4 3 4 1 (by kernel_rfl)
  obtain ⟨_, y5⟩ := hf 5 23 5 1 (by kernel_rfl)
  obtain ⟨_, y6⟩ := hf 6 9 6 1 (by kernel_rfl)
  obtain ⟨_, y7⟩ := hf 7 23 7 1 (by kernel_rfl)
  obtain ⟨_, y8⟩ := hf 8 23 8 1 (by kernel_rfl)
  obtain ⟨_, y9⟩ := hf 9 3 9 1 (by kernel_rfl)
  obtain ⟨_, y10⟩ := hf 10 3 10 1 (by kernel_rfl)
  obtain ⟨_, y11⟩ := hf 11 44 11 1 (by kernel_rfl)
  obtain ⟨_, y12⟩ := hf 12 45 12 1 (by kernel_rfl)
  obtain ⟨_, y13⟩ := hf 13 46 13 1 (by kernel_rfl)
  obtain ⟨_, y14⟩ := hf 14 47 14 1 (by kernel_rfl)
  obtain ⟨a0, e0, w0⟩ := int_leaf Try.underlying3 y0
  obtain ⟨a1, e1, w1⟩ := int_leaf Try.underlying3 y1
  obtain ⟨a2, e2, w2⟩ := int_leaf Try.underlying23 y2
  obtain ⟨a3, e3, w3⟩ := int_leaf Try.underlying3 y3
  obtain ⟨a4, e4, w4⟩ := int_leaf Try.underlying3 y4
  obtain ⟨a5, e5, w5⟩ := int_leaf Try.underlying23 y5
  obtain ⟨a6, e6, w6⟩ := str_leaf Try.underlying9 y6
  obtain ⟨a7, e7, w7⟩ := int_leaf Try.underlying23 y7
  obtain ⟨a8, e8, w8⟩ := int_leaf Try.underlying23 y8
  obtain ⟨a9, e9, w9⟩ := int_leaf Try.underlying3 y9
  obtain ⟨a10, e10, w10⟩ := int_leaf Try.underlying3 y10
  clear y0 y1 y2 y3 y4 y5 y6 y7 y8 y9 y10 hf h
  obtain ⟨v0, v1, v2, v3, v4, v5, v6, v7, v8, v9, v10, v11, v12, v13, v14, rfl⟩ := list15 hl
  simp only [List.getElem?_cons_zero, List.getElem?_cons_succ, Option.some.injEq] at e0 e1 e2 e3 e4 e5 e6 e7 e8 e9 e10
  subst e0 e1 e2 e3 e4 e5 e6 e7 e8 e9 e10
  simp only [List.drop_succ_cons, List.drop_zero, List.take_succ_cons, List.take_zero] at y11 y12 y13 y14
  have c95 : Try.prog.cellsOf 95 = 2 := by kernel_rfl
  have c97 : Try.prog.cellsOf 97 = 2 := by kernel_rfl
  have c99 : Try.prog.cellsOf 99 = 2 := by kernel_rfl
  have c23 : Try.prog.cellsOf 23 = 1 := by kernel_rfl
  obtain ⟨L1, u1, ι1, m1, r1, g1, q1, s1, o1, n1, z1⟩ := opens_slice Try.underlying44 c95 (by decide) Pm.cells_len (fun _ _ _ h => h) (opens_pm (ti := 3) (ts := 9) (by kernel_rfl) (by kernel_rfl) Try.underlying3 Try.underlying9 c95) hd hr y11
  obtain ⟨L2, u2, ι2, m2, r2, g2, q2, s2, o2, n2, z2⟩ := opens_slice Try.underlying45 c97 (by decide) Pm.cells_len (fun _ _ _ h => h) (opens_pm (ti := 3) (ts := 9) (by kernel_rfl) (by kernel_rfl) Try.underlying3 Try.underlying9 c97) hd r1 y12
  obtain ⟨L3, u3, ι3, m3, r3, g3, q3, s3, o3, n3, z3⟩ := opens_slice Try.underlying46 c99 (by decide) gapCells_len (fun _ _ _ h => h) (opens_gap (ti := 3) (by kernel_rfl) (by kernel_rfl) Try.underlying3 c99) hd r2 y13
  obtain ⟨L4, u4, ι4, m4, r4, g4, q4, s4, o4, n4, z4⟩ := opens_slice Try.underlying47 c23 (by decide) dupCells_len (fun _ _ _ h => h) (opens_u32 Try.underlying23) hd r3 y14
  refine ⟨⟨⟨a0, a1, a2, a3, a4, a5, a6, a7, a8, a9, a10, L1, L2, L3, L4⟩, u1, u2, u3, u4⟩, ι4, m1 ++ (m2 ++ (m3 ++ m4)), by simpa only [List.append_assoc] using r4, ?_, ?_, ?_⟩
  · have := ((g1.trans g2).trans g3).trans g4
    simpa only [List.append_assoc] using this
  · have p1 := RelV.step g4 (RelV.step g3 (RelV.step g2 q1))
    have p2 := RelV.step g4 (RelV.step g3 q2)
    have p3 := RelV.step g4 q3
    simp only [List.append_assoc] at p1 p2 p3 q4
    simp (dsimp := false) [El.cells, Ck.cells, RelVs, RelV, p1, p2, p3, q4]
  · have t1 := Sl.app (es' := []) (m := m2 ++ (m3 ++ m4)) s1
    have t2 := Sl.app (es' := []) (m := m3 ++ m4) s2
    have t3 := Sl.app (es' := []) (m := m4) s3
    simp only [List.append_assoc] at t1 t2 t3 s4
    refine ⟨⟨t1, t2, t3, s4⟩, ⟨?_, ?_, w6, o1, o2, o3, o4, n1, n2, n3, n4⟩, z3, z4⟩
    · simp only [List.mem_cons, List.not_mem_nil, or_false]
      rintro x (rfl | rfl | rfl | rfl | rfl | rfl) <;> assumption
    · simp only [List.mem_cons, List.not_mem_nil, or_false]
      rintro x (rfl | rfl | rfl | rfl) <;> assumption
theorem block_of {P : Program} {t e : TypeId} {r : Reach} {base : Nat} {v : Value} (ht : P.underlying t = some (.slice e)) (h : Cell.okWide P W r base t v) : v = .slice none 0 0 ∨ ∃ (b : Nat) (C : Array Value) (e' : TypeId) (fz : Nat × Nat), W.heap[b]? = some (Obj.cells C e' fz) := by
  unfold Cell.okWide at h
  rw [ht] at h
  simp only at h
  unfold Cell.ok at h
  rw [ht] at h
  split at h
  all_goals first | (rename_i h0; cases h0; done) | skip
  · exact .inl rfl
  · obtain ⟨-, -, -, -, row, cells, hs, -⟩ := h
    right
    unfold World.shape? at hs
    split at hs
    · rename_i c e' fz hc
      exact ⟨_, c, e', fz, hc⟩
    · cases hs
  · cases h
theorem agg_of {P : Program} {t : TypeId} {r : Reach} {base : Nat} {v : Value} (hs : (fld P t 0).isSome = true) (h : Value.okWide P W r base t v) : ∃ cs, v = .agg cs ∧ cs.size = P.cellsOf t ∧ Row.okWide P W r base t cs := by
  unfold fld at hs
  split at hs
  · rename_i fs ht
    unfold Value.okWide at h
    rw [ht] at h
    exact h
  · cases hs
theorem list4 {cs : List Value} (h : cs.length = 4) : ∃ a b c d, cs = [a, b, c, d] := by
  match cs, h with
  | [a, b, c, d], _ => exact ⟨a, b, c, d, rfl⟩
theorem rel0 (w : World) : Rel (fun _ _ => ⟨0, 0, 0, 0, 0⟩) w.heap.size ⟨[], []⟩ w :=
  ⟨fun b k hk => by simp at hk, fun b b' k k' hk => by simp at hk, Nat.le_refl _, fun b k hk => by simp at hk⟩
set_option maxRecDepth 100000 in
theorem open_packet {r : Reach} {base : Nat} {v : Value} {d : DataW X} {ps : List MemPlace} (hval : Value.okWide Try.prog W r base 34 v) (h : DataW.Trod enc Try.prog W 0 (fun _ => true) true 34 v d ps) :
    ∃ (f t tag : Int) (L : List El) (u : V) (ι : Map) (m : List Blk), Rel ι W.heap.size ⟨m, []⟩ W ∧ RelV ι ⟨m, []⟩ (.agg [.int .i64 f, .int .i64 t, .int .u32 tag, u]) v ∧ CksIs ⟨m, []⟩ L u ∧ (∀ e ∈ L, e.c.Wide ∧ FreeS e.vg ∧ FreeS e.vd) ∧ L.length ≤ maxLen ∧
      (Lit.int .i64 f).wf = true ∧ (Lit.int .i64 t).wf = true ∧ (Lit.int .u32 tag).wf = true := by
  obtain ⟨cs, rfl, hsz, ts, hts, -, hcell⟩ := agg_of (P := Try.prog) (t := 34) (by kernel_rfl) hval
  obtain ⟨fuel, h⟩ := h
  have hl4 : cs.toList.length = 4 := by
    rw [Array.length_toList, hsz]
    kernel_rfl
  have hct : Try.prog.cellTypes Try.prog.depth 34 = some [3, 3, 23, 32] := by kernel_rfl
  obtain rfl : [3, 3, 23, 32] = ts := Option.some.inj (hct.symm.trans hts)
  obtain ⟨hl, n, hf⟩ := trod_flds (by kernel_rfl) h
  obtain ⟨_, y0⟩ := hf 0 3 0 1 (by kernel_rfl)
  obtain ⟨_, y1⟩ := hf 1 3 1 1 (by kernel_rfl)
  obtain ⟨_, y2⟩ := hf 2 23 2 1 (by kernel_rfl)
  obtain ⟨_, y3⟩ := hf 3 32 3 1 (by kernel_rfl)
  have hcl : (Value.agg cs).cells.toList = cs.toList := rfl
  rw [hcl] at y0 y1 y2 y3
  obtain ⟨a0, e0, w0⟩ := int_leaf Try.underlying3 y0
  obtain ⟨a1, e1, w1⟩ := int_leaf Try.underlying3 y1
  obtain ⟨a2, e2, w2⟩ := int_leaf Try.underlying23 y2
  obtain ⟨v0, v1, v2, v3, hv⟩ := list4 hl4
  have hcs : cs = #[v0, v1, v2, v3] := by rw [← @Array.toArray_toList _ cs, hv]
  subst hcs
  simp only [List.getElem?_cons_zero, List.getElem?_cons_succ, Option.some.injEq] at e0 e1 e2
  subst e0 e1 e2
  simp only [List.drop_succ_cons, List.drop_zero, List.take_succ_cons, List.take_zero] at y3
  obtain ⟨u, hu, hok⟩ := hcell 3 v3 rfl
  simp only [List.length_cons, List.length_nil] at hu
  obtain rfl : 32 = u := Option.some.inj hu
  rcases block_of Try.underlying32 hok with rfl | hd
  · exact ⟨a0, a1, a2, [], .nils, _, [], rel0 W, by simp (dsimp := false) [RelV, RelVs], ⟨Sl.nil _ 15, by simp⟩, by simp, by simp, w0, w1, w2⟩
  · obtain ⟨L, u, ι, m, h1, -, h3, h4, h5, h6, -⟩ := opens_slice Try.underlying32 (by kernel_rfl) (by decide) El.cells_len (fun l m a h => ⟨CkIs.app h.1 m, h.2⟩) (opens_chunk hd) hd (rel0 W) y3
    rw [List.nil_append] at h1 h3 h4 h5
    exact ⟨a0, a1, a2, L, u, ι, m, h1, by simp (dsimp := false) [RelV, RelVs, h3], ⟨h4, fun e he => (h5 e he).1⟩, fun e he => (h5 e he).2, h6, w0, w1, w2⟩
end Go.Proofs.Ytbncfiijlnakkaa
end
section
namespace Go.Proofs.Ytbncfiijlnakkaa
open Go.Hl
set_option maxHeartbeats 4000000
def cutPm (p : Pm) : Pm := ⟨p.typ, p.val.take 60⟩
def cutCk (c : Ck) : Ck := { c with data := c.data.take 950, params := (c.params.take 18).map cutPm, causes := (c.causes.take 18).map cutPm, gaps := c.gaps.take 18, dups := c.dups.take 18 }
variable {C : CallT} {h : H}
/-- What a cut chunk is. -/
def CutPost (h : H) (c : Ck) (ug ud : V) (x : V × H) : Prop := ∃ vp vc vg vd, x.1 = .agg ((cutCk c).cells vp vc vg vd) ∧ Ext h x.2 ∧ CkIs x.2 (cutCk c) vp vc vg vd ∧ Hi h.blks.length vp ∧ Hi h.blks.length vc ∧ (∀ n k, Beyond n k ug → Beyond n k vg) ∧ ∀ n k, Beyond n k ud → Beyond n k vd
theorem sl_at {l : List Blk} {es : List (Nat × Nat)} {z b k : Nat} {cs : List V} (hb : l[b]? = some ⟨cs, k, 0, false⟩) (hc : cs.length = k * z) : Sl ⟨l, es⟩ z k cs (.sl b 0 k k z false) :=
  .inr ⟨b, 0, k, false, ⟨cs, k, 0, false⟩, rfl, hb, Nat.zero_le _, Nat.le_refl _, by simp only [List.drop_zero]; rw [List.take_of_length_le (Nat.le_of_eq hc)], hc⟩
theorem flat_cut {α : Type} {f : α → List V} {z : Nat} (hf : ∀ a, (f a).length = z) {l : List α} {k : Nat} : (l.take k).flatMap f = (l.flatMap f).take (k * z) := by
  induction l generalizing k with
  | nil => simp
  | cons a l ih =>
    cases k with
    | zero => simp
    | succ k =>
      have h1 : (f a).take ((k + 1) * z) = f a := List.take_of_length_le (by rw [hf a]; exact Nat.le_mul_of_pos_left _ (by omega))
      have h2 : (k + 1) * z - (f a).length = k * z := by
        rw [hf a, Nat.add_mul]
        omega
      rw [List.take_succ_cons, List.flatMap_cons, List.flatMap_cons, List.take_append, h1, h2, ih]
theorem take_min {α : Type} (k : Nat) (l : List α) : l.take (min k l.length) = l.take k := by
  rw [← List.take_take, List.take_length]
theorem cut_min {K : Int} (k n : Nat) (hK : K = (k : Int)) : ∃ d : Nat, (if K < (n : Int) then K else (n : Int)) = (d : Int) ∧ (((d : Int) ≤ (n : Int)) = True) ∧ d = min k n :=
  ⟨min k n, by split <;> omega, eq_true (by omega), rfl⟩
set_option maxRecDepth 100000 in
theorem cut06 {c : Ck} {vp vc vg vd : V} (hc : CkIs h c vp vc vg vd) (_hw : c.Wide) (fg : FreeS vg) (fd : FreeS vd) : Ok (Does Try.prog C 47 [.agg (c.cells vp vc vg vd)] h) (CutPost h c vg vd) := by
  have hf := hc.facts
  have l1 := hc.sp.len Try.underlying44
  have l2 := hc.sc.len Try.underlying45
  have l3 := hc.sg.len Try.underlying46
  have l4 := hc.sd.len Try.underlying47
  obtain ⟨nd, hnd, hnd1, hnd2⟩ := cut_min (K := 950) 950 c.data.length rfl
  obtain ⟨np, hnp⟩ : ∃ n, n = min 18 c.params.length := ⟨_, rfl⟩
  obtain ⟨nc, hnc⟩ : ∃ n, n = min 18 c.causes.length := ⟨_, rfl⟩
  obtain ⟨pp1, pp2, hp1, -, hp3, hp4⟩ := (hc.sp.blks (h' := ⟨h.blks, []⟩) rfl).atF Pm.cells_len
  obtain ⟨pk1, pk2, hk1, -, hk3, hk4⟩ := (hc.sc.blks (h' := ⟨h.blks, []⟩) rfl).atF Pm.cells_len
  obtain ⟨ng, hng, hng1, hng2⟩ := cut_min (K := 18) 18 c.gaps.length rfl
  obtain ⟨nu, hnu, hnu1, hnu2⟩ := cut_min (K := 18) 18 c.dups.length rfl
  obtain ⟨vg', hvg, hsg, hog⟩ := Sl.cut hc.sg fg (k := ng) (by omega)
  obtain ⟨vd', hvd, hsd, hod⟩ := Sl.cut hc.sd fd (k := nu) (by omega)
  have hfg := hsg.facts
  have hfd := hsd.facts
  unfold Ck.cells at *
  refine Does_wp (n := 112) (rs := [.cell 2 49]) Try.func47 (by kernel_rfl) rfl rfl rfl (by simp) fun σ hg => ?_
  simp (dsimp := false) [hg, hf, splice, hnd, hnd1]
  refine W_loopM (fun k σ h' => ∃ i : Nat, ∃ m es0, k = np - i ∧ i ≤ np ∧ h' = ⟨h.blks ++ (⟨[.int .i64 c.typ, .int .i64 c.flags, .int .u32 c.tsn, .int .i64 c.stream, .int .i64 c.ssn, .int .u32 c.proto, .str c.data, .int .u32 c.tag, .int .u32 c.rwnd, .int .i64 c.out, .int .i64 c.inn, vp, vc, vg, vd], 0, 0, false⟩ :: ⟨ck0.cells .nils .nils .nils .nils, 0, 0, false⟩ :: ⟨[.int .i64 c.typ, .int .i64 c.flags, .int .u32 c.tsn, .int .i64 c.stream, .int .i64 c.ssn, .int .u32 c.proto, .str (c.data.take nd), .int .u32 c.tag, .int .u32 c.rwnd, .int .i64 c.out, .int .i64 c.inn, .sl (h.blks.length + 3) 0 i i 2 false, .sl (h.blks.length + 4) 0 0 0 2 false, vg, vd], 0, 0, false⟩ :: ⟨((c.params.take i).map cutPm).flatMap Pm.cells, i, 0, false⟩ :: ⟨((c.causes.take 0).map cutPm).flatMap Pm.cells, 0, 0, false⟩ :: m), es0⟩ ∧ σ 1 = .ptr h.blks.length 0 0 15 ∧ σ 2 = .ptr (h.blks.length + 1) 0 0 15 ∧ σ 3 = .ptr (h.blks.length + 2) 0 0 15 ∧ σ 4 = .int .i64 i ∧ (∀ y ∈ es0, h.blks.length ≤ y.1)) ?_ np _ _ ?_
  · rintro _ σ _ ⟨i, m, es0, rfl, hi, rfl, h1, h2, h3, h4, he⟩
    have hE : ∀ m, Ext ⟨h.blks, []⟩ ⟨h.blks ++ m, es0⟩ := fun m => ⟨m, es0, by simp, he⟩
    by_cases hlt : i < np
    · have hli : i < c.params.length := by omega
      have d1 := eq_true (show i < c.params.length by omega)
      have d2 := eq_true (show (i : Int) < 18 by omega)
      obtain ⟨nv, hnv, hnv1, hnv2⟩ := cut_min (K := 60) 60 c.params[i].val.length rfl
      have hnt : c.params[i].val.take nv = c.params[i].val.take 60 := by rw [hnv2, take_min]
      have hx := fun m => hp4 i hli 0 (by decide) _ (hE m)
      have hy := fun m => hp4 i hli 1 (by decide) _ (hE m)
      have hia := hp1 i hli
      have hfa := hp3 i hli
      simp only [Pm.cells] at hx hy
      simp at hx hy
      have ha := append_at (es := es0) (l := h.blks ++ (⟨[.int .i64 c.typ, .int .i64 c.flags, .int .u32 c.tsn, .int .i64 c.stream, .int .i64 c.ssn, .int .u32 c.proto, .str c.data, .int .u32 c.tag, .int .u32 c.rwnd, .int .i64 c.out, .int .i64 c.inn, vp, vc, vg, vd], 0, 0, false⟩ :: ⟨ck0.cells .nils .nils .nils .nils, 0, 0, false⟩ :: ⟨[.int .i64 c.typ, .int .i64 c.flags, .int .u32 c.tsn, .int .i64 c.stream, .int .i64 c.ssn, .int .u32 c.proto, .str (c.data.take nd), .int .u32 c.tag, .int .u32 c.rwnd, .int .i64 c.out, .int .i64 c.inn, .sl (h.blks.length + 3) 0 i i 2 false, .sl (h.blks.length + 4) 0 0 0 2 false, vg, vd], 0, 0, false⟩ :: ⟨((c.params.take i).map cutPm).flatMap Pm.cells, i, 0, false⟩ :: ⟨((c.causes.take 0).map cutPm).flatMap Pm.cells, 0, 0, false⟩ :: (m ++ [⟨(cutPm c.params[i]).cells, 0, 0, false⟩]))) (cs := ((c.params.take i).map cutPm).flatMap Pm.cells) (ys := (cutPm c.params[i]).cells) (k := i) (esz := 2) (eb := 24) (b := h.blks.length + 3) (j := h.blks.length + (m.length + 1 + 1 + 1 + 1 + 1)) (by simp) (by simp)
        (by rw [flat_len Pm.cells_len]; simp; omega) rfl (by decide) (by simp (dsimp := false) [Pm.cells]) (Nat.le_trans (Nat.mul_le_mul_right 24 (show i + 1 ≤ 18 by omega)) (by decide)) (Nat.le_trans (show i + 1 ≤ 18 by omega) (by decide))
      simp (dsimp := false) [Pm.cells, cutPm, ck0, Ck.cells] at ha
      simp (dsimp := false) [-run_groupK, run_join, h1, h4, l1, d1, d2, ck0, Ck.cells]
      refine (W_anyF (F := [(1, 24)]) (by kernel_rfl)).2 ?_
      simp (dsimp := false) [-run_groupK, h1, h2, h3, h4, hia, hfa, hx, hy, hnv, hnv1, hnt, splice, ha, ck0, Ck.cells]
      have hfl : ((c.params.map cutPm).take i).flatMap Pm.cells ++ [.int .i64 c.params[i].typ, .str (c.params[i].val.take 60)] = ((c.params.map cutPm).take (i + 1)).flatMap Pm.cells := by
        rw [flat_take (show i < (c.params.map cutPm).length by simpa using hli)]
        simp (dsimp := false) [cutPm, Pm.cells]
      refine ⟨np - (i + 1), by omega, i + 1, rfl, by omega, _, _, ⟨⟨rfl, ⟨hfl, rfl⟩, rfl⟩, rfl⟩, by rw [wrap_succ hlt (by omega)], ?_⟩
      intro a b hab
      rcases List.mem_append.1 hab with hab | hab
      · exact he _ hab
      · simp only [List.mem_singleton, Prod.mk.injEq] at hab
        omega
    · have d1 := eq_false (show ¬ (i < c.params.length ∧ (i : Int) < 18) by omega)
      obtain rfl : np = i := by omega
      simp (dsimp := false) [-run_groupK, run_join, h1, h4, l1, d1]
      refine W_loopM (fun k σ h' => ∃ i : Nat, ∃ m es0, k = nc - i ∧ i ≤ nc ∧ h' = ⟨h.blks ++ (⟨[.int .i64 c.typ, .int .i64 c.flags, .int .u32 c.tsn, .int .i64 c.stream, .int .i64 c.ssn, .int .u32 c.proto, .str c.data, .int .u32 c.tag, .int .u32 c.rwnd, .int .i64 c.out, .int .i64 c.inn, vp, vc, vg, vd], 0, 0, false⟩ :: ⟨ck0.cells .nils .nils .nils .nils, 0, 0, false⟩ :: ⟨[.int .i64 c.typ, .int .i64 c.flags, .int .u32 c.tsn, .int .i64 c.stream, .int .i64 c.ssn, .int .u32 c.proto, .str (c.data.take nd), .int .u32 c.tag, .int .u32 c.rwnd, .int .i64 c.out, .int .i64 c.inn, .sl (h.blks.length + 3) 0 np np 2 false, .sl (h.blks.length + 4) 0 i i 2 false, vg, vd], 0, 0, false⟩ :: ⟨((c.params.take np).map cutPm).flatMap Pm.cells, np, 0, false⟩ :: ⟨((c.causes.take i).map cutPm).flatMap Pm.cells, i, 0, false⟩ :: m), es0⟩ ∧ σ 1 = .ptr h.blks.length 0 0 15 ∧ σ 2 = .ptr (h.blks.length + 1) 0 0 15 ∧ σ 3 = .ptr (h.blks.length + 2) 0 0 15 ∧ σ 5 = .int .i64 i ∧ (∀ y ∈ es0, h.blks.length ≤ y.1)) ?_ nc _ _ ?_
      · rintro _ σ _ ⟨i, m, es0, rfl, hi, rfl, h1, h2, h3, h4, he⟩
        have hE : ∀ m, Ext ⟨h.blks, []⟩ ⟨h.blks ++ m, es0⟩ := fun m => ⟨m, es0, by simp, he⟩
        by_cases hlt : i < nc
        · have hli : i < c.causes.length := by omega
          have d1 := eq_true (show i < c.causes.length by omega)
          have d2 := eq_true (show (i : Int) < 18 by omega)
          obtain ⟨nv, hnv, hnv1, hnv2⟩ := cut_min (K := 60) 60 c.causes[i].val.length rfl
          have hnt : c.causes[i].val.take nv = c.causes[i].val.take 60 := by rw [hnv2, take_min]
          have hx := fun m => hk4 i hli 0 (by decide) _ (hE m)
          have hy := fun m => hk4 i hli 1 (by decide) _ (hE m)
          have hia := hk1 i hli
          have hfa := hk3 i hli
          simp only [Pm.cells] at hx hy
          simp at hx hy
          have ha := append_at (es := es0) (l := h.blks ++ (⟨[.int .i64 c.typ, .int .i64 c.flags, .int .u32 c.tsn, .int .i64 c.stream, .int .i64 c.ssn, .int .u32 c.proto, .str c.data, .int .u32 c.tag, .int .u32 c.rwnd, .int .i64 c.out, .int .i64 c.inn, vp, vc, vg, vd], 0, 0, false⟩ :: ⟨ck0.cells .nils .nils .nils .nils, 0, 0, false⟩ :: ⟨[.int .i64 c.typ, .int .i64 c.flags, .int .u32 c.tsn, .int .i64 c.stream, .int .i64 c.ssn, .int .u32 c.proto, .str (c.data.take nd), .int .u32 c.tag, .int .u32 c.rwnd, .int .i64 c.out, .int .i64 c.inn, .sl (h.blks.length + 3) 0 np np 2 false, .sl (h.blks.length + 4) 0 i i 2 false, vg, vd], 0, 0, false⟩ :: ⟨((c.params.take np).map cutPm).flatMap Pm.cells, np, 0, false⟩ :: ⟨((c.causes.take i).map cutPm).flatMap Pm.cells, i, 0, false⟩ :: (m ++ [⟨(cutPm c.causes[i]).cells, 0, 0, false⟩]))) (cs := ((c.causes.take i).map cutPm).flatMap Pm.cells) (ys := (cutPm c.causes[i]).cells) (k := i) (esz := 2) (eb := 24) (b := h.blks.length + 4) (j := h.blks.length + (m.length + 1 + 1 + 1 + 1 + 1)) (by simp) (by simp)
            (by rw [flat_len Pm.cells_len]; simp; omega) rfl (by decide) (by simp (dsimp := false) [Pm.cells]) (Nat.le_trans (Nat.mul_le_mul_right 24 (show i + 1 ≤ 18 by omega)) (by decide)) (Nat.le_trans (show i + 1 ≤ 18 by omega) (by decide))
          simp (dsimp := false) [Pm.cells, cutPm, ck0, Ck.cells] at ha
          simp (dsimp := false) [-run_groupK, run_join, h1, h4, l2, d1, d2, ck0, Ck.cells]
          refine (W_anyF (F := [(1, 24)]) (by kernel_rfl)).2 ?_
          simp (dsimp := false) [-run_groupK, h1, h2, h3, h4, hia, hfa, hx, hy, hnv, hnv1, hnt, splice, ha, ck0, Ck.cells]
          have hfl : ((c.causes.map cutPm).take i).flatMap Pm.cells ++ [.int .i64 c.causes[i].typ, .str (c.causes[i].val.take 60)] = ((c.causes.map cutPm).take (i + 1)).flatMap Pm.cells := by
            rw [flat_take (show i < (c.causes.map cutPm).length by simpa using hli)]
            simp (dsimp := false) [cutPm, Pm.cells]
          refine ⟨nc - (i + 1), by omega, i + 1, rfl, by omega, _, _, ⟨⟨rfl, ⟨hfl, rfl⟩, rfl⟩, rfl⟩, by rw [wrap_succ hlt (by omega)], ?_⟩
          intro a b hab
          rcases List.mem_append.1 hab with hab | hab
          · exact he _ hab
          · simp only [List.mem_singleton, Prod.mk.injEq] at hab
            omega
        · have d1 := eq_false (show ¬ (i < c.causes.length ∧ (i : Int) < 18) by omega)
          obtain rfl : nc = i := by omega
          simp (dsimp := false) [-run_groupK, run_join, h1, h4, l2, d1]
          refine (W_anyF (F := [(8, 15), (10, 15)]) (by kernel_rfl)).2 ?_
          simp (dsimp := false) [h1, h2, h3, l3, l4, hng, hnu, hvg, hvd, hfg, hfd, splice, ck0, Ck.cells]

          rw [show c.data.take nd = c.data.take 950 by rw [hnd2, take_min]]
          have ep : (cutCk c).params = (c.params.map cutPm).take np := by
            have := take_min 18 (c.params.map cutPm)
            rw [List.length_map, ← hnp] at this
            rw [this]
            simp (dsimp := false) [cutCk, List.map_take]
          have ek : (cutCk c).causes = (c.causes.map cutPm).take nc := by
            have := take_min 18 (c.causes.map cutPm)
            rw [List.length_map, ← hnc] at this
            rw [this]
            simp (dsimp := false) [cutCk, List.map_take]
          have eg : (cutCk c).gaps = c.gaps.take ng := by rw [hng2, take_min]; rfl
          have eu : (cutCk c).dups = c.dups.take nu := by rw [hnu2, take_min]; rfl
          have lp : ((c.params.map cutPm).take np).length = np := by simp; omega
          have lk : ((c.causes.map cutPm).take nc).length = nc := by simp; omega
          have lg : (c.gaps.take ng).length = ng := by simp; omega
          have lu : (c.dups.take nu).length = nu := by simp; omega
          refine ⟨.sl (h.blks.length + 3) 0 np np 2 false, .sl (h.blks.length + 4) 0 nc nc 2 false, vg', vd', rfl, leave_ext ?_, ⟨leave_sl ?_ ?_, leave_sl ?_ ?_, leave_sl ?_ ?_, leave_sl ?_ ?_⟩, ?_, ?_, hog, hod⟩
          · intro y hy
            simp only [List.mem_append, List.mem_cons, List.not_mem_nil, or_false] at hy
            rcases hy with hy | rfl | rfl
            · exact he y hy
            all_goals (show h.blks.length ≤ _; simp only; omega)
          · rw [ep, lp]
            exact sl_at (by simp) (by rw [flat_len Pm.cells_len, lp])
          · intro hh
            simp at hh
            omega
          · rw [ek, lk]
            exact sl_at (by simp) (by rw [flat_len Pm.cells_len, lk])
          · intro hh
            simp at hh
            omega
          · rw [eg, lg, flat_cut gapCells_len]
            exact (hsg.blks (h' := ⟨h.blks, []⟩) rfl).app
          · exact fun _ => hfg.2.2.2.1
          · rw [eu, lu, flat_cut dupCells_len]
            exact (hsd.blks (h' := ⟨h.blks, []⟩) rfl).app
          · exact fun _ => hfd.2.2.2.1
          · exact fun _ _ _ _ _ _ h => by injection h; omega
          · exact fun _ _ _ _ _ _ h => by injection h; omega
      · exact ⟨0, m, es0, by simp (dsimp := false) [h1, h2, h3]; exact fun a b hab => he _ hab⟩
  · exact ⟨0, [], [(h.blks.length + 2, h.blks.length + 3), (h.blks.length + 2, h.blks.length + 4)], by simp (dsimp := false) [ck0, Ck.cells, Nat.le_add_right]⟩
end Go.Proofs.Ytbncfiijlnakkaa
end
section
namespace Go.Proofs.Ytbncfiijlnakkaa
open Go.Hl
set_option maxHeartbeats 4000000
structure CksO (n k : Nat) (h : H) (l : List El) (v : V) : Prop where
  is : CksIs h l v
  own : OwnF k h 15 l.length v
  el : ∀ e ∈ l, ∀ u ∈ [e.vp, e.vc, e.vg, e.vd], Beyond n k u
theorem CkIs.mid {A mid mid' m : List Blk} {es es' : List (Nat × Nat)} {c : Ck} {vp vc vg vd : V} (hl : mid'.length = mid.length) (hs : CkIs ⟨A ++ (mid ++ m), es⟩ c vp vc vg vd) (ho : ∀ u ∈ [vp, vc, vg, vd], Beyond A.length (A.length + mid.length) u) : CkIs ⟨A ++ (mid' ++ m), es'⟩ c vp vc vg vd :=
  ⟨mid_swap hl hs.sp (ho _ (by simp)), mid_swap hl hs.sc (ho _ (by simp)), mid_swap hl hs.sg (ho _ (by simp)), mid_swap hl hs.sd (ho _ (by simp))⟩
theorem CksO.mid {A mid mid' m : List Blk} {es es' : List (Nat × Nat)} {l : List El} {v : V} (hl : mid'.length = mid.length) (hS : CksO A.length (A.length + mid.length) ⟨A ++ (mid ++ m), es⟩ l v) : CksO A.length (A.length + mid.length) ⟨A ++ (mid' ++ m), es'⟩ l v := by
  have h1 := hS.is.sl
  have h2 := hS.own
  rw [← List.append_assoc] at h1 h2
  rw [← List.length_append] at h2
  obtain ⟨h3, h4⟩ := SlOwn_swap (p' := A ++ mid') (es' := es') (by simp (dsimp := false) [hl]) h1 h2
  rw [List.append_assoc] at h3 h4
  rw [List.length_append, hl] at h4
  exact ⟨⟨h3, fun e he => CkIs.mid hl (hS.is.el e he) (hS.el e he)⟩, h4, hS.el⟩
theorem CksO.app {n k : Nat} {l : List Blk} {es es' : List (Nat × Nat)} {L : List El} {v : V} (s : CksO n k ⟨l, es⟩ L v) (m : List Blk) : CksO n k ⟨l ++ m, es'⟩ L v := ⟨s.is.app m, s.own.app, s.el⟩
theorem CksO.nil (n k : Nat) (h : H) : CksO n k h [] .nils := ⟨⟨Sl.nil h 15, by simp⟩, OwnF.nil k h 15, by simp⟩
theorem CksO.snoc {n : Nat} {pre m : List Blk} {es : List (Nat × Nat)} {l : List El} {v : V} {e : El} (hS : CksO n pre.length ⟨pre ++ m, es⟩ l v) (he : e.ok ⟨pre ++ m, es⟩) (hH : ∀ u ∈ [e.vp, e.vc, e.vg, e.vd], Beyond n pre.length u) (hl : l.length ≤ 1000) (j : Nat) (hj : j = pre.length + m.length) :
    ∃ v' m' es', appendV 15 184 ⟨pre ++ (m ++ [⟨e.cells, 0, 0, false⟩]), es⟩ v (.sl j 0 1 0 15 false) = some (v', ⟨pre ++ m', es ++ es'⟩) ∧ (∀ x ∈ es', pre.length ≤ x.1) ∧ CksO n pre.length ⟨pre ++ m', es ++ es'⟩ (l ++ [e]) v' ∧ v' ≠ .nils := by
  have hok : e.cells.all V.cellOk = true := by
    have := CkIs.facts he
    simp (dsimp := false) [El.cells, Ck.cells, this]
  obtain ⟨v', m', es', h1, h2, h3, h4, h5, -, h7⟩ := append_new (eb := 184) (ys := e.cells) hS.is.sl hS.own rfl (by decide) hok (by omega) (by omega) j hj
  refine ⟨v', m', es', h1, h4, ⟨⟨?_, ?_⟩, ?_, ?_⟩, h7⟩
  · rw [List.length_append, List.flatMap_append, List.flatMap_singleton]
    exact h2
  · intro x hx
    rcases List.mem_append.1 hx with hx | hx
    · exact CkIs.keep (hS.is.el x hx) h5
    · rw [List.mem_singleton.1 hx]
      exact CkIs.keep he h5
  · rw [List.length_append]
    exact h3
  · intro x hx
    rcases List.mem_append.1 hx with hx | hx
    · exact hS.el x hx
    · rw [List.mem_singleton.1 hx]
      exact hH
def cutL (l : List Ck) : List Ck := (l.take 22).map cutCk
variable {C : CallT} {h : H}
/-- What a cut packet is. -/
def PkPost (h : H) (f t tag : Int) (l : List Ck) (x : V × H) : Prop := ∃ L v, x.1 = .agg [.int .i64 f, .int .i64 t, .int .u32 tag, v] ∧ Ext h x.2 ∧ CksIs x.2 L v ∧ L.map El.c = cutL l
set_option maxRecDepth 100000 in
theorem cut07 {l : List El} {v : V} {f t tag : Int} (hs : CksIs h l v) (hw : ∀ e ∈ l, e.c.Wide ∧ FreeS e.vg ∧ FreeS e.vd) : Ok (Does Try.prog C 20 [.agg [.int .i64 f, .int .i64 t, .int .u32 tag, v]] h) (PkPost h f t tag (l.map El.c)) := by
  have hlen := hs.sl.len Try.underlying32
  have hf := hs.sl.facts
  have hs' := hs.blks (h' := ⟨h.blks, []⟩) rfl
  obtain ⟨p, hia, hrd, -⟩ := hs'.sl.at El.cells_len
  obtain ⟨N, hN⟩ : ∃ n, n = min 22 l.length := ⟨_, rfl⟩
  refine Does_wp (n := 35) (rs := [.cell 2 34]) Try.func20 (by kernel_rfl) rfl rfl rfl (by simp) fun σ hg => ?_
  simp (dsimp := false) [hg, hf, splice]
  refine W_loopM (fun k σ h' => ∃ i L u m es, k = N - i ∧ i ≤ N ∧ L.length = i ∧ h' = ⟨h.blks ++ (⟨[.int .i64 f, .int .i64 t, .int .u32 tag, v], 0, 0, false⟩ :: ⟨[.int .i64 0, .int .i64 0, .int .u32 0, .nils], 0, 0, false⟩ :: ⟨[.int .i64 f, .int .i64 t, .int .u32 tag, u], 0, 0, false⟩ :: m), es⟩ ∧
    σ 1 = .ptr h.blks.length 0 0 4 ∧ σ 2 = .ptr (h.blks.length + 1) 0 0 4 ∧ σ 3 = .ptr (h.blks.length + 2) 0 0 4 ∧ σ 4 = .int .i64 i ∧ CksO h.blks.length (h.blks.length + 3) h' L u ∧ (∀ y ∈ es, h.blks.length ≤ y.1) ∧ L.map El.c = ((l.map El.c).take i).map cutCk) ?_ N _ _ ?_
  · rintro _ σ _ ⟨i, L, u, m, es, rfl, hi, hLi, rfl, h1, h2, h3, h4, hC, he, hL⟩
    have hE : ∀ m, Ext ⟨h.blks, []⟩ ⟨h.blks ++ m, es⟩ := fun m => ⟨m, es, by simp, he⟩
    have hu := hC.is.sl.facts
    simp at hu
    by_cases hlt : i < N
    · have hli : i < l.length := by omega
      have d1 := eq_true hli
      have d2 := eq_true (show (i : Int) < 22 by omega)
      have hmem := List.getElem_mem hli
      have hok := hs'.el l[i] hmem
      have hef := hok.facts
      have hr0 := fun m => hrd i hli _ (hE m)
      have hia := hia i hli
      obtain ⟨⟨x1, x2⟩, hx, vp, vc, vg, vd, hv, ⟨m', es', he2, hes'⟩, hS, hp1, hp2, hog, hod⟩ := cut06 (C := C) (c := l[i].c) (h := ⟨h.blks ++ (⟨[.int .i64 f, .int .i64 t, .int .u32 tag, v], 0, 0, false⟩ :: ⟨[.int .i64 0, .int .i64 0, .int .u32 0, .nils], 0, 0, false⟩ :: ⟨[.int .i64 f, .int .i64 t, .int .u32 tag, u], 0, 0, false⟩ :: m), es⟩) (CkIs.app hok _) (hw _ hmem).1 (hw _ hmem).2.1 (hw _ hmem).2.2
      simp only at hv he2 hS
      subst hv he2
      simp at hx hS hes' hp1 hp2
      have hf2 := hS.facts
      simp at hf2
      simp only [El.cells, Ck.cells] at hr0
      unfold Ck.cells at hx
      have hpre : (h.blks ++ [⟨[.int .i64 f, .int .i64 t, .int .u32 tag, v], 0, 0, false⟩, ⟨[.int .i64 0, .int .i64 0, .int .u32 0, .nils], 0, 0, false⟩, (⟨[.int .i64 f, .int .i64 t, .int .u32 tag, u], 0, 0, false⟩ : Blk)]).length = h.blks.length + 3 := by simp
      have hC' : CksO h.blks.length (h.blks ++ [⟨[.int .i64 f, .int .i64 t, .int .u32 tag, v], 0, 0, false⟩, ⟨[.int .i64 0, .int .i64 0, .int .u32 0, .nils], 0, 0, false⟩, (⟨[.int .i64 f, .int .i64 t, .int .u32 tag, u], 0, 0, false⟩ : Blk)]).length ⟨(h.blks ++ [⟨[.int .i64 f, .int .i64 t, .int .u32 tag, v], 0, 0, false⟩, ⟨[.int .i64 0, .int .i64 0, .int .u32 0, .nils], 0, 0, false⟩, (⟨[.int .i64 f, .int .i64 t, .int .u32 tag, u], 0, 0, false⟩ : Blk)]) ++ (m ++ m'), es ++ es'⟩ L u := by
        have h1 := CksO.app (es' := es ++ es') hC m'
        rw [hpre]
        simpa using h1
      obtain ⟨u', m'', es'', ha, he'', hC'', hne⟩ := CksO.snoc (e := ⟨cutCk l[i].c, vp, vc, vg, vd⟩) hC'
        (by simpa [El.ok] using hS)
        (by
          intro w hw
          simp only [List.mem_cons, List.not_mem_nil, or_false] at hw
          rw [hpre]
          rcases hw with rfl | rfl | rfl | rfl
          · exact Beyond.of_hi (hp1.le (by omega))
          · exact Beyond.of_hi (hp2.le (by omega))
          · exact hog _ _ (Beyond.of_under hef.2.2.1.2.2.2.1)
          · exact hod _ _ (Beyond.of_under hef.2.2.2.2.2.2.1)) (by omega) (h.blks.length + (m.length + m'.length + 1 + 1 + 1)) (by simp; omega)
      simp (dsimp := false) [El.cells, Ck.cells] at ha
      have hv' := hC''.is.sl.facts
      simp at hv'
      simp (dsimp := false) [-run_groupK, run_join, h1, h4, hlen, d1, d2]
      refine (W_anyF (F := [(1, 7), (1, 8)]) (by kernel_rfl)).2 ?_
      simp (dsimp := false) [h1, h2, h3, h4, hia, hr0, hx, hf2, splice, ha, hv']
      refine ⟨N - (i + 1), by omega, i + 1, rfl, by omega, L ++ [⟨cutCk l[i].c, vp, vc, vg, vd⟩], by simp (dsimp := false) [hLi], u', m'', _, ⟨⟨rfl, rfl⟩, rfl⟩, by rw [wrap_succ hlt (by omega)], ?_, ?_, ?_⟩
      · rw [hpre] at hC''
        have h5 := CksO.mid (A := h.blks) (mid := [⟨[.int .i64 f, .int .i64 t, .int .u32 tag, v], 0, 0, false⟩, ⟨[.int .i64 0, .int .i64 0, .int .u32 0, .nils], 0, 0, false⟩, ⟨[.int .i64 f, .int .i64 t, .int .u32 tag, u], 0, 0, false⟩]) (mid' := [⟨[.int .i64 f, .int .i64 t, .int .u32 tag, v], 0, 0, false⟩, ⟨[.int .i64 0, .int .i64 0, .int .u32 0, .nils], 0, 0, false⟩, ⟨[.int .i64 f, .int .i64 t, .int .u32 tag, u'], 0, 0, false⟩]) (m := m'') (es := es ++ es' ++ es'') (es' := es ++ (es' ++ (es'' ++ List.map (fun r => (h.blks.length + 2, r)) (V.upto (h.blks.length + 2) u')))) rfl (by simpa using hC'')
        simpa using h5
      · intro a b hab
        simp only [List.mem_append, List.mem_map] at hab
        rcases hab with hab | hab | hab | ⟨_, -, hab⟩
        · exact he _ hab
        · have := hes' a b hab
          omega
        · have := he'' _ hab
          rw [hpre] at this
          simp only at this
          omega
        · injection hab with h1 h2
          omega
      · rw [List.map_append, hL, List.take_succ_eq_append_getElem (by simpa using hli)]
        simp
    · have d1 := eq_false (show ¬ (i < l.length ∧ (i : Int) < 22) by omega)
      obtain rfl : N = i := by omega
      simp (dsimp := false) [-run_groupK, run_join, h1, h2, h3, h4, hlen, d1, hu, splice]
      have hC2 := CksO.mid (A := h.blks) (mid := [⟨[.int .i64 f, .int .i64 t, .int .u32 tag, v], 0, 0, false⟩, ⟨[.int .i64 0, .int .i64 0, .int .u32 0, .nils], 0, 0, false⟩, ⟨[.int .i64 f, .int .i64 t, .int .u32 tag, u], 0, 0, false⟩]) (mid' := [⟨[.int .i64 f, .int .i64 t, .int .u32 tag, v], 0, 0, false⟩, ⟨[.int .i64 f, .int .i64 t, .int .u32 tag, u], 0, 0, false⟩, ⟨[.int .i64 f, .int .i64 t, .int .u32 tag, u], 0, 0, false⟩]) (m := m) (es := es) (es' := es ++ List.map (fun r => (h.blks.length + 1, r)) (V.upto (h.blks.length + 1) u)) rfl (by simpa using hC)
      refine ⟨L, u, rfl, leave_ext ?_, cks_leave (by simpa using hC2.is) (hC.own.hi.le (by omega)) (fun h => by simpa using h), ?_⟩
      · intro y hy
        simp only [List.mem_append, List.mem_map] at hy
        rcases hy with hy | ⟨_, -, rfl⟩
        · exact he y hy
        · show h.blks.length ≤ _
          simp only
          omega
      · rw [hL, cutL, hN]
        have := take_min 22 (l.map El.c)
        rw [List.length_map] at this
        rw [this]
  · exact ⟨0, [], .nils, [], [], by simp (dsimp := false) [CksO.nil]⟩
end Go.Proofs.Ytbncfiijlnakkaa
end
section
namespace Go.Proofs.Ytbncfiijlnakkaa
open Go.Hl
set_option maxHeartbeats 4000000
def c11 : Ck := { ck0 with typ := 11 }
def b11 : Bs := [0, 1, 0, 2, 0, 0, 0, 5, 0, 0, 0, 0, 11, 0, 0, 4]
theorem awake_put : ∃ s, putP 1 2 5 [c11] = s ∧ getP s = (⟨1, 2, 5, [c11]⟩, 0) ∧ s.length = 16 := ⟨_, rfl, by kernel_rfl, by kernel_rfl⟩
variable {C : CallT} {h : H}
def pkSame (f t tag : Int) (l : List Ck) (f' t' tag' : Int) (l' : List Ck) : Bool := decide (f = f' ∧ t = t' ∧ tag = tag' ∧ l = l')
theorem same07 {l k : List El} {v w : V} {f t tag f' t' tag' : Int} (hs : CksIs h l v) (ht : CksIs h k w) (hm : ∀ e ∈ l, CkSmall e.c) (hm' : ∀ e ∈ k, CkSmall e.c) (hl : l.length ≤ 1000000) :
    Does Try.prog C 24 [.agg [.int .i64 f, .int .i64 t, .int .u32 tag, v], .agg [.int .i64 f', .int .i64 t', .int .u32 tag', w]] h = some (.bool (decide (f = f' ∧ t = t' ∧ tag = tag' ∧ l.map El.c = k.map El.c)), h) := by
  have hf := hs.sl.facts
  have hf' := ht.sl.facts
  have hA := fun m es => rdoc_SameAll (C := C) (h := ⟨h.blks ++ m, es⟩) (CksIs.app (es' := es) (hs.blks (h' := ⟨h.blks, []⟩) rfl) m) (CksIs.app (es' := es) (ht.blks (h' := ⟨h.blks, []⟩) rfl) m) hm hm' hl
  refine Does_eq (n := 31) (rs := [.tmp 4]) Try.func24 (by kernel_rfl) rfl rfl rfl (by simp) fun σ hg => ?_
  by_cases c1 : f = f'
  · by_cases c2 : t = t'
    · by_cases c3 : tag = tag'
      · simp (dsimp := false) [hg, hf, hf', c1, c2, c3, hA]
      · simp (dsimp := false) [hg, hf, hf', c1, c2, c3]
    · simp (dsimp := false) [hg, hf, hf', c1, c2]
  · simp (dsimp := false) [hg, hf, hf', c1]
theorem awake07 : Ok (Does Try.prog C 23 [] h) fun x => x.1 = .bool true ∧ Ext h x.2 := by
  obtain ⟨s, hs, hG, hsl⟩ := awake_put
  have hk : CksIs ⟨h.blks ++ [⟨c11.cells .nils .nils .nils .nils, 0, 0, false⟩], []⟩ [⟨c11, .nils, .nils, .nils, .nils⟩] (.sl h.blks.length 0 1 0 15 false) :=
    ⟨.inr ⟨_, _, _, _, ⟨c11.cells .nils .nils .nils .nils, 0, 0, false⟩, rfl, by simp, Nat.le_refl 0, Nat.le_refl 0, by simp (dsimp := false) [El.cells, Ck.cells], by simp (dsimp := false) [El.cells, Ck.cells]⟩, by
      intro e he
      rw [List.mem_singleton.1 he]
      exact ⟨Sl.nil _ 2, Sl.nil _ 2, Sl.nil _ 2, Sl.nil _ 1⟩⟩
  have hP := packet_Put (C := C) (f := 1) (t := 2) (tag := 5) hk (by decide) (by
    intro e he
    rw [List.mem_singleton.1 he]
    exact ⟨by decide, by decide, by decide, by decide, by decide⟩)
  have e1 : [(⟨c11, .nils, .nils, .nils, .nils⟩ : El)].map El.c = [c11] := rfl
  rw [e1, hs] at hP
  obtain ⟨⟨x1, x2⟩, hx, u, hu, ⟨m', es', he2, hes'⟩, w, l, hw, hl, hlc⟩ := packet_Get (C := C) (h := ⟨h.blks ++ [⟨c11.cells .nils .nils .nils .nils, 0, 0, false⟩], []⟩) s (by omega)
  simp only at hu he2 hl
  rw [hG] at hu hw hlc
  subst hu he2 hw
  have hll : l.length = 1 := by
    have := congrArg List.length hlc
    simpa using this
  have hlen := hl.sl.len Try.underlying32
  rw [hll] at hlen
  have hf := hl.sl.facts
  unfold Ck.cells at hP hx
  simp (dsimp := false) [c11, ck0] at hP hx hf hes'
  refine Does_wp (n := 24) (rs := [.tmp 0]) Try.func23 (by kernel_rfl) rfl rfl rfl (by simp) fun σ hg => ?_
  simp (dsimp := false) [splice, hP, hx, hf, hlen]
  refine leave_ext fun y hy => ?_
  have := hes' y.1 y.2 hy
  show h.blks.length ≤ y.1
  omega
end Go.Proofs.Ytbncfiijlnakkaa
end
section
namespace Go.Proofs.Ytbncfiijlnakkaa
open Go.Hl
set_option maxHeartbeats 4000000
theorem cut_small (c : Ck) : CkSmall (cutCk c) :=
  ⟨by simp (dsimp := false) [cutCk]; omega, by simp (dsimp := false) [cutCk]; omega, by simp (dsimp := false) [cutCk]; omega, by simp (dsimp := false) [cutCk]; omega, by simp (dsimp := false) [cutCk]; omega⟩
theorem cutL_small {l : List Ck} {L : List El} (h : L.map El.c = cutL l) : (∀ e ∈ L, CkSmall e.c) ∧ L.length ≤ 22 := by
  refine ⟨fun e he => ?_, ?_⟩
  · have : e.c ∈ cutL l := by rw [← h]; exact List.mem_map_of_mem he
    obtain ⟨c, -, hc⟩ := List.mem_map.1 this
    rw [← hc]
    exact cut_small c
  · have := congrArg List.length h
    simp (dsimp := false) [cutL] at this
    omega
theorem el0_ok (h : H) : el0.ok h := ⟨Sl.nil _ 2, Sl.nil _ 2, Sl.nil _ 2, Sl.nil _ 1⟩
theorem el0_small : CkSmall el0.c := ⟨by decide, by decide, by decide, by decide, by decide⟩
theorem firstE_of {p : El → Prop} {L : List El} (h : ∀ e ∈ L, p e) (h0 : p el0) (t : Int) : p (firstE L t) := by
  induction L with
  | nil => exact h0
  | cons e L ih =>
    unfold firstE
    split
    · exact h e (List.mem_cons_self ..)
    · exact ih fun e he => h e (List.mem_cons_of_mem _ he)
variable {h : H}
set_option maxRecDepth 100000 in
theorem packetFirst_law {C : CallT} {l : List El} {v : V} {f t tag n : Int} (hs : CksIs h l v) (hw : ∀ e ∈ l, e.c.Wide ∧ FreeS e.vg ∧ FreeS e.vd) :
    Ok (Does Try.prog C 10 [.agg [.int .i64 f, .int .i64 t, .int .u32 tag, v], .int .i64 n] h) fun x => x.1 = .bool true := by
  have hf := hs.sl.facts
  obtain ⟨⟨x1, x2⟩, hx, L, w, hv, ⟨m', es', he2, hes'⟩, hS, hL⟩ := cut07 (C := C) (f := f) (t := t) (tag := tag) (h := ⟨h.blks ++ [⟨[.int .i64 f, .int .i64 t, .int .u32 tag, v], 0, 0, false⟩], []⟩) (CksIs.app (hs.blks (h' := ⟨h.blks, []⟩) rfl) _) hw
  obtain ⟨hsm, hll⟩ := cutL_small hL
  simp only at hv he2 hS
  subst hv he2
  simp at hx hS hes'
  have hF1 := fun m es => packet_First (C := C) (f := f) (t := t) (tag := tag) (ty := n) (CksIs.app (es' := es) hS m) (by omega)
  have hF2 := fun m es => rdoc_First (C := C) (f := f) (t := t) (tag := tag) (ty := n) (CksIs.app (es' := es) hS m) (by omega)
  have hM1 := fun m es => packet_Mirrored (C := C) (f := f) (t := t) (tag := tag) (CksIs.app (es' := es) hS m)
  have hM2 := fun m es => rdoc_Mirrored (C := C) (f := f) (t := t) (tag := tag) (CksIs.app (es' := es) hS m)
  have heok := firstE_of hS.el (el0_ok _) n
  have hesm := firstE_of hsm el0_small n
  have hSm := fun m es => rdoc_Same (C := C) (CkIs.app (es' := es) heok m) (CkIs.app (es' := es) heok m) hesm hesm
  have hfw := hS.sl.facts
  have hfe := heok.facts
  have hfe1 := (CkIs.app (es' := []) heok [default]).facts
  have hfe2 := (CkIs.app (es' := []) heok [default, default]).facts
  rw [show ckSame (firstE L n).c (firstE L n).c = true from (ckSame_iff _ _).2 rfl] at hSm
  simp at hF1 hF2 hM1 hM2 hSm hfw hfe hfe1 hfe2
  generalize firstE L n = e at *
  simp only [El.cells, Ck.cells] at hF1 hF2
  unfold Ck.cells at hSm
  refine Does_wp (n := 42) (rs := [.tmp 4]) Try.func10 (by kernel_rfl) rfl rfl rfl (by simp) fun σ hg => ?_
  simp (dsimp := false) [hg, hf, splice, hx, hfw, hfe, hfe1, hfe2, hF1, hF2]
  obtain ⟨⟨a1, a2⟩, ha, hb, m3, es3, he3, hes3⟩ := awake07 (C := C) (h := ⟨h.blks ++ (⟨[.int .i64 f, .int .i64 t, .int .u32 tag, v], 0, 0, false⟩ :: (m' ++ [⟨[.int .i64 f, .int .i64 t, .int .u32 tag, w], 0, 0, false⟩, ⟨[.int .i64 e.c.typ, .int .i64 e.c.flags, .int .u32 e.c.tsn, .int .i64 e.c.stream, .int .i64 e.c.ssn, .int .u32 e.c.proto, .str e.c.data, .int .u32 e.c.tag, .int .u32 e.c.rwnd, .int .i64 e.c.out, .int .i64 e.c.inn, e.vp, e.vc, e.vg, e.vd], 0, 0, false⟩, ⟨[.int .i64 e.c.typ, .int .i64 e.c.flags, .int .u32 e.c.tsn, .int .i64 e.c.stream, .int .i64 e.c.ssn, .int .u32 e.c.proto, .str e.c.data, .int .u32 e.c.tag, .int .u32 e.c.rwnd, .int .i64 e.c.out, .int .i64 e.c.inn, e.vp, e.vc, e.vg, e.vd], 0, 0, false⟩])), es'⟩)
  simp only at hb he3
  subst hb he3
  simp at ha
  refine (W_anyF (F := [(14, 13)]) (by kernel_rfl)).2 ?_
  simp (dsimp := false) [ha, hSm, hM1, hM2]
/-- As the row asks it. -/
theorem packetFirst_row {l : List El} {v : V} {f t tag n : Int} (hs : CksIs h l v) (hw : ∀ e ∈ l, e.c.Wide ∧ FreeS e.vg ∧ FreeS e.vd) (_ : l.length ≤ maxLen) (_ : (Lit.int .i64 f).wf = true) (_ : (Lit.int .i64 t).wf = true) (_ : (Lit.int .u32 tag).wf = true) (_ : (Lit.int .i64 n).wf = true) :
    Ok (Does Try.prog (fun _ _ _ => none) 10 [.agg [.int .i64 f, .int .i64 t, .int .u32 tag, v], .int .i64 n] h) fun x => x.1 = .bool true := packetFirst_law hs hw
end Go.Proofs.Ytbncfiijlnakkaa
end
section
/-! Plain law: a chunk may be put down, the program's word and the document's. -/
namespace Go.Hl
theorem wrap_zero {n : Nat} (h : n < 18446744073709551616) : IntKind.i64.wrap (n : Int) = 0 ↔ n = 0 := by
  simp only [IntKind.wrap, IntKind.bits, IntKind.signed]
  simp
  split <;> omega
theorem and_le (x m : BitVec 64) (h : x &&& ~~~ m = 0#64) : x.toNat ≤ m.toNat := by
  have h1 : x = x &&& m := by
    have : x &&& (m ||| ~~~ m) = x := by rw [BitVec.or_not_self, BitVec.and_allOnes]
    rw [BitVec.and_or_distrib_left, h, BitVec.or_zero] at this
    exact this.symm
  rw [h1, BitVec.toNat_and]
  exact Nat.and_le_right
theorem bits_fin : ∀ x : Fin 256, ∀ m ∈ [0, 1, 3, 7, 255], (BitVec.ofNat 64 x.val &&& ~~~ BitVec.ofNat 64 m = 0#64) ↔ (BitVec.ofNat 64 x.val &&& BitVec.ofNat 64 (255 - m) = 0#64) := by
  decide +kernel
theorem flagsT_mem (t : Int) : ∃ m : Nat, flagsT t = (m : Int) ∧ m ∈ [0, 1, 3, 7, 255] := by
  unfold flagsT
  repeat' split
  · exact ⟨7, rfl, by decide⟩
  · exact ⟨3, rfl, by decide⟩
  · exact ⟨1, rfl, by decide⟩
  · exact ⟨0, rfl, by decide⟩
  · exact ⟨255, rfl, by decide⟩
theorem odd_iff {f t : Int} (h0 : 0 ≤ f) (h1 : f < 9223372036854775808) : IntKind.i64.wrap (oddBits f t) = 0 ↔ f ≤ 255 ∧ IntKind.i64.wrap (qOdd f t) = 0 := by
  obtain ⟨m, hm, hmem⟩ := flagsT_mem t
  obtain ⟨n, rfl⟩ : ∃ n : Nat, f = (n : Int) := ⟨f.toNat, by omega⟩
  unfold oddBits qOdd
  rw [hm, wrap_zero (BitVec.isLt _), wrap_zero (BitVec.isLt _)]
  have e1 : BitVec.ofInt 64 (n : Int) = BitVec.ofNat 64 n := by simp
  have e2 : BitVec.ofInt 64 (m : Int) = BitVec.ofNat 64 m := by simp
  have hm2 : m ≤ 255 := by
    simp only [List.mem_cons, List.not_mem_nil, or_false] at hmem
    omega
  have e3 : BitVec.ofInt 64 (255 - (m : Int)) = BitVec.ofNat 64 (255 - m) := by
    rw [show (255 : Int) - (m : Int) = ((255 - m : Nat) : Int) by omega]
    simp
  rw [e1, e2, e3]
  have z : ∀ x : BitVec 64, x.toNat = 0 ↔ x = 0#64 := fun x => ⟨fun h => BitVec.eq_of_toNat_eq (by simpa using h), fun h => by rw [h]; rfl⟩
  rw [z, z]
  constructor
  · intro h
    have hle := and_le _ _ h
    have hn : n ≤ 255 := by
      simp at hle
      omega
    exact ⟨by omega, (bits_fin ⟨n, by omega⟩ m hmem).1 h⟩
  · rintro ⟨h, h2⟩
    exact (bits_fin ⟨n, by omega⟩ m hmem).2 h2
theorem same_plain (c : Ck) : c.same c.plain = true ↔ qHas c = false := by
  obtain ⟨t, hk⟩ : ∃ k, qKind c.typ = k := ⟨_, rfl⟩
  have hk' := hk
  unfold qKind at hk'
  unfold Ck.plain Ck.same qHas
  simp only [hk]
  by_cases t0 : c.typ = 0
  · obtain rfl : t = 0 := by rw [← hk', t0]; rfl
    simp [t0]
    grind
  by_cases t1 : isInit c.typ = true
  · obtain rfl : t = 1 := by
      unfold isInit at t1
      simp only [Bool.or_eq_true, decide_eq_true_eq] at t1
      rw [← hk']
      rcases t1 with h | h <;> rw [h] <;> rfl
    simp [t0, t1]
    grind
  by_cases t3 : c.typ = 3
  · obtain rfl : t = 3 := by rw [← hk', t3]; rfl
    simp [t3]
    grind
  by_cases te : isErr c.typ = true
  · obtain rfl : t = 6 := by
      unfold isErr at te
      simp only [Bool.or_eq_true, decide_eq_true_eq] at te
      rw [← hk']
      rcases te with h | h <;> rw [h] <;> rfl
    simp [t0, t1, t3, te]
    grind
  by_cases t7 : c.typ = 7
  · obtain rfl : t = 7 := by rw [← hk', t7]; rfl
    simp [t7]
    grind
  by_cases tc : isConf c.typ = true
  · obtain rfl : t = 16 := by
      unfold isConf at tc
      simp only [Bool.or_eq_true, decide_eq_true_eq] at tc
      rw [← hk']
      rcases tc with (h | h) | h <;> rw [h] <;> rfl
    simp [t0, t1, t3, te, t7, tc]
    grind
  by_cases tr : isBare c.typ = true
  · obtain rfl : t = 8 := by
      unfold isBare at tr
      simp only [Bool.or_eq_true, decide_eq_true_eq] at tr
      rw [← hk']
      rcases tr with (h | h) | h <;> rw [h] <;> rfl
    simp [t0, t1, t3, te, t7, tc, tr]
    grind
  by_cases t15 : c.typ = 15
  · obtain rfl : t = 15 := by rw [← hk', t15]; rfl
    simp [t15]
    grind
  · have hk2 : t = 4 ∨ t = 10 ∨ t = 20 := by
      unfold isInit at t1
      unfold isErr at te
      unfold isConf at tc
      unfold isBare at tr
      simp only [Bool.or_eq_true, decide_eq_true_eq] at t1 te tc tr
      rw [← hk']
      repeat' split
      all_goals omega
    simp only [t0, t1, t3, te, t7, tc, tr, t15, if_false, Bool.false_eq_true]
    rcases hk2 with rfl | rfl | rfl
    all_goals
      simp
      grind
theorem body_le {c : Ck} (h1 : c.params.length ≤ 16) (h2 : c.causes.length ≤ 16) (h3 : c.gaps.length ≤ 16) (h4 : c.dups.length ≤ 16) (h5 : c.data.length ≤ 900) : c.body.length ≤ 65531 := by
  have e1 : (putAll c.params).length ≤ c.params.length * 1007 := flat_le Pm.put_len _
  have e2 : (putAll c.causes).length ≤ c.causes.length * 1007 := flat_le Pm.put_len _
  have e3 := gapsF_len c.gaps
  have e4 := dupsF_len c.dups
  have e5 := Pm.put_len ⟨1, c.data⟩
  unfold Ck.body gapsB
  repeat' split
  all_goals try simp only [List.length_append, be2_len, be4_len, List.length_nil]
  all_goals omega
theorem may_eq {c : Ck} (hf : c.flags < 9223372036854775808) : c.may = qMay c := by
  have hs := same_plain c
  rw [Bool.eq_iff_iff]
  unfold Ck.may qMay Ck.lists
  have hr : rising c.gaps = true → c.gaps.length ≤ 16 := fun h => by
    unfold rising at h
    simp only [Bool.and_eq_true, decide_eq_true_eq] at h
    exact h.2
  have hi : isInit c.typ = true ↔ qKind c.typ = 1 := by
    unfold isInit qKind
    simp only [Bool.or_eq_true, decide_eq_true_eq]
    repeat' split
    all_goals omega
  have hb := @body_le c
  have ho : 0 ≤ c.flags → (IntKind.i64.wrap (oddBits c.flags c.typ) = 0 ↔ c.flags ≤ 255 ∧ IntKind.i64.wrap (qOdd c.flags c.typ) = 0) := fun h => odd_iff h hf
  generalize IntKind.i64.wrap (oddBits c.flags c.typ) = o at *
  generalize IntKind.i64.wrap (qOdd c.flags c.typ) = o' at *
  generalize rising c.gaps = r at *
  generalize c.same c.plain = sp at *
  generalize qHas c = q at *
  generalize isInit c.typ = ii at *
  generalize qKind c.typ = k at *
  generalize c.body.length = bl at *
  simp only [List.all_append, Bool.and_eq_true, decide_eq_true_eq, Bool.not_eq_true', Bool.and_eq_false_iff, decide_eq_false_iff_not]
  split
  · rename_i hc
    simp only [Bool.false_eq_true, iff_false]
    intro h
    grind
  · rename_i hc
    simp only [not_or] at hc
    grind
end Go.Hl
end
section
/-! Hl: a turned bit changes the check. -/
namespace Go.Hl
theorem xor_cancel {a b p : Nat} (h : a ^^^ p = b ^^^ p) : a = b := by
  have h2 : (a ^^^ p) ^^^ p = (b ^^^ p) ^^^ p := by rw [h]
  rwa [Nat.xor_assoc, Nat.xor_assoc, Nat.xor_self, Nat.xor_zero, Nat.xor_zero] at h2
theorem bitStep_inj {a b : Nat} (ha : a < 4294967296) (hb : b < 4294967296) (h : bitStep a = bitStep b) : a = b := by
  have top : ∀ x y : Nat, x < 4294967296 → y < 4294967296 → x / 2 ^^^ 2197175160 ≠ y / 2 := fun x y hx hy hxy => by
    have t1 : (x / 2).testBit 31 = false := Nat.testBit_lt_two_pow (by omega)
    have t2 : (y / 2).testBit 31 = false := Nat.testBit_lt_two_pow (by omega)
    have t3 : (x / 2 ^^^ 2197175160).testBit 31 = (y / 2).testBit 31 := by rw [hxy]
    have t4 : Nat.testBit 2197175160 31 = true := by decide
    rw [Nat.testBit_xor, t1, t2, t4] at t3
    cases t3
  by_cases a2 : a % 2 = 1
  · by_cases b2 : b % 2 = 1
    · rw [step_odd a2, step_odd b2] at h
      have := xor_cancel h
      omega
    · rw [step_odd a2, step_even b2] at h
      exact absurd h (top a b ha hb)
  · by_cases b2 : b % 2 = 1
    · rw [step_even a2, step_odd b2] at h
      exact absurd h.symm (top b a hb ha)
    · rw [step_even a2, step_even b2] at h
      omega
theorem steps_inj : ∀ n {a b : Nat}, a < 4294967296 → b < 4294967296 → steps n a = steps n b → a = b
  | 0, _, _, _, _, h => h
  | n + 1, _a, _b, ha, hb, h => bitStep_inj ha hb (steps_inj n (bitStep_lt ha) (bitStep_lt hb) h)
theorem eat_inj {c d b : Nat} (hc : c < 4294967296) (hd : d < 4294967296) (hb : b < 256) (h : eat c b = eat d b) : c = d :=
  xor_cancel (steps_inj 8 (xor_lt hc (by omega)) (xor_lt hd (by omega)) h)
theorem eat_inj' {c b b' : Nat} (hc : c < 4294967296) (hb : b < 256) (hb' : b' < 256) (h : eat c b = eat c b') : b = b' := by
  have h1 := steps_inj 8 (xor_lt hc (by omega)) (xor_lt hc (by omega)) h
  rw [Nat.xor_comm c b, Nat.xor_comm c b'] at h1
  exact xor_cancel h1
theorem crcFrom_inj : ∀ (l : List UInt8) {c d : Nat}, c < 4294967296 → d < 4294967296 → crcFrom c l = crcFrom d l → c = d
  | [], _, _, _, _, h => h
  | b :: l, _, _, hc, hd, h => eat_inj hc hd b.toNat_lt (crcFrom_inj l (eat_lt hc b.toNat_lt) (eat_lt hd b.toNat_lt) h)
theorem crcFrom_append : ∀ (l m : List UInt8) (c : Nat), crcFrom c (l ++ m) = crcFrom (crcFrom c l) m
  | [], _, _ => rfl
  | _ :: l, m, _ => crcFrom_append l m _
/-- One byte that differs, and nothing else. -/
theorem crcL_byte {l m : List UInt8} {b b' : UInt8} (h : crcL (l ++ b :: m) = crcL (l ++ b' :: m)) : b = b' := by
  have h1 := xor_cancel h
  rw [crcFrom_append, crcFrom_append] at h1
  have hc := crcFrom_lt l (c := 4294967295) (by omega)
  have h2 := crcFrom_inj m (eat_lt hc b.toNat_lt) (eat_lt hc b'.toNat_lt) h1
  exact UInt8.toNat_inj.1 (eat_inj' hc b.toNat_lt b'.toNat_lt h2)
theorem crcL_set {l : List UInt8} {j : Nat} {b : UInt8} (hj : j < l.length) (h : crcL (l.set j b) = crcL l) : b = l[j] := by
  rw [List.set_eq_take_append_cons_drop, if_pos hj] at h
  have e : l = l.take j ++ l[j] :: l.drop (j + 1) := by
    rw [List.getElem_cons_drop hj, List.take_append_drop]
  have h' : crcL (l.take j ++ b :: l.drop (j + 1)) = crcL (l.take j ++ l[j] :: l.drop (j + 1)) := by rw [h, ← e]
  exact crcL_byte h'
end Go.Hl
end
section
namespace Go.Proofs.Ytbncfiijlnakkaa
open Go.Hl
set_option maxHeartbeats 4000000
/-! ### What is put down: the program's and the document's -/
theorem put_eq {c : Ck} (hf : c.flags < 9223372036854775808) : qPut c = c.put := by
  unfold qPut Ck.put
  rw [may_eq hf]
  simp
theorem qPutGo_len : ∀ (l : List Ck) (s : Bs), match qPutGo s l with | some r => s.length ≤ r.length | none => True
  | [], s => Nat.le_refl _
  | c :: l, s => by
    unfold qPutGo
    by_cases h : qPut c = []
    · rw [if_pos h]
      trivial
    · rw [if_neg h]
      have := qPutGo_len l (s ++ qPut c)
      split
      · rename_i r hr
        rw [hr] at this
        simp only [List.length_append] at this
        omega
      · trivial
theorem putGo_eq : ∀ (l : List Ck) (s : Bs), (∀ c ∈ l, c.flags < 9223372036854775808) → s.length ≤ 1400 → putGo s l = match qPutGo s l with | some r => if 1400 < r.length then none else some r | none => none
  | [], s, _, hs => by
    simp only [putGo, qPutGo]
    rw [if_neg (by omega)]
  | c :: l, s, hf, hs => by
    have hq := put_eq (hf c (List.mem_cons_self ..))
    unfold putGo qPutGo
    rw [hq]
    by_cases h : c.put = []
    · rw [if_pos (.inl h), if_pos h]
    · rw [if_neg h]
      by_cases h2 : 1400 - (s.length : Int) < c.put.length
      · rw [if_pos (.inr h2)]
        have := qPutGo_len l (s ++ c.put)
        split
        · rename_i r hr
          rw [hr] at this
          simp only [List.length_append] at this
          rw [if_pos (by omega)]
        · rfl
      · rw [if_neg (fun hh => hh.elim h h2)]
        exact putGo_eq l (s ++ c.put) (fun c hc => hf c (List.mem_cons_of_mem _ hc)) (by rw [List.length_append]; omega)
theorem headB_len (f t tag : Int) : (headB f t tag).length ≤ 1400 := show 12 ≤ 1400 by decide
theorem putP_eq {f t tag : Int} {l : List Ck} (hf : ∀ c ∈ l, c.flags < 9223372036854775808) : qPutP f t tag l = putP f t tag l := by
  unfold qPutP putP
  split
  · rfl
  · rw [putGo_eq l _ hf (headB_len f t tag)]
    cases qPutGo (headB f t tag) l with
    | none => rfl
    | some s =>
      simp only
      split <;> rfl
theorem putGo_len : ∀ (l : List Ck) (s r : Bs), s.length ≤ 1400 → putGo s l = some r → s.length ≤ r.length ∧ r.length ≤ 1400
  | [], s, r, hs, h => by
    injection h with h
    subst h
    exact ⟨Nat.le_refl _, hs⟩
  | c :: l, s, r, hs, h => by
    unfold putGo at h
    split at h
    · cases h
    · rename_i hc
      simp only [not_or] at hc
      have := putGo_len l (s ++ c.put) r (by rw [List.length_append]; omega) h
      rw [List.length_append] at this
      omega
theorem putP_cases (f t tag : Int) (l : List Ck) : putP f t tag l = [] ∨ ∃ s : Bs, 12 ≤ s.length ∧ s.length ≤ 1400 ∧ putP f t tag l = sealL s 8 := by
  unfold putP
  split
  · exact .inl rfl
  · split
    · rename_i s hs
      have := putGo_len l _ _ (headB_len f t tag) hs
      exact .inr ⟨s, this.1, this.2, rfl⟩
    · exact .inl rfl
/-! ### A turned bit -/
theorem zed_seal {s : List UInt8} {k : Nat} (hk : k + 4 ≤ s.length) : zed (sealL s k) k = zed s k := by
  unfold zed
  have h1 : (sealL s k).take k = s.take k := by
    unfold sealL
    rw [List.append_assoc, List.take_left' (by simp; omega)]
  have h2 : (sealL s k).drop (k + 4) = s.drop (k + 4) := by
    unfold sealL
    rw [List.drop_left' (by simp (dsimp := false) [le4_len]; omega)]
  rw [h1, h2]
theorem seal_seal {s : List UInt8} {k : Nat} (hk : k + 4 ≤ s.length) : sealL (sealL s k) k = sealL s k := by
  have hz := zed_seal hk
  have h1 : (sealL s k).take k = s.take k := by
    unfold sealL
    rw [List.append_assoc, List.take_left' (by simp; omega)]
  have h2 : (sealL s k).drop (k + 4) = s.drop (k + 4) := by
    unfold sealL
    rw [List.drop_left' (by simp (dsimp := false) [le4_len]; omega)]
  rw [sealL, hz, h1, h2]
  rfl
theorem le4_inj {c d : Nat} (hc : c < 4294967296) (hd : d < 4294967296) (h : le4 c = le4 d) : c = d := by
  simp only [le4, List.cons.injEq, and_true] at h
  obtain ⟨h1, h2, h3, h4⟩ := h
  have f : ∀ a b : Nat, UInt8.ofNat a = UInt8.ofNat b → a % 256 = b % 256 := fun a b hab => by
    have := congrArg UInt8.toNat hab
    simpa using this
  have h1 := f _ _ h1
  have h2 := f _ _ h2
  have h3 := f _ _ h3
  have h4 := f _ _ h4
  omega
theorem field_seal {s : List UInt8} {k : Nat} (hk : k + 4 ≤ s.length) : ((sealL s k).drop k).take 4 = le4 (crcL (zed s k)) := by
  unfold sealL
  rw [List.append_assoc, List.drop_left' (by simp; omega), List.take_left' (le4_len _)]
/-- Sealed bytes of which one is another are not sealed. -/
theorem seal_byte {t : List UInt8} {k j : Nat} (hk : k + 4 ≤ t.length) (hj : j < t.length) (y : UInt8) (hy : (sealL t k)[j]? ≠ some y) : sealL ((sealL t k).set j y) k ≠ (sealL t k).set j y := by
  have hl := sealL_len hk
  have hj' : j < (sealL t k).length := by omega
  intro h
  have hz := zed_seal hk
  generalize hb : sealL t k = b at *
  have hk' : k + 4 ≤ (b.set j y).length := by simp; omega
  by_cases hin : k ≤ j ∧ j < k + 4
  · -- in the field: with noughts there all is as it was
    have e1 : (b.set j y).take k = b.take k := by rw [List.take_set_of_le hin.1]
    have e2 : (b.set j y).drop (k + 4) = b.drop (k + 4) := by rw [List.drop_set_of_lt hin.2]
    have e3 : zed (b.set j y) k = zed b k := by unfold zed; rw [e1, e2]
    have e4 : sealL (b.set j y) k = sealL b k := by unfold sealL; rw [e1, e2, e3]
    have e5 : sealL b k = b := by rw [← hb]; exact seal_seal hk
    rw [e4, e5] at h
    have h2 : b[j]? = (b.set j y)[j]? := by rw [← h]
    rw [List.getElem?_set_self hj'] at h2
    exact hy h2
  · have f1 := field_seal hk'
    rw [h] at f1
    have f2 : ((b.set j y).drop k).take 4 = (b.drop k).take 4 := by
      apply List.ext_getElem?
      intro i
      simp only [List.getElem?_take, List.getElem?_drop]
      split
      · rw [List.getElem?_set_ne (by omega)]
      · rfl
    have f3 := field_seal hk
    rw [hb] at f3
    rw [f2, f3, ← hz] at f1
    have f4 := le4_inj (crcL_lt _) (crcL_lt _) f1
    have f5 : zed (b.set j y) k = (zed b k).set j y := by
      apply List.ext_getElem?
      intro i
      have zl : (zed b k).length = b.length := zed_len (by omega)
      have zl' : (zed (b.set j y) k).length = b.length := by rw [zed_len hk']; simp
      by_cases hi : i = j
      · subst hi
        rw [List.getElem?_set_self (by omega)]
        unfold zed
        by_cases hik : i < k
        · rw [List.append_assoc, List.getElem?_append_left (by simp; omega), List.getElem?_take, if_pos hik, List.getElem?_set_self hj']
        · rw [List.getElem?_append_right (by simp; omega), List.getElem?_drop]
          simp only [List.length_append, List.length_take, List.length_set, List.length_cons, List.length_nil]
          rw [show k + 4 + (i - (min k b.length + (0 + 1 + 1 + 1 + 1))) = i by omega, List.getElem?_set_self hj']
      · rw [List.getElem?_set_ne (Ne.symm hi)]
        unfold zed
        by_cases hik : i < k
        · rw [List.append_assoc, List.append_assoc, List.getElem?_append_left (by simp; omega), List.getElem?_append_left (by simp; omega), List.getElem?_take, List.getElem?_take, List.getElem?_set_ne (Ne.symm hi)]
        · by_cases hik4 : i < k + 4
          · rw [List.getElem?_append_left (l₁ := (b.set j y).take k ++ [0, 0, 0, 0]) (by simp; omega), List.getElem?_append_left (l₁ := b.take k ++ [0, 0, 0, 0]) (by simp; omega),
              List.getElem?_append_right (l₁ := (b.set j y).take k) (by simp; omega), List.getElem?_append_right (l₁ := b.take k) (by simp; omega)]
            simp
          · rw [List.getElem?_append_right (by simp; omega), List.getElem?_append_right (by simp; omega), List.getElem?_drop, List.getElem?_drop]
            simp only [List.length_append, List.length_take, List.length_set]
            rw [List.getElem?_set_ne (by simp; omega)]
    rw [f5] at f4
    have zl : (zed b k).length = b.length := zed_len (by omega)
    have f6 := crcL_set (by omega) f4.symm
    have f7 : (zed b k)[j]? = b[j]? := by
      unfold zed
      by_cases hik : j < k
      · rw [List.append_assoc, List.getElem?_append_left (by simp; omega), List.getElem?_take, if_pos hik]
      · rw [List.getElem?_append_right (by simp; omega), List.getElem?_drop]
        simp only [List.length_append, List.length_take, List.length_cons, List.length_nil]
        rw [show k + 4 + (j - (min k b.length + (0 + 1 + 1 + 1 + 1))) = j by omega]
    rw [List.getElem?_eq_getElem (by omega), ← f6] at f7
    exact hy f7.symm
theorem around (x : Int) (m : Nat) (hm : 0 < m) : ∃ k : Nat, k < m ∧ (x.tmod m + m).tmod m = (k : Int) := by
  have h1 := Int.lt_tmod_of_pos x (show (0 : Int) < m by omega)
  have h2 := Int.tmod_lt_of_pos (x.tmod m + m) (show (0 : Int) < m by omega)
  have h3 := Int.tmod_nonneg (m : Int) (show 0 ≤ x.tmod m + m by omega)
  exact ⟨((x.tmod m + m).tmod m).toNat, by omega, by omega⟩
theorem head_take (l : List V) (j : Nat) : ((l.drop j).take 1).head? = l[j]? := by
  cases h : l.drop j with
  | nil =>
    have : l.length ≤ j := by simpa using h
    simp (dsimp := false) [List.getElem?_eq_none this]
  | cons a m =>
    have := congrArg (fun l => l[0]?) h
    simp at this
    simp (dsimp := false) [this]
theorem byteCells_at (l : List UInt8) (j : Nat) (h : j < l.length) : (byteCells l)[j]? = some (.int .u8 (l[j].toNat : Nat)) := by
  simp (dsimp := false) [byteCells, h]
theorem byteCells_get (l : List UInt8) (j : Nat) (h : j < (byteCells l).length) : (byteCells l)[j] = .int .u8 ((l[j]'(by simpa [byteCells] using h)).toNat : Nat) := by
  simp (dsimp := false) [byteCells]
theorem byteCells_len (l : List UInt8) : (byteCells l).length = l.length := by simp (dsimp := false) [byteCells]
theorem shl_one : ∀ r : Nat, r < 8 → shiftOp .shl .u8 1 ((r : Nat) : Int) = some (.int .u8 ((2 ^ r : Nat) : Int)) := fun r hr => by
  obtain rfl | rfl | rfl | rfl | rfl | rfl | rfl | rfl := (by omega : r = 0 ∨ r = 1 ∨ r = 2 ∨ r = 3 ∨ r = 4 ∨ r = 5 ∨ r = 6 ∨ r = 7) <;> rfl
theorem pow_small : ∀ r : Nat, r < 8 → 2 ^ r < 256 ∧ 0 < 2 ^ r := fun r hr => by
  obtain rfl | rfl | rfl | rfl | rfl | rfl | rfl | rfl := (by omega : r = 0 ∨ r = 1 ∨ r = 2 ∨ r = 3 ∨ r = 4 ∨ r = 5 ∨ r = 6 ∨ r = 7) <;> decide
theorem splice_bytes (l : List UInt8) (j v : Nat) (hv : v < 256) (h : j < l.length) : splice (byteCells l) j [.int .u8 (v : Int)] = byteCells (l.set j (UInt8.ofNat v)) := by
  apply List.ext_getElem?
  intro i
  rw [splice_get _ _ _ (by simp (dsimp := false) [byteCells_len]; omega)]
  simp only [byteCells, List.getElem?_map, List.length_cons, List.length_nil]
  by_cases hi : j ≤ i ∧ i < j + (0 + 1)
  · have : i = j := by omega
    subst this
    rw [if_pos hi, List.getElem?_set_self h]
    simp
    omega
  · rw [if_neg hi, List.getElem?_set_ne (by omega)]
theorem cutL_flags {l : List Ck} (h : ∀ c ∈ l, c.flags < 9223372036854775808) : ∀ c ∈ cutL l, c.flags < 9223372036854775808 := by
  intro c hc
  obtain ⟨d, hd, rfl⟩ := List.mem_map.1 hc
  exact h d (List.mem_of_mem_take hd)
theorem cutL_gaps {l : List Ck} {L : List El} (hL : L.map El.c = cutL l) (h : ∀ c ∈ l, c.Wide) : ∀ e ∈ L, ∀ g ∈ e.c.gaps, g.1 ≤ 9223372036854775807 := by
  intro e he g hg
  have : e.c ∈ cutL l := by rw [← hL]; exact List.mem_map_of_mem he
  obtain ⟨c, hc, hce⟩ := List.mem_map.1 this
  rw [← hce] at hg
  have := ((h c (List.mem_of_mem_take hc)).g g (List.mem_of_mem_take hg)).1
  simp (dsimp := false) [Lit.wf, IntKind.min, IntKind.max, IntKind.bits, IntKind.signed] at this
  omega
end Go.Proofs.Ytbncfiijlnakkaa
end
section
namespace Go.Proofs.Ytbncfiijlnakkaa
open Go.Hl
set_option maxHeartbeats 4000000
variable {h : H}
set_option maxRecDepth 100000 in
theorem packetBits_law {l : List El} {v : V} {f t tag n : Int} (hs : CksIs h l v) (hw : ∀ e ∈ l, e.c.Wide ∧ FreeS e.vg ∧ FreeS e.vd) (_hn0 : -9223372036854775808 ≤ n) (_hn1 : n < 9223372036854775808) :
    Ok (Does Try.prog putC 8 [.agg [.int .i64 f, .int .i64 t, .int .u32 tag, v], .int .i64 n] h) fun x => x.1 = .bool true := by
  have hf := hs.sl.facts
  have hs1 := hs.blks (h' := ⟨h.blks, []⟩) rfl
  have hfl : ∀ c ∈ cutL (l.map El.c), c.flags < 9223372036854775808 := cutL_flags (fun c hc => by
    obtain ⟨e, he, rfl⟩ := List.mem_map.1 hc
    have := (hw e he).1.i e.c.flags (by simp)
    simp (dsimp := false) [Lit.wf, IntKind.min, IntKind.max, IntKind.bits, IntKind.signed] at this
    omega)
  obtain ⟨⟨x1, x2⟩, hx, L, w, hv, ⟨m', es', he2, hes'⟩, hS, hL⟩ := cut07 (C := putC) (f := f) (t := t) (tag := tag) (h := ⟨h.blks ++ [⟨[.int .i64 f, .int .i64 t, .int .u32 tag, v], 0, 0, false⟩], []⟩) (CksIs.app hs1 _) hw
  obtain ⟨hsm, hll⟩ := cutL_small hL
  simp only at hv he2 hS
  subst hv he2
  simp at hx hS hes'
  have hP := packet_Put (C := putC) (f := f) (t := t) (tag := tag) hS (by omega) hsm
  rw [hL] at hP
  have hfw := hS.sl.facts
  simp at hfw
  rcases putP_cases f t tag (cutL (l.map El.c)) with hp | ⟨s, hs12, hs14, hp⟩
  · have hq := putP_eq (f := f) (t := t) (tag := tag) hfl
    rw [hp] at hP hq
    obtain ⟨⟨a1, a2⟩, ha, hb, m3, es3, he3, hes3⟩ := awake07 (C := putC) (h := ⟨h.blks ++ (⟨[.int .i64 f, .int .i64 t, .int .u32 tag, v], 0, 0, false⟩ :: m'), es'⟩)
    simp only at hb he3
    subst hb he3
    simp at ha
    obtain ⟨⟨y1, y2⟩, hy, L2, w2, hv2, ⟨m4, es4, he4, hes4⟩, hS2, hL2⟩ := cut07 (C := putC) (f := f) (t := t) (tag := tag) (h := ⟨h.blks ++ (⟨[.int .i64 f, .int .i64 t, .int .u32 tag, v], 0, 0, false⟩ :: (m' ++ m3)), es' ++ es3⟩) (CksIs.app hs1 _) hw
    obtain ⟨hsm2, hll2⟩ := cutL_small hL2
    simp only at hv2 he4 hS2
    subst hv2 he4
    simp at hy hS2
    have hP2 := rdoc7_Put (f := f) (t := t) (tag := tag) hS2 (by omega) hsm2 (cutL_gaps hL2 (fun c hc => by
        obtain ⟨e, he, rfl⟩ := List.mem_map.1 hc
        exact (hw e he).1))
    rw [hL2, hq] at hP2
    have hfw2 := hS2.sl.facts
    simp at hfw2
    refine Does_wp (n := 65) (rs := [.tmp 4]) Try.func8 (by kernel_rfl) rfl rfl rfl (by simp) fun σ hg => ?_
    simp (dsimp := false) [hg, hf, hx, hP, ha, hy, hP2]
  · have hsl := sealL_len (s := s) (k := 8) (by omega)
    rw [hp] at hP
    have hae : ¬ (sealL s 8 = []) := fun x => by
      rw [x] at hsl
      simp at hsl
      omega
    have hm8 : 0 < 8 * (sealL s 8).length := by omega
    have c1 := Int.lt_tmod_of_pos n (show (0 : Int) < ((8 * (sealL s 8).length : Nat) : Int) by omega)
    have c2 := Int.tmod_lt_of_pos n (show (0 : Int) < ((8 * (sealL s 8).length : Nat) : Int) by omega)
    obtain ⟨k, hk, hke⟩ := around n (8 * (sealL s 8).length) hm8
    have hw8 : IntKind.i64.wrap (8 * ((sealL s 8).length : Int)) = ((8 * (sealL s 8).length : Nat) : Int) := by
      rw [wrap_i64 (by omega) (by omega)]; omega
    have hwc : IntKind.i64.wrap (n.tmod ((8 * (sealL s 8).length : Nat) : Int) + ((8 * (sealL s 8).length : Nat) : Int)) = n.tmod ((8 * (sealL s 8).length : Nat) : Int) + ((8 * (sealL s 8).length : Nat) : Int) := wrap_i64 (by omega) (by omega)
    have hn0 : ¬ (((8 * (sealL s 8).length : Nat) : Int) = 0) := by omega
    have hq : (k : Int).tdiv 8 = ((k / 8 : Nat) : Int) := rfl
    have hr : (k : Int).tmod 8 = ((k % 8 : Nat) : Int) := rfl
    have hwq : IntKind.i64.wrap ((k / 8 : Nat) : Int) = ((k / 8 : Nat) : Int) := wrap_i64 (by omega) (by omega)
    have hwr : IntKind.u64.wrap ((k % 8 : Nat) : Int) = ((k % 8 : Nat) : Int) := by
      simp only [IntKind.wrap, IntKind.bits, IntKind.signed]
      simp
      omega
    have hj : k / 8 < (sealL s 8).length := by omega
    have hr8 : k % 8 < 8 := by omega
    have hby := fun y hy => seal_byte (t := s) (k := 8) (j := k / 8) (by omega) (by omega) y hy
    generalize k / 8 = j at *
    generalize k % 8 = r at *
    generalize hM8 : ((8 * (sealL s 8).length : Nat) : Int) = M8 at *
    generalize sealL s 8 = a at *
    have hb : a[j].toNat < 256 := a[j].toNat_lt
    have hpw := pow_small r hr8
    have hxl : a[j].toNat ^^^ 2 ^ r < 256 := Nat.xor_lt_two_pow (n := 8) hb hpw.1
    have hxx := xor_u8 hb hpw.1
    rw [show (((2 ^ r : Nat)) : Int) = (2 : Int) ^ r by push_cast; rfl] at hxx
    have hshl := shl_one r hr8
    rw [show (((2 ^ r : Nat)) : Int) = (2 : Int) ^ r by push_cast; rfl] at hshl
    generalize hv : a[j].toNat ^^^ 2 ^ r = b at *
    have hy : a[j]? ≠ some (UInt8.ofNat b) := by
      rw [List.getElem?_eq_getElem (by omega)]
      intro hc
      injection hc with hc
      have hc' := congrArg UInt8.toNat hc
      have hof : (UInt8.ofNat b).toNat = b := by
        simp
        omega
      rw [hof, ← hv] at hc'
      have : a[j].toNat ^^^ (a[j].toNat ^^^ 2 ^ r) = 0 := by rw [← hc', Nat.xor_self]
      rw [← Nat.xor_assoc, Nat.xor_self, Nat.zero_xor] at this
      omega
    have hns := hby _ hy
    have hsb := splice_bytes a j b hxl (by omega)
    have hG : getP (a.set j (UInt8.ofNat b)) = (pk0, 70) := by
      unfold getP
      rw [if_neg (by simp; omega), if_neg (by simp; omega), if_pos hns]
    have hbl : (a.set j (UInt8.ofNat b)).length = s.length := by simp (dsimp := false) [hsl]
    have htk : List.take a.length (byteCells (a.set j (UInt8.ofNat b))) = byteCells (a.set j (UInt8.ofNat b)) := List.take_of_length_le (by rw [byteCells_len]; omega)
    have hsb' := hsb
    simp (dsimp := false) [splice] at hsb'
    have hj1 := eq_true (Nat.succ_le_of_lt hj)
    simp only [Nat.succ_eq_add_one] at hj1
    obtain ⟨⟨z1, z2⟩, hz, u, hu, ⟨m5, es5, he5, hes5⟩, w3, l3, hw3, hl3, hlc3⟩ := packet_Get (C := putC) (h := ⟨h.blks ++ (⟨[.int .i64 f, .int .i64 t, .int .u32 tag, v], 0, 0, false⟩ :: (m' ++ [⟨byteCells (a.set j (UInt8.ofNat b)), 0, 0, false⟩])), es'⟩) (a.set j (UInt8.ofNat b)) (by omega)
    rw [hG] at hu hw3 hlc3
    simp only at hu he5 hl3
    subst hu he5 hw3
    obtain rfl : l3 = [] := List.map_eq_nil_iff.1 hlc3
    have hlen3 := hl3.sl.len Try.underlying32
    have hf3 := hl3.sl.facts
    simp (dsimp := false) [pk0] at hz hlen3 hf3
    obtain ⟨⟨a1, a2⟩, ha, hb2, m6, es6, he6, hes6⟩ := awake07 (C := putC) (h := ⟨h.blks ++ (⟨[.int .i64 f, .int .i64 t, .int .u32 tag, v], 0, 0, false⟩ :: (m' ++ (⟨byteCells (a.set j (UInt8.ofNat b)), 0, 0, false⟩ :: (m5 ++ [⟨[.int .i64 0, .int .i64 0, .int .u32 0, w3], 0, 0, false⟩])))), es' ++ es5⟩)
    simp only at hb2 he6
    subst hb2 he6
    simp at ha
    refine Does_wp (n := 65) (rs := [.tmp 4]) Try.func8 (by kernel_rfl) rfl rfl rfl (by simp) fun σ hg => ?_
    simp (dsimp := false) [hg, hf, splice, hx, hP, hae, hw8, hn0, hwc, hke, hq, hr, hwq, hwr, hj, hj1, hshl, hxx, hsb', head_take, byteCells_get, byteCells_len, bytesOf_cells, htk, hz, hf3, ha, hlen3]
/-- As the row asks it. -/
theorem packetBits_row {l : List El} {v : V} {f t tag n : Int} (hs : CksIs h l v) (hw : ∀ e ∈ l, e.c.Wide ∧ FreeS e.vg ∧ FreeS e.vd) (_ : l.length ≤ maxLen) (_ : (Lit.int .i64 f).wf = true) (_ : (Lit.int .i64 t).wf = true) (_ : (Lit.int .u32 tag).wf = true) (hn : (Lit.int .i64 n).wf = true) :
    Ok (Does Try.prog putC 8 [.agg [.int .i64 f, .int .i64 t, .int .u32 tag, v], .int .i64 n] h) fun x => x.1 = .bool true := by
  simp (dsimp := false) [Lit.wf, IntKind.min, IntKind.max, IntKind.bits, IntKind.signed] at hn
  exact packetBits_law hs hw (by omega) (by omega)
end Go.Proofs.Ytbncfiijlnakkaa
end
section
/-! Plain law: the program's reader and the document's read the same. -/
namespace Go.Proofs.Ytbncfiijlnakkaa
open Go.Hl
set_option maxHeartbeats 1000000
theorem fill_mod {n m : Int} (h : (-n) % 4 = (-m) % 4) (r : RS) : r.fill n = r.fill m := by
  unfold RS.fill flE flR flN
  rw [h]
theorem _root_.Go.Hl.Sim.e {p q : RS} (h : Sim p q) : p.e = q.e := h.1
theorem _root_.Go.Hl.Sim.ite {p q p' q' : RS} {a b : Prop} [Decidable a] [Decidable b] (hab : a ↔ b) (h1 : Sim p q) (h2 : Sim p' q') : Sim (if a then p else p') (if b then q else q') := by
  by_cases h : a
  · rw [if_pos h, if_pos (hab.1 h)]
    exact h1
  · rw [if_neg h, if_neg (fun x => h (hab.2 x))]
    exact h2
theorem _root_.Go.Hl.Sim.param {p q : RS} (h : Sim p q) : (tkParam p).1 = (qParam q).2 ∧ Sim (tkParam p).2 (qParam q).1 := by
  have h2 := (h.tk 2).tk 2
  have hn := (h.tk 2).num 2
  unfold tkParam qParam
  simp only [hn, h.num 2]
  generalize (qNum 2 (qTk 2 q)) = n at *
  have h3 : Sim (if ((p.tk 2).tk 2).e = 0 ∧ ((n : Int) - 4 < 0 ∨ 1000 < (n : Int) - 4) then ((p.tk 2).tk 2).fail 3 else (p.tk 2).tk 2) (if (qTk 2 (qTk 2 q)).e = 0 ∧ ((n : Int) < 4 ∨ 1004 < (n : Int)) then qFail 3 (qTk 2 (qTk 2 q)) else qTk 2 (qTk 2 q)) := by
    refine Sim.ite ?_ (h2.fail (by decide)) h2
    rw [h2.e]
    constructor
    · rintro ⟨a, b⟩
      exact ⟨a, by omega⟩
    · rintro ⟨a, b⟩
      exact ⟨a, by omega⟩
  have hg := h3.got ((n : Int) - 4)
  have h4 := h3.tk ((n : Int) - 4)
  generalize (if ((p.tk 2).tk 2).e = 0 ∧ ((n : Int) - 4 < 0 ∨ 1000 < (n : Int) - 4) then ((p.tk 2).tk 2).fail 3 else (p.tk 2).tk 2) = r3 at *
  generalize (if (qTk 2 (qTk 2 q)).e = 0 ∧ ((n : Int) < 4 ∨ 1004 < (n : Int)) then qFail 3 (qTk 2 (qTk 2 q)) else qTk 2 (qTk 2 q)) = q3 at *
  rw [hg]
  generalize r3.tk ((n : Int) - 4) = r4 at *
  generalize qTk ((n : Int) - 4) q3 = q4 at *
  have hm : (-((n : Int) - 4)) % 4 = (-(n : Int)) % 4 := by omega
  have h5 := Sim.whole h4 (n := (n : Int)) (by omega)
  rw [hm, fill_mod hm, h4.e]
  generalize (if r4.left < -(n : Int) % 4 then r4.fail 2 else r4).fill n = r6 at *
  generalize qWhole n q4 = q6 at *
  rw [h5.e]
  by_cases c4 : q4.e = 0
  · by_cases c6 : q6.e = 0
    · simp only [c4, c6, ne_eq, not_true_eq_false, if_false]
      exact ⟨trivial, h5⟩
    · simp only [c4, c6, ne_eq, not_true_eq_false, not_false_eq_true, if_false, if_true]
      exact ⟨trivial, h5⟩
  · simp only [c4, ne_eq, not_false_eq_true, if_true]
    exact ⟨trivial, h4⟩
theorem left_pos (r : RS) : 0 < r.left ↔ r.e = 0 ∧ r.s ≠ [] := by
  unfold RS.left leftN
  by_cases h : r.e = 0
  · rw [if_pos h]
    cases hs : r.s with
    | nil => simp
    | cons a l => simp (dsimp := false) [h]
  · rw [if_neg h]
    simp (dsimp := false) [h]
theorem _root_.Go.Hl.Sim.more {p q : RS} (h : Sim p q) : 0 < p.left ↔ q.e = 0 ∧ q.s ≠ [] := by
  rw [left_pos, h.e]
  constructor
  · rintro ⟨a, b⟩
    exact ⟨a, by rw [← h.2 (by rw [h.e]; exact a)]; exact b⟩
  · rintro ⟨a, b⟩
    exact ⟨a, by rw [h.2 (by rw [h.e]; exact a)]; exact b⟩
theorem allLoop_eq : ∀ (k : Nat) (p q : RS) (out : List Pm), Sim p q → out.length ≤ 16 → 17 ≤ out.length + k →
    (if (allLoop k p out).1.e ≠ 0 then (([], (allLoop k p out).1.e) : List Pm × Int) else ((allLoop k p out).2, 0)) = qLoop k q out
  | 0, p, q, out, h, h1, h2 => by omega
  | k + 1, p, q, out, h, h1, h2 => by
    unfold allLoop qLoop
    by_cases c : q.e = 0 ∧ q.s ≠ []
    · rw [if_pos (h.more.2 c), if_pos c]
      by_cases c2 : out.length = 16
      · rw [if_pos c2, if_pos c2]
        have : (p.fail 5).e = 5 := by simp (dsimp := false) [RS.fail, failE, h.e, c.1]
        simp only [this]
        rfl
      · rw [if_neg c2, if_neg c2]
        have hp := h.param
        rw [hp.1]
        exact allLoop_eq k _ _ _ hp.2 (by simp; omega) (by simp; omega)
    · rw [if_neg (fun x => c (h.more.1 x)), if_neg c]
      simp only
      rw [h.e]
theorem allP_eq (s : Bs) : allP s = qAll s := by
  unfold allP qAll
  exact allLoop_eq 17 ⟨s, 0⟩ ⟨s, 0⟩ [] (Sim.refl _) (by simp) (by simp)
theorem _root_.Go.Hl.Sim.rest {p q : RS} (h : Sim p q) : p.rest = qGot q.s.length q := by
  unfold RS.rest qGot qBad
  rw [h.e]
  by_cases c : q.e = 0
  · rw [if_pos c, if_neg (fun x => x c), h.2 (by rw [h.e]; exact c)]
    simp
  · rw [if_neg c, if_pos c]
theorem _root_.Go.Hl.Sim.gone {p q : RS} (h : Sim p q) : Sim p.gone (qTk q.s.length q) := by
  have he := h.e
  unfold RS.gone qTk qBad
  by_cases c : q.e = 0
  · have c' : p.e = 0 := by rw [he]; exact c
    simp only [c, c', ne_eq, not_true_eq_false, if_false, if_true]
    rw [if_neg (by simp)]
    exact ⟨rfl, fun _ => by simp⟩
  · have c' : ¬ p.e = 0 := by rw [he]; exact c
    simp only [c, c', ne_eq, not_false_eq_true, if_true, if_false]
    exact Sim.bad c' he.symm
theorem _root_.Go.Hl.Sim.pars {p q : RS} (h : Sim p q) : Sim (parR p) (qPars q).1 ∧ (allP p.rest).1 = (qPars q).2 := by
  unfold parR qPars
  have hr := h.rest
  have ha : (allP (qGot q.s.length q)).2 ≠ 0 → (allP (qGot q.s.length q)).1 = [] := fun h => allP_err h
  rw [hr, allP_eq] at *
  simp only
  by_cases c : (qAll (qGot q.s.length q)).2 = 0
  · rw [if_neg (fun x => x c), if_neg (fun x => x c)]
    exact ⟨h.gone, rfl⟩
  · rw [if_pos c, if_pos c]
    exact ⟨h.gone.fail c, ha c⟩
theorem _root_.Go.Hl.Sim.gaps {p q : RS} (h : Sim p q) (k : Nat) : (gapsN k p).1 = (qGaps k q).1 ∧ Sim (gapsN k p).2 (qGaps k q).2 := by
  induction k with
  | zero => exact ⟨rfl, h⟩
  | succ k ih =>
    unfold gapsN qGaps
    simp only
    rw [ih.1, ih.2.num 2, (ih.2.tk 2).num 2]
    exact ⟨rfl, (ih.2.tk 2).tk 2⟩
theorem _root_.Go.Hl.Sim.dups {p q : RS} (h : Sim p q) (k : Nat) : (dupsN k p).1 = (qDups k q).1 ∧ Sim (dupsN k p).2 (qDups k q).2 := by
  induction k with
  | zero => exact ⟨rfl, h⟩
  | succ k ih =>
    unfold dupsN qDups
    simp only
    rw [ih.1, ih.2.num 4]
    exact ⟨rfl, ih.2.tk 4⟩
theorem _root_.Go.Hl.Sim.end {p q : RS} (h : Sim p q) : p.end.e = qEnd q := by
  unfold RS.end endE qEnd
  simp only
  by_cases c : q.e = 0
  · rw [h.e, h.2 (by rw [h.e]; exact c)]
  · rw [if_neg (fun x => c (by rw [← h.e]; exact x.1)), if_neg (fun x => c x.1), h.e]
def qLate (y : RS × Ck) : RS := if y.1.e = 0 ∧ qKind y.2.typ = 3 ∧ rising y.2.gaps = false then qFail 3 y.1 else y.1
theorem qLate_plain {y : RS × Ck} (h : y.2.typ ≠ 3) : qLate y = y.1 := by
  unfold qLate
  rw [if_neg]
  rintro ⟨-, h2, -⟩
  apply h
  unfold qKind at h2
  repeat' split at h2
  all_goals first | omega | (simp at h2)
theorem qEnd_bad {r : RS} (h : r.e ≠ 0) : qEnd r ≠ 0 := by
  unfold qEnd
  rw [if_neg (fun x => h x.1)]
  exact h
theorem _root_.Go.Hl.Sim.says {p q : RS} (h : Sim p q) (c : Ck) : (saysR p c).1.end.e = qEnd (qLate (qSays q c)) ∧ (qEnd (qLate (qSays q c)) = 0 → (saysR p c).2 = (qSays q c).2) := by
  have key : ∀ {X Y : RS × Ck}, Sim X.1 Y.1 → X.2 = Y.2 → Y.2.typ ≠ 3 → X.1.end.e = qEnd (qLate Y) ∧ (qEnd (qLate Y) = 0 → X.2 = Y.2) := fun hs he ht => by
    rw [qLate_plain ht]
    exact ⟨hs.end, fun _ => he⟩
  unfold saysR qSays
  simp only
  by_cases t0 : c.typ = 0
  · rw [if_pos t0, if_pos t0]
    have h4 := (((h.tk 4).tk 2).tk 2).tk 4
    refine key h4.gone ?_ (by simp only; omega)
    simp only [h.num 4, (h.tk 4).num 2, ((h.tk 4).tk 2).num 2, (((h.tk 4).tk 2).tk 2).num 4, h4.rest]
  rw [if_neg t0, if_neg t0]
  by_cases t1 : isInit c.typ = true
  · rw [if_pos t1, if_pos t1]
    have h5 := ((((h.tk 4).tk 4).tk 2).tk 2).tk 4
    refine key h5.pars.1 ?_ (by
      unfold isInit at t1
      simp only [Bool.or_eq_true, decide_eq_true_eq] at t1
      simp only
      omega)
    simp only [h.num 4, (h.tk 4).num 4, ((h.tk 4).tk 4).num 2, (((h.tk 4).tk 4).tk 2).num 2, ((((h.tk 4).tk 4).tk 2).tk 2).num 4, h5.pars.2]
  rw [if_neg t1, if_neg t1]
  by_cases t3 : c.typ = 3
  · rw [if_pos t3, if_pos t3]
    have h2 := (h.tk 4).tk 4
    have h4 := (h2.tk 2).tk 2
    unfold sackR qSack
    simp only [h2.num 2, (h2.tk 2).num 2, h.num 4, (h.tk 4).num 4]
    by_cases hb : 16 < qNum 2 (qTk 4 (qTk 4 q)) ∨ 16 < qNum 2 (qTk 2 (qTk 4 (qTk 4 q)))
    · rw [if_pos hb, if_pos hb]
      have hf := h4.fail (x := 5) (by decide)
      have hne : (qFail 5 (qTk 2 (qTk 2 (qTk 4 (qTk 4 q))))).e ≠ 0 := by
        unfold qFail
        split
        · decide
        · assumption
      have hl : qLate (qFail 5 (qTk 2 (qTk 2 (qTk 4 (qTk 4 q)))), c) = qFail 5 (qTk 2 (qTk 2 (qTk 4 (qTk 4 q)))) := by
        unfold qLate
        rw [if_neg (fun x => hne x.1)]
      rw [hl]
      exact ⟨hf.end, fun x => absurd x (qEnd_bad hne)⟩
    · rw [if_neg hb, if_neg hb]
      have hg := h4.gaps (qNum 2 (qTk 4 (qTk 4 q)))
      have hd := hg.2.dups (qNum 2 (qTk 2 (qTk 4 (qTk 4 q))))
      rw [hg.1, hd.1]
      refine ⟨?_, fun _ => rfl⟩
      unfold qLate
      simp only
      refine Sim.end (Sim.ite ?_ (hd.2.fail (by decide)) hd.2)
      rw [hd.2.e]
      have hk : qKind c.typ = 3 := by rw [t3]; rfl
      simp only [hk, true_and]
  rw [if_neg t3, if_neg t3]
  by_cases tb : isBeat c.typ = true
  · rw [if_pos tb, if_pos tb]
    have hp := h.param
    rw [hp.1]
    by_cases hc : (qParam q).1.e = 0 ∧ (qParam q).2.typ ≠ 1
    · rw [if_pos hc, if_pos (by rw [hp.2.e]; exact hc)]
      have hne : (qFail 3 (qParam q).1).e ≠ 0 := by
        unfold qFail
        rw [if_pos hc.1]
        decide
      rw [qLate_plain (by exact t3)]
      exact ⟨(hp.2.fail (by decide)).end, fun x => absurd x (qEnd_bad hne)⟩
    · rw [if_neg hc, if_neg (by rw [hp.2.e]; exact hc)]
      exact key hp.2 rfl (by exact t3)
  rw [if_neg tb, if_neg tb]
  by_cases te : isErr c.typ = true
  · rw [if_pos te, if_pos te]
    exact key h.pars.1 (by simp only [h.pars.2]) (by exact t3)
  rw [if_neg te, if_neg te]
  by_cases t7 : c.typ = 7
  · rw [if_pos t7, if_pos t7]
    exact key (h.tk 4) (by simp only [h.num 4]) (by exact t3)
  rw [if_neg t7, if_neg t7]
  by_cases tc : isConf c.typ = true
  · rw [if_pos tc, if_pos tc]
    exact key (h.tk 4).pars.1 (by simp only [h.num 4, (h.tk 4).pars.2]) (by exact t3)
  rw [if_neg tc, if_neg tc]
  by_cases tr : isBare c.typ = true
  · rw [if_pos tr, if_pos tr]
    exact key h rfl (by exact t3)
  rw [if_neg tr, if_neg tr]
  by_cases t15 : c.typ = 15
  · rw [if_pos t15, if_pos t15]
    have h2 := (h.tk 2).tk 2
    exact key h2.gone (by simp only [h.num 2, (h.tk 2).num 2, h2.rest]) (by exact t3)
  · rw [if_neg t15, if_neg t15]
    exact key h.gone (by simp only [h.rest]) (by exact t3)
theorem says_flags (r : RS) (c : Ck) : (saysR r c).2.flags = c.flags := by
  unfold saysR sackR
  simp only
  repeat' split
  all_goals rfl
theorem _root_.Go.Hl.Sim.chunk {p q : RS} (h : Sim p q) : (tkChunk p).2 = (qChunk q).2 ∧ Sim (tkChunk p).1 (qChunk q).1 := by
  have h2 := (h.tk 1).tk 1
  have h3 := h2.tk 2
  unfold tkChunk qChunk
  simp only [h.num 1, (h.tk 1).num 1, h2.num 2]
  generalize (qNum 2 (qTk 1 (qTk 1 q))) = n at *
  have hfl : ((qNum 1 (qTk 1 q) : Nat) : Int) < 9223372036854775808 := by
    have := qNum1_lt' (qTk 1 q)
    omega
  generalize qNum 1 (qTk 1 q) = fl at *
  generalize qNum 1 q = ty at *
  have h4 : Sim (if (((p.tk 1).tk 1).tk 2).e = 0 ∧ (n : Int) - 4 < 0 then (((p.tk 1).tk 1).tk 2).fail 3 else ((p.tk 1).tk 1).tk 2) (if (qTk 2 (qTk 1 (qTk 1 q))).e = 0 ∧ (n : Int) < 4 then qFail 3 (qTk 2 (qTk 1 (qTk 1 q))) else qTk 2 (qTk 1 (qTk 1 q))) := by
    refine Sim.ite ?_ (h3.fail (by decide)) h3
    rw [h3.e]
    constructor
    · rintro ⟨a, b⟩
      exact ⟨a, by omega⟩
    · rintro ⟨a, b⟩
      exact ⟨a, by omega⟩
  generalize (if (((p.tk 1).tk 1).tk 2).e = 0 ∧ (n : Int) - 4 < 0 then (((p.tk 1).tk 1).tk 2).fail 3 else ((p.tk 1).tk 1).tk 2) = r4 at *
  generalize (if (qTk 2 (qTk 1 (qTk 1 q))).e = 0 ∧ (n : Int) < 4 then qFail 3 (qTk 2 (qTk 1 (qTk 1 q))) else qTk 2 (qTk 1 (qTk 1 q))) = q4 at *
  have hg := h4.got ((n : Int) - 4)
  have h5 := h4.tk ((n : Int) - 4)
  rw [hg]
  generalize r4.tk ((n : Int) - 4) = r5 at *
  generalize qTk ((n : Int) - 4) q4 = q5 at *
  have hm : (-((n : Int) - 4)) % 4 = (-(n : Int)) % 4 := by omega
  have h6 := Sim.whole h5 (n := (n : Int)) (by omega)
  rw [hm, fill_mod hm, h5.e]
  generalize (if r5.left < -(n : Int) % 4 then r5.fail 2 else r5).fill n = r7 at *
  generalize qWhole n q5 = q6 at *
  have h6e := h6.e
  by_cases c5 : q5.e = 0
  · by_cases c6 : q6.e = 0
    · have c6' : r7.e = 0 := by rw [h6e]; exact c6
      have hs := (Sim.refl ⟨qGot ((n : Int) - 4) q4, 0⟩).says { ck0 with typ := (ty : Nat), flags := (fl : Nat) }
      have hmy : (saysR ⟨qGot ((n : Int) - 4) q4, 0⟩ { ck0 with typ := (ty : Nat), flags := (fl : Nat) }).2.may = qMay (saysR ⟨qGot ((n : Int) - 4) q4, 0⟩ { ck0 with typ := (ty : Nat), flags := (fl : Nat) }).2 := may_eq (by rw [says_flags]; exact hfl)
      generalize saysR ⟨qGot ((n : Int) - 4) q4, 0⟩ { ck0 with typ := (ty : Nat), flags := (fl : Nat) } = X at *
      generalize hY : qSays ⟨qGot ((n : Int) - 4) q4, 0⟩ { ck0 with typ := (ty : Nat), flags := (fl : Nat) } = Y at *
      have hl : (if Y.1.e = 0 ∧ qKind Y.2.typ = 3 ∧ rising Y.2.gaps = false then qFail 3 Y.1 else Y.1) = qLate Y := rfl
      simp only [c5, c6, c6', ne_eq, not_true_eq_false, if_false, hl, hs.1, hmy]
      by_cases c8 : qEnd (qLate Y) = 0
      · rw [hs.2 c8]
        simp only [c8, not_true_eq_false, if_false]
        by_cases c9 : qMay Y.2 = false
        · rw [if_pos c9, if_pos c9]
          exact ⟨rfl, h6.fail (by decide)⟩
        · rw [if_neg c9, if_neg c9]
          exact ⟨rfl, h6⟩
      · simp only [c8, not_false_eq_true, if_true]
        exact ⟨trivial, h6.fail c8⟩
    · have c6' : ¬ r7.e = 0 := by rw [h6e]; exact c6
      simp only [c5, c6, c6', ne_eq, not_true_eq_false, not_false_eq_true, if_false, if_true]
      exact ⟨trivial, h6⟩
  · simp only [c5, ne_eq, not_false_eq_true, if_true]
    exact ⟨trivial, h5⟩
theorem getGo_eq : ∀ (k : Nat) (p q : RS) (out : List Ck), Sim p q → (getGo k p out).2 = (qGetGo k q out).2 ∧ Sim (getGo k p out).1 (qGetGo k q out).1
  | 0, p, q, out, h => ⟨rfl, h⟩
  | k + 1, p, q, out, h => by
    unfold getGo qGetGo
    have hm : 0 < p.left ↔ q.e = 0 ∧ 0 < q.s.length := by
      rw [h.more, List.length_pos_iff]
    by_cases c : q.e = 0 ∧ 0 < q.s.length
    · rw [if_pos (hm.2 c), if_pos c]
      by_cases c2 : out.length = 20
      · rw [if_pos c2, if_pos c2]
        exact ⟨rfl, h.fail (by decide)⟩
      · rw [if_neg c2, if_neg c2]
        have hc := h.chunk
        rw [hc.1]
        exact getGo_eq k _ _ _ hc.2
    · rw [if_neg (fun x => c (hm.1 x)), if_neg c]
      exact ⟨rfl, h⟩
theorem getP_eq (s : Bs) : qGetP s = getP s := by
  unfold getP qGetP
  by_cases c1 : 1400 < s.length
  · rw [if_pos c1, if_pos c1]
  by_cases c2 : s.length < 12
  · rw [if_neg c1, if_neg c1, if_pos c2, if_pos c2]
  by_cases c3 : sealL s 8 ≠ s
  · rw [if_neg c1, if_neg c1, if_neg c2, if_neg c2, if_pos c3, if_pos c3]
  rw [if_neg c1, if_neg c1, if_neg c2, if_neg c2, if_neg c3, if_neg c3]
  have h := Sim.refl ⟨s, 0⟩
  have h2 := (h.tk 2).tk 2
  have hg := getGo_eq 21 _ _ [] ((h2.tk 4).tk 4)
  simp only [h.num 2, (h.tk 2).num 2, h2.num 4, hg.1, hg.2.e]
end Go.Proofs.Ytbncfiijlnakkaa
end
section
/-! Plain law: what was put down is read back. -/
namespace Go.Hl
theorem b8_nat (x : Int) : (b8 x).toNat = (x % 256).toNat := by
  unfold b8
  simp
  omega
theorem numB_1 {x : Int} (h0 : 0 ≤ x) (h1 : x < 256) : ((numB [b8 x] : Nat) : Int) = x := by
  simp only [numB, List.foldl_cons, List.foldl_nil, b8_nat]
  omega
theorem numB_be2 {x : Int} (h0 : 0 ≤ x) (h1 : x < 65536) : ((numB (be2 x) : Nat) : Int) = x := by
  simp only [numB, be2, List.foldl_cons, List.foldl_nil, b8_nat]
  omega
theorem numB_be4 {x : Int} (h0 : 0 ≤ x) (h1 : x < 4294967296) : ((numB (be4 x) : Nat) : Int) = x := by
  simp only [numB, be4, List.foldl_cons, List.foldl_nil, b8_nat]
  omega
/-- What lies ahead is taken. -/
theorem tk_app {a b : Bs} {n : Int} (h : n = (a.length : Int)) : (⟨a ++ b, 0⟩ : RS).tk n = ⟨b, 0⟩ ∧ (⟨a ++ b, 0⟩ : RS).got n = a := by
  subst h
  obtain ⟨h1, h2⟩ := tk_all (p := ⟨a ++ b, 0⟩) rfl (n := (a.length : Int)) (by omega) (by simp only [List.length_append]; omega)
  rw [h1, h2]
  simp
theorem tk2 {x : Int} {b : Bs} : (⟨be2 x ++ b, 0⟩ : RS).tk 2 = ⟨b, 0⟩ := (tk_app rfl).1
theorem tk4 {x : Int} {b : Bs} : (⟨be4 x ++ b, 0⟩ : RS).tk 4 = ⟨b, 0⟩ := (tk_app rfl).1
theorem tk1 {x : UInt8} {b : Bs} : (⟨x :: b, 0⟩ : RS).tk 1 = ⟨b, 0⟩ := (tk_app (a := [x]) rfl).1
theorem num2 {x : Int} {b : Bs} (h0 : 0 ≤ x) (h1 : x < 65536) : (((⟨be2 x ++ b, 0⟩ : RS).num 2 : Nat) : Int) = x := by
  unfold RS.num
  rw [(tk_app (a := be2 x) (b := b) (n := 2) rfl).2]
  exact numB_be2 h0 h1
theorem num4 {x : Int} {b : Bs} (h0 : 0 ≤ x) (h1 : x < 4294967296) : (((⟨be4 x ++ b, 0⟩ : RS).num 4 : Nat) : Int) = x := by
  unfold RS.num
  rw [(tk_app (a := be4 x) (b := b) (n := 4) rfl).2]
  exact numB_be4 h0 h1
theorem num1 {x : Int} {b : Bs} (h0 : 0 ≤ x) (h1 : x < 256) : (((⟨b8 x :: b, 0⟩ : RS).num 1 : Nat) : Int) = x := by
  unfold RS.num
  have := (tk_app (a := [b8 x]) (b := b) (n := 1) rfl).2
  rw [List.singleton_append] at this
  rw [this]
  exact numB_1 h0 h1
theorem fill_app {n : Int} {k : Nat} {b : Bs} (h : (k : Int) = (-n) % 4) : (⟨noughts k ++ b, 0⟩ : RS).left ≥ (-n) % 4 ∧ (⟨noughts k ++ b, 0⟩ : RS).fill n = ⟨b, 0⟩ := by
  have hl : leftN (noughts k ++ b) 0 = ((k + b.length : Nat) : Int) := by
    unfold leftN
    rw [if_pos rfl]
    simp
  have hN : flN n (noughts k ++ b) 0 = (k : Int) := by
    unfold flN
    rw [hl, ← h, if_neg (by omega)]
  obtain ⟨h1, h2⟩ := tk_app (a := noughts k) (b := b) (n := (k : Int)) (by simp)
  refine ⟨?_, ?_⟩
  · unfold RS.left
    rw [hl, ← h]
    omega
  · unfold RS.fill flR flE
    simp only [hN]
    have e1 : tkS (k : Int) (noughts k ++ b) 0 = noughts k := h2
    have e2 : tkR (k : Int) (noughts k ++ b) 0 = b := congrArg RS.s h1
    have e3 : tkE (k : Int) (noughts k ++ b) 0 = 0 := congrArg RS.e h1
    rw [e1, e2, e3]
    simp
theorem param_back {p : Pm} (h : p.may = true) (rest : Bs) : tkParam ⟨p.put ++ rest, 0⟩ = (p, ⟨rest, 0⟩) := by
  have hm := h
  unfold Pm.may at hm
  simp only [Bool.and_eq_true, decide_eq_true_eq] at hm
  have hs : p.put ++ rest = be2 p.typ ++ (be2 (p.val.length + 4) ++ (p.val ++ (noughts (padN (4 + p.val.length)) ++ rest))) := by
    have hlen : (be2 p.typ ++ be2 (p.val.length + 4) ++ p.val).length = 4 + p.val.length := by
      simp [be2_len]
      omega
    unfold Pm.put filled
    rw [if_pos h, hlen]
    simp
  rw [hs]
  unfold tkParam
  simp only [tk2, num2 (show (0 : Int) ≤ (p.val.length : Int) + 4 by omega) (show (p.val.length : Int) + 4 < 65536 by omega)]
  have e : (p.val.length : Int) + 4 - 4 = (p.val.length : Int) := by omega
  rw [e, if_neg (show ¬ (True ∧ ((p.val.length : Int) < 0 ∨ 1000 < (p.val.length : Int))) by omega)]
  obtain ⟨h1, h2⟩ := tk_app (a := p.val) (b := noughts (padN (4 + p.val.length)) ++ rest) (n := (p.val.length : Int)) rfl
  rw [h1, h2, if_neg (by simp)]
  have hk : ((padN (4 + p.val.length) : Nat) : Int) = (-(p.val.length : Int)) % 4 := by
    unfold padN
    omega
  obtain ⟨f1, f2⟩ := fill_app (b := rest) hk
  have f3 : ¬ (⟨noughts (padN (4 + p.val.length)) ++ rest, 0⟩ : RS).left < -(p.val.length : Int) % 4 := by omega
  rw [if_neg f3, f2, if_neg (by simp)]
  have ht : ((((⟨be2 p.typ ++ (be2 (p.val.length + 4) ++ (p.val ++ (noughts (padN (4 + p.val.length)) ++ rest))), 0⟩ : RS).num 2 : Nat)) : Int) = p.typ := num2 hm.1.1 hm.1.2
  rw [ht]
theorem put_pos {p : Pm} (h : p.may = true) : 0 < p.put.length := by
  unfold Pm.put
  rw [if_pos h, filled_len]
  simp [be2_len]
  omega
theorem all_back : ∀ (l : List Pm) (k : Nat) (out : List Pm), l.all Pm.may = true → out.length + l.length ≤ 16 → l.length < k → allLoop k ⟨putAll l, 0⟩ out = (⟨[], 0⟩, out ++ l)
  | [], k + 1, out, _, _, _ => by
    unfold allLoop
    rw [if_neg (by simp [RS.left, leftN, putAll])]
    simp [putAll]
  | p :: l, k + 1, out, h, h1, h2 => by
    simp only [List.all_cons, Bool.and_eq_true] at h
    have hs : putAll (p :: l) = p.put ++ putAll l := by simp [putAll]
    have hpos := put_pos h.1
    have hb := param_back h.1 (putAll l)
    unfold allLoop
    rw [hs, if_pos (by simp only [RS.left, leftN, if_true, List.length_append]; omega), if_neg (by simp only [List.length_cons] at h1; omega), hb]
    simp only
    rw [all_back l k (out ++ [p]) h.2 (by simp only [List.length_append, List.length_cons, List.length_nil] at h1 ⊢; omega) (by simp only [List.length_cons] at h2; omega)]
    simp
  | _, 0, _, _, _, h => by omega
theorem allP_back {l : List Pm} (h : l.all Pm.may = true) (h1 : l.length ≤ 16) : allP (putAll l) = (l, 0) := by
  unfold allP
  rw [all_back l 17 [] h (by simpa using h1) (by omega)]
  simp
end Go.Hl
end
section
/-! Plain law: a packet that was put down is read back. -/
namespace Go.Proofs.Ytbncfiijlnakkaa
open Go.Hl
set_option maxHeartbeats 1000000
theorem snoc_ind {α : Type} {P : List α → Prop} (h0 : P []) (h1 : ∀ l a, P l → P (l ++ [a])) (l : List α) : P l := by
  have key : ∀ m : List α, P m.reverse := fun m => by
    induction m with
    | nil => exact h0
    | cons a m ih =>
      rw [List.reverse_cons]
      exact h1 _ _ ih
  have := key l.reverse
  rwa [List.reverse_reverse] at this
theorem gaps_back : ∀ (l : List (Int × Int)) (rest : Bs), (∀ g ∈ l, 0 ≤ g.1 ∧ g.1 < 65536 ∧ 0 ≤ g.2 ∧ g.2 < 65536) → gapsN l.length ⟨gapsF l ++ rest, 0⟩ = (l, ⟨rest, 0⟩) := by
  intro l
  refine snoc_ind (P := fun l => ∀ rest : Bs, (∀ g ∈ l, 0 ≤ g.1 ∧ g.1 < 65536 ∧ 0 ≤ g.2 ∧ g.2 < 65536) → gapsN l.length ⟨gapsF l ++ rest, 0⟩ = (l, ⟨rest, 0⟩)) (fun rest _ => rfl) (fun l g ih rest h => ?_) l
  · have hg := h g (by simp)
    have hs : gapsF (l ++ [g]) ++ rest = gapsF l ++ (be2 g.1 ++ (be2 g.2 ++ rest)) := by simp (dsimp := false) [gapsF]
    rw [List.length_append, List.length_singleton, gapsN, hs, ih _ (fun x hx => h x (List.mem_append_left _ hx))]
    simp only [tk2, num2 hg.1 hg.2.1, num2 hg.2.2.1 hg.2.2.2]
theorem dups_back : ∀ (l : List Int) (rest : Bs), (∀ g ∈ l, 0 ≤ g ∧ g < 4294967296) → dupsN l.length ⟨dupsF l ++ rest, 0⟩ = (l, ⟨rest, 0⟩) := by
  intro l
  refine snoc_ind (P := fun l => ∀ rest : Bs, (∀ g ∈ l, 0 ≤ g ∧ g < 4294967296) → dupsN l.length ⟨dupsF l ++ rest, 0⟩ = (l, ⟨rest, 0⟩)) (fun rest _ => rfl) (fun l g ih rest h => ?_) l
  · have hg := h g (by simp)
    have hs : dupsF (l ++ [g]) ++ rest = dupsF l ++ (be4 g ++ rest) := by simp (dsimp := false) [dupsF]
    rw [List.length_append, List.length_singleton, dupsN, hs, ih _ (fun x hx => h x (List.mem_append_left _ hx))]
    simp only [tk4, num4 hg.1 hg.2]
theorem rising_mem : ∀ (l : List (Int × Int)) (last : Int), -1 ≤ last → risingL last l = true → ∀ g ∈ l, 0 ≤ g.1 ∧ g.1 < 65536 ∧ 0 ≤ g.2 ∧ g.2 < 65536
  | [], _, _, _, g, hg => by simp at hg
  | x :: l, last, h0, h, g, hg => by
    unfold risingL at h
    split at h
    · cases h
    · rename_i hc
      simp only [not_or] at hc
      rcases List.mem_cons.1 hg with rfl | hg
      · omega
      · exact rising_mem l x.2 (by omega) h g hg
/-- The numbers of 32 bits are such. -/
def Ck.U32 (c : Ck) : Prop := (∀ x ∈ [c.tsn, c.proto, c.tag, c.rwnd], 0 ≤ x ∧ x < 4294967296) ∧ ∀ x ∈ c.dups, 0 ≤ x ∧ x < 4294967296
theorem gone_nil (s : Bs) : (⟨s, 0⟩ : RS).gone = ⟨[], 0⟩ := by simp (dsimp := false) [RS.gone]
theorem rest_all (s : Bs) : (⟨s, 0⟩ : RS).rest = s := by simp (dsimp := false) [RS.rest]
theorem pars_back {l : List Pm} (h : l.all Pm.may = true) (h1 : l.length ≤ 16) : parR ⟨putAll l, 0⟩ = ⟨[], 0⟩ ∧ (allP (⟨putAll l, 0⟩ : RS).rest).1 = l := by
  unfold parR
  rw [rest_all, allP_back h h1, gone_nil]
  simp
theorem ck_ext {a b : Ck} (h1 : a.typ = b.typ) (h2 : a.flags = b.flags) (h3 : a.tsn = b.tsn ∧ a.stream = b.stream ∧ a.ssn = b.ssn ∧ a.proto = b.proto ∧ a.data = b.data ∧ a.tag = b.tag ∧ a.rwnd = b.rwnd ∧ a.out = b.out ∧ a.inn = b.inn)
    (h4 : a.params = b.params) (h5 : a.causes = b.causes) (h6 : a.gaps = b.gaps) (h7 : a.dups = b.dups) : a = b := by
  obtain ⟨e1, e2, e3, e4, e5, e6, e7, e8, e9⟩ := h3
  cases a
  cases b
  simp only at *
  subst h1 h2 e1 e2 e3 e4 e5 e6 e7 e8 e9 h4 h5 h6 h7
  rfl
theorem plain_lists (c : Ck) : c.plain.typ = c.typ ∧ c.plain.flags = c.flags ∧ (c.plain.params = c.params ∨ c.plain.params = []) ∧ (c.plain.causes = c.causes ∨ c.plain.causes = []) ∧ (c.plain.gaps = c.gaps ∨ c.plain.gaps = []) ∧ (c.plain.dups = c.dups ∨ c.plain.dups = []) := by
  unfold Ck.plain
  simp only
  repeat' split
  all_goals simp
theorem same_eq {c : Ck} (h : c.same c.plain = true) : c = c.plain := by
  unfold Ck.same at h
  rw [decide_eq_true_eq] at h
  obtain ⟨e1, e2, e3, e4, e5, e6, e7, e8, e9, l1, l2, l3, l4⟩ := h
  obtain ⟨t, f, p1, p2, p3, p4⟩ := plain_lists c
  have key : ∀ {α : Type} {a b : List α}, (b = a ∨ b = []) → a.length = b.length → a = b := fun h hl => by
    rcases h with h | h
    · exact h.symm
    · subst h
      exact List.length_eq_zero_iff.1 hl
  exact ck_ext t.symm f.symm ⟨e1, e2, e3, e4, e5, e6, e7, e8, e9⟩ (key p1 l1) (key p2 l2) (key p3 l3) (key p4 l4)
theorem says_back {c : Ck} (h : c.may = true) (hu : Ck.U32 c) : saysR ⟨c.body, 0⟩ { ck0 with typ := c.typ, flags := c.flags } = (⟨[], 0⟩, c) := by
  have hm := h
  unfold Ck.may Ck.lists word at hm
  simp only [Bool.and_eq_true, decide_eq_true_eq, Bool.not_eq_true', Bool.and_eq_false_iff, decide_eq_false_iff_not] at hm
  obtain ⟨⟨⟨⟨⟨⟨⟨⟨m1, m2⟩, m3⟩, m4⟩, ⟨⟨⟨p1, p2⟩, p3⟩, p4⟩⟩, ⟨⟨⟨⟨⟨⟨w1, w2⟩, w3⟩, w4⟩, w5⟩, w6⟩, w7⟩⟩, m5⟩, m6⟩, ms⟩ := hm
  have hp := same_eq ms
  have u1 := hu.1 c.tsn (by simp)
  have u2 := hu.1 c.proto (by simp)
  have u3 := hu.1 c.tag (by simp)
  have u4 := hu.1 c.rwnd (by simp)
  unfold Ck.plain at hp
  unfold saysR Ck.body
  simp only at hp ⊢
  by_cases t0 : c.typ = 0
  · rw [if_pos t0] at hp ⊢
    rw [if_pos t0]
    simp only [List.append_assoc, tk4, tk2, num4 u1.1 u1.2, num4 u2.1 u2.2, num2 w1.1 w1.2, num2 w2.1 w2.2, gone_nil, rest_all]
    exact Prod.ext rfl hp.symm
  rw [if_neg t0] at hp ⊢
  rw [if_neg t0]
  by_cases t1 : isInit c.typ = true
  · rw [if_pos t1] at hp ⊢
    rw [if_pos t1]
    obtain ⟨b1, b2⟩ := pars_back p1 p3
    simp only [List.append_assoc, tk4, tk2, num4 u1.1 u1.2, num4 u3.1 u3.2, num4 u4.1 u4.2, num2 w3.1 w3.2, num2 w4.1 w4.2, b1, b2]
    exact Prod.ext rfl hp.symm
  rw [if_neg t1] at hp ⊢
  rw [if_neg t1]
  by_cases t3 : c.typ = 3
  · rw [if_pos t3] at hp ⊢
    rw [if_pos t3]
    have hr : c.gaps.length ≤ 16 := by
      unfold rising at w6
      simp only [Bool.and_eq_true, decide_eq_true_eq] at w6
      exact w6.2
    have hrm := rising_mem c.gaps 0 (by decide) (by
      unfold rising at w6
      simp only [Bool.and_eq_true] at w6
      exact w6.1)
    have n1 : ∀ b, (⟨be2 c.gaps.length ++ b, 0⟩ : RS).num 2 = c.gaps.length := fun b => by
      have := num2 (x := (c.gaps.length : Int)) (b := b) (by omega) (by omega)
      omega
    have n2 : ∀ b, (⟨be2 c.dups.length ++ b, 0⟩ : RS).num 2 = c.dups.length := fun b => by
      have := num2 (x := (c.dups.length : Int)) (b := b) (by omega) (by omega)
      omega
    have hb : be4 c.tsn ++ be4 c.rwnd ++ gapsB c = be4 c.tsn ++ (be4 c.rwnd ++ (be2 c.gaps.length ++ (be2 c.dups.length ++ (gapsF c.gaps ++ (dupsF c.dups ++ []))))) := by simp (dsimp := false) [gapsB]
    rw [hb]
    unfold sackR
    simp only [tk4, tk2, n1, n2, num4 u1.1 u1.2, num4 u4.1 u4.2]
    rw [if_neg (by omega), gaps_back c.gaps _ hrm]
    simp only
    rw [dups_back c.dups _ hu.2]
    simp only [w6]
    refine Prod.ext ?_ hp.symm
    simp
  rw [if_neg t3] at hp ⊢
  rw [if_neg t3]
  by_cases tb : isBeat c.typ = true
  · have q1 : ¬ isErr c.typ = true ∧ ¬ c.typ = 7 ∧ ¬ isConf c.typ = true ∧ ¬ isBare c.typ = true ∧ ¬ c.typ = 15 := by
      unfold isBeat at tb
      unfold isErr isConf isBare
      simp only [Bool.or_eq_true, decide_eq_true_eq] at tb ⊢
      omega
    rw [if_neg q1.1, if_neg q1.2.1, if_neg q1.2.2.1, if_neg q1.2.2.2.1, if_neg q1.2.2.2.2] at hp
    rw [if_pos tb, if_pos tb]
    have hpm : Pm.may ⟨1, c.data⟩ = true := by
      unfold Pm.may
      simp only [Bool.and_eq_true, decide_eq_true_eq]
      omega
    have hb := param_back hpm []
    rw [List.append_nil] at hb
    rw [hb]
    simp only [ne_eq, not_true_eq_false, and_false, if_false]
    exact Prod.ext rfl hp.symm
  rw [if_neg tb, if_neg tb]
  by_cases te : isErr c.typ = true
  · rw [if_pos te] at hp ⊢
    rw [if_pos te]
    obtain ⟨b1, b2⟩ := pars_back p2 p4
    rw [b1, b2]
    exact Prod.ext rfl hp.symm
  rw [if_neg te] at hp ⊢
  rw [if_neg te]
  by_cases t7 : c.typ = 7
  · rw [if_pos t7] at hp ⊢
    rw [if_pos t7]
    have e4 : be4 c.tsn = be4 c.tsn ++ [] := by simp
    rw [e4]
    simp only [tk4, num4 u1.1 u1.2]
    exact Prod.ext rfl hp.symm
  rw [if_neg t7] at hp ⊢
  rw [if_neg t7]
  by_cases tc : isConf c.typ = true
  · rw [if_pos tc] at hp ⊢
    rw [if_pos tc]
    obtain ⟨b1, b2⟩ := pars_back p1 p3
    simp only [tk4, num4 u1.1 u1.2, b1, b2]
    exact Prod.ext rfl hp.symm
  rw [if_neg tc] at hp ⊢
  rw [if_neg tc]
  by_cases tr : isBare c.typ = true
  · rw [if_pos tr] at hp ⊢
    rw [if_pos tr]
    exact Prod.ext rfl hp.symm
  rw [if_neg tr] at hp ⊢
  rw [if_neg tr]
  by_cases t15 : c.typ = 15
  · rw [if_pos t15] at hp ⊢
    rw [if_pos t15]
    simp only [List.append_assoc, tk2, num2 w1.1 w1.2, num2 w2.1 w2.2, gone_nil, rest_all]
    exact Prod.ext rfl hp.symm
  · rw [if_neg t15] at hp ⊢
    rw [if_neg t15]
    simp only [gone_nil, rest_all]
    exact Prod.ext rfl hp.symm
end Go.Proofs.Ytbncfiijlnakkaa
end
section
/-! Plain law: a packet that was put down is read back. -/
namespace Go.Proofs.Ytbncfiijlnakkaa
open Go.Hl
set_option maxHeartbeats 1000000
theorem may_flags {c : Ck} (h : c.may = true) (hf : c.flags < 9223372036854775808) : 0 ≤ c.typ ∧ c.typ < 256 ∧ 0 ≤ c.flags ∧ c.flags < 256 ∧ c.body.length ≤ 65531 := by
  unfold Ck.may at h
  simp only [Bool.and_eq_true, decide_eq_true_eq] at h
  obtain ⟨⟨⟨⟨⟨⟨⟨⟨m1, m2⟩, m3⟩, m4⟩, -⟩, -⟩, -⟩, m6⟩, -⟩ := h
  have := (odd_iff m3 hf).1 m4
  omega
theorem chunk_back {c : Ck} (h : c.may = true) (hf : c.flags < 9223372036854775808) (hu : Ck.U32 c) (rest : Bs) : tkChunk ⟨c.put ++ rest, 0⟩ = (⟨rest, 0⟩, c) := by
  obtain ⟨m1, m2, m3, m4, m5⟩ := may_flags h hf
  have hs : c.put ++ rest = b8 c.typ :: (b8 c.flags :: (be2 (c.body.length + 4) ++ (c.body ++ (noughts (padN (4 + c.body.length)) ++ rest)))) := by
    have hlen : ([b8 c.typ, b8 c.flags] ++ be2 (c.body.length + 4) ++ c.body).length = 4 + c.body.length := by
      simp (dsimp := false) [be2_len]
      omega
    unfold Ck.put filled
    rw [if_pos h, hlen]
    simp
  rw [hs]
  unfold tkChunk
  simp only [tk1, tk2, num1 m1 m2, num1 m3 m4, num2 (show (0 : Int) ≤ (c.body.length : Int) + 4 by omega) (show (c.body.length : Int) + 4 < 65536 by omega)]
  have e : (c.body.length : Int) + 4 - 4 = (c.body.length : Int) := by omega
  rw [e, if_neg (show ¬ (True ∧ (c.body.length : Int) < 0) by omega)]
  obtain ⟨h1, h2⟩ := tk_app (a := c.body) (b := noughts (padN (4 + c.body.length)) ++ rest) (n := (c.body.length : Int)) rfl
  rw [h1, h2, if_neg (by simp)]
  have hk : ((padN (4 + c.body.length) : Nat) : Int) = (-(c.body.length : Int)) % 4 := by
    unfold padN
    omega
  obtain ⟨f1, f2⟩ := fill_app (b := rest) hk
  have f3 : ¬ (⟨noughts (padN (4 + c.body.length)) ++ rest, 0⟩ : RS).left < -(c.body.length : Int) % 4 := by omega
  rw [if_neg f3, f2, if_neg (by simp), says_back h hu]
  simp (dsimp := false) [RS.end, endE, h]
theorem put_ne {c : Ck} (h : c.put ≠ []) : c.may = true := by
  unfold Ck.put at h
  split at h
  · assumption
  · exact absurd rfl h
theorem getGo_back : ∀ (l : List Ck) (k : Nat) (out : List Ck), (∀ c ∈ l, c.put ≠ [] ∧ c.flags < 9223372036854775808 ∧ Ck.U32 c) → out.length + l.length ≤ 20 → l.length < k → getGo k ⟨l.flatMap Ck.put, 0⟩ out = (⟨[], 0⟩, out ++ l)
  | [], k + 1, out, _, _, _ => by
    unfold getGo
    rw [if_neg (by simp (dsimp := false) [RS.left, leftN])]
    simp
  | c :: l, k + 1, out, h, h1, h2 => by
    obtain ⟨hp, hf, hu⟩ := h c (List.mem_cons_self ..)
    have hpos : 0 < c.put.length := List.length_pos_iff.2 hp
    have hb := chunk_back (put_ne hp) hf hu (l.flatMap Ck.put)
    unfold getGo
    rw [List.flatMap_cons, if_pos (by simp only [RS.left, leftN, if_true, List.length_append]; omega), if_neg (by simp only [List.length_cons] at h1; omega), hb]
    simp only
    rw [getGo_back l k (out ++ [c]) (fun x hx => h x (List.mem_cons_of_mem _ hx)) (by simp only [List.length_append, List.length_cons, List.length_nil] at h1 ⊢; omega) (by simp only [List.length_cons] at h2; omega)]
    simp
  | _, 0, _, _, _, h => by omega
theorem putGo_all : ∀ (l : List Ck) (s r : Bs), putGo s l = some r → r = s ++ l.flatMap Ck.put ∧ ∀ c ∈ l, c.put ≠ []
  | [], s, r, h => by
    injection h with h
    subst h
    simp
  | c :: l, s, r, h => by
    unfold putGo at h
    split at h
    · cases h
    · rename_i hc
      simp only [not_or] at hc
      obtain ⟨h1, h2⟩ := putGo_all l _ _ h
      refine ⟨by rw [h1]; simp, fun x hx => ?_⟩
      rcases List.mem_cons.1 hx with rfl | hx
      · exact hc.1
      · exact h2 x hx
/-- What was put down is read back. -/
theorem putP_back {f t tag : Int} {l : List Ck} (hl : ∀ c ∈ l, c.flags < 9223372036854775808 ∧ Ck.U32 c) (htag : 0 ≤ tag ∧ tag < 4294967296) (hp : putP f t tag l ≠ []) : getP (putP f t tag l) = (⟨f, t, tag, l⟩, 0) := by
  unfold putP at hp ⊢
  split at hp
  · exact absurd rfl hp
  rename_i hto
  rw [if_neg hto]
  split at hp
  · rename_i s hs
    have hlen := putGo_len l _ _ (headB_len f t tag) hs
    obtain ⟨hsf, hne⟩ := putGo_all l _ _ hs
    have h12 : 12 ≤ s.length := hlen.1
    have hsl := sealL_len (s := s) (k := 8) (by omega)
    have hss := seal_seal (s := s) (k := 8) (by omega)
    have hto' := hto
    unfold togetherP at hto'
    rw [Bool.not_eq_false] at hto
    have hb : sealL s 8 = be2 f ++ (be2 t ++ (be4 tag ++ (le4 (crcL (zed s 8)) ++ l.flatMap Ck.put))) := by
      have h1 : s.take 8 = be2 f ++ (be2 t ++ be4 tag) := by
        rw [hsf]
        rfl
      have h2 : s.drop 12 = l.flatMap Ck.put := by
        rw [hsf]
        rfl
      unfold sealL
      rw [h1, h2]
      simp
    have hft : (1 ≤ f ∧ f < 65536) ∧ (1 ≤ t ∧ t < 65536) ∧ l.length ≤ 20 := by
      split at hto'
      · simp at hto'
      · rename_i hc
        omega
    unfold getP
    rw [if_neg (by omega), if_neg (by omega), if_neg (fun x => x hss), hb]
    have hle : ∀ x : Bs, (⟨le4 (crcL (zed s 8)) ++ x, 0⟩ : RS).tk 4 = ⟨x, 0⟩ := fun x => (tk_app (a := le4 (crcL (zed s 8))) (n := 4) rfl).1
    simp only [tk2, tk4, hle, num2 (show 0 ≤ f by omega) hft.1.2, num2 (show 0 ≤ t by omega) hft.2.1.2, num4 htag.1 htag.2]
    rw [getGo_back l 21 [] (fun c hc => ⟨hne c hc, hl c hc⟩) (by simpa using hft.2.2) (by omega)]
    have hok : (⟨f, t, tag, l⟩ : Pk).ok = true := hto
    simp (dsimp := false) [hok]
  · exact absurd rfl hp
end Go.Proofs.Ytbncfiijlnakkaa
end
section
namespace Go.Proofs.Ytbncfiijlnakkaa
open Go.Hl
set_option maxHeartbeats 4000000
theorem putP_len {f t tag : Int} {l : List Ck} (hp : putP f t tag l ≠ []) : ((putP f t tag l).length : Int) = sizeP l := by
  unfold putP at hp ⊢
  split at hp
  · exact absurd rfl hp
  rename_i hto
  rw [if_neg hto]
  split at hp
  · rename_i s hs
    have hlen := putGo_len l _ _ (headB_len f t tag) hs
    have h12 : 12 ≤ s.length := hlen.1
    have hsl := sealL_len (s := s) (k := 8) (by omega)
    obtain ⟨hsf, -⟩ := putGo_all l _ _ hs
    have : s.length = 12 + (l.flatMap Ck.put).length := by
      rw [hsf, List.length_append]
      rfl
    unfold sizeP
    omega
  · exact absurd rfl hp
theorem wide_flags {c : Ck} (h : c.Wide) : c.flags < 9223372036854775808 := by
  have := h.i c.flags (by simp)
  simp (dsimp := false) [Lit.wf, IntKind.min, IntKind.max, IntKind.bits, IntKind.signed] at this
  omega
theorem cut_back {c : Ck} (h : c.Wide) : (cutCk c).flags < 9223372036854775808 ∧ Ck.U32 (cutCk c) := by
  refine ⟨show c.flags < _ from wide_flags h, fun x hx => ?_, fun x hx => ?_⟩
  · have := h.u x hx
    simp (dsimp := false) [Lit.wf, IntKind.min, IntKind.max, IntKind.bits, IntKind.signed] at this
    omega
  · have := h.n x (List.mem_of_mem_take hx)
    simp (dsimp := false) [Lit.wf, IntKind.min, IntKind.max, IntKind.bits, IntKind.signed] at this
    omega
theorem cutL_back {l : List Ck} (h : ∀ c ∈ l, c.Wide) : ∀ c ∈ cutL l, c.flags < 9223372036854775808 ∧ Ck.U32 c := by
  intro c hc
  obtain ⟨d, hd, rfl⟩ := List.mem_map.1 hc
  exact cut_back (h d (List.mem_of_mem_take hd))
variable {h : H}
set_option maxRecDepth 100000 in
theorem packetPuts_row {l : List El} {v : V} {f t tag : Int} (hs : CksIs h l v) (hw : ∀ e ∈ l, e.c.Wide ∧ FreeS e.vg ∧ FreeS e.vd) (_ : l.length ≤ maxLen) (_ : (Lit.int .i64 f).wf = true) (_ : (Lit.int .i64 t).wf = true) (htag : (Lit.int .u32 tag).wf = true) :
    Ok (Does Try.prog putC 9 [.agg [.int .i64 f, .int .i64 t, .int .u32 tag, v]] h) fun x => x.1 = .bool true := by
  simp (dsimp := false) [Lit.wf, IntKind.min, IntKind.max, IntKind.bits, IntKind.signed] at htag
  have hf := hs.sl.facts
  have hs1 := hs.blks (h' := ⟨h.blks, []⟩) rfl
  have hwc : ∀ c ∈ l.map El.c, c.Wide := fun c hc => by
    obtain ⟨e, he, rfl⟩ := List.mem_map.1 hc
    exact (hw e he).1
  have hback := cutL_back hwc
  obtain ⟨⟨x1, x2⟩, hx, L, w, hv, ⟨m', es', he2, hes'⟩, hS, hL⟩ := cut07 (C := putC) (f := f) (t := t) (tag := tag) (h := ⟨h.blks ++ [⟨[.int .i64 f, .int .i64 t, .int .u32 tag, v], 0, 0, false⟩], []⟩) (CksIs.app hs1 _) hw
  obtain ⟨hsm, hll⟩ := cutL_small hL
  simp only at hv he2 hS
  subst hv he2
  simp at hx hS hes'
  have hP := fun m es => packet_Put (C := putC) (f := f) (t := t) (tag := tag) (CksIs.app (es' := es) hS m) (by omega) hsm
  have hQ := fun m es => rdoc7_Put (f := f) (t := t) (tag := tag) (CksIs.app (es' := es) hS m) (by omega) hsm (cutL_gaps hL hwc)
  have hZ := fun m es => packet_Size (C := putC) (CksIs.app (es' := es) hS m) (by omega) hsm
  rw [hL] at hP hQ hZ
  have hq := putP_eq (f := f) (t := t) (tag := tag) (l := cutL (l.map El.c)) (fun c hc => (hback c hc).1)
  rw [hq] at hQ
  have hfw := hS.sl.facts
  have hfw1 := (CksIs.app (es' := es') hS [default]).sl.facts
  simp at hP hQ hZ hfw hfw1
  obtain ⟨⟨a1, a2⟩, ha, hb, m3, es3, he3, hes3⟩ := awake07 (C := putC) (h := ⟨h.blks ++ (⟨[.int .i64 f, .int .i64 t, .int .u32 tag, v], 0, 0, false⟩ :: (m' ++ [⟨[.int .i64 f, .int .i64 t, .int .u32 tag, w], 0, 0, false⟩])), es'⟩)
  simp only at hb he3
  subst hb he3
  simp at ha
  have hz := @putP_len f t tag (cutL (l.map El.c))
  have hbk := putP_back (f := f) (t := t) (tag := tag) hback ⟨by omega, by omega⟩
  have hlen : (putP f t tag (cutL (l.map El.c))).length ≤ 1400 := by
    rcases putP_cases f t tag (cutL (l.map El.c)) with hp | ⟨s, h12, h14, hp⟩
    · rw [hp]
      simp
    · rw [hp, sealL_len (by omega)]
      exact h14
  generalize hA : putP f t tag (cutL (l.map El.c)) = a at *
  obtain ⟨⟨z1, z2⟩, hzz, u, hu, ⟨m5, es5, he5, hes5⟩, w3, l3, hw3, hl3, hlc3⟩ := packet_Get (C := putC) (h := ⟨h.blks ++ (⟨[.int .i64 f, .int .i64 t, .int .u32 tag, v], 0, 0, false⟩ :: (m' ++ (⟨[.int .i64 f, .int .i64 t, .int .u32 tag, w], 0, 0, false⟩ :: m3))), es' ++ es3⟩) a (by omega)
  simp only at hu he5 hl3
  subst hu he5 hw3
  have hf3 := hl3.sl.facts
  by_cases hae : a = []
  · subst hae
    have hg0 : getP [] = (pk0, 2) := rfl
    rw [hg0] at hzz
    simp (dsimp := false) [pk0] at hzz hf3
    refine Does_wp (n := 45) (rs := [.tmp 2]) Try.func9 (by kernel_rfl) rfl rfl rfl (by simp) fun σ hg => ?_
    simp (dsimp := false) [hg, hf, splice, hx, hfw]
    refine (W_anyF (F := [(2, 1)]) (by kernel_rfl)).2 ?_
    simp (dsimp := false) [splice, hP, hQ, ha, hzz, hf3]
  · rw [hbk hae] at hzz hlc3
    simp only at hlc3
    have hsm3 := (cutL_small hlc3).1
    have hSame := same07 (C := putC) (f := f) (t := t) (tag := tag) (f' := f) (t' := t) (tag' := tag) (CksIs.app (es' := es' ++ es3 ++ es5) hS (⟨[.int .i64 f, .int .i64 t, .int .u32 tag, w], 0, 0, false⟩ :: (m3 ++ (m5 ++ [⟨[.int .i64 f, .int .i64 t, .int .u32 tag, w3], 0, 0, false⟩])))) (by
      have := CksIs.app (es' := es' ++ es3 ++ es5) hl3 [⟨[.int .i64 f, .int .i64 t, .int .u32 tag, w3], 0, 0, false⟩]
      simpa using this) hsm hsm3 (by omega)
    rw [hL, hlc3] at hSame
    have hz' := (hz hae).symm
    simp at hzz hf3 hSame
    refine Does_wp (n := 45) (rs := [.tmp 2]) Try.func9 (by kernel_rfl) rfl rfl rfl (by simp) fun σ hg => ?_
    simp (dsimp := false) [hg, hf, splice, hx, hfw]
    refine (W_anyF (F := [(2, 1)]) (by kernel_rfl)).2 ?_
    simp (dsimp := false) [splice, hP, hQ, ha, hzz, hf3, hae, hSame, hZ, hz']
end Go.Proofs.Ytbncfiijlnakkaa
end
section
/-! Plain law: what was read was put down so. -/
namespace Go.Hl
theorem b8_back (x : UInt8) (k : Int) : b8 ((x.toNat : Int) + 256 * k) = x := by
  apply UInt8.toNat_inj.1
  rw [b8_nat]
  have := x.toNat_lt
  omega
theorem be2_back (a b : UInt8) : be2 ((numB [a, b] : Nat) : Int) = [a, b] := by
  have ha := a.toNat_lt
  have hb := b.toNat_lt
  have e : ((numB [a, b] : Nat) : Int) = (b.toNat : Int) + 256 * (a.toNat : Int) := by
    simp only [numB, List.foldl_cons, List.foldl_nil]
    omega
  unfold be2
  rw [e, b8_back, show ((b.toNat : Int) + 256 * (a.toNat : Int)) / 256 = (a.toNat : Int) + 256 * 0 by omega, b8_back]
/-- What was taken lay ahead. -/
theorem tk_split {r : RS} {n : Int} (he : (r.tk n).e = 0) : r.e = 0 ∧ 0 ≤ n ∧ (r.got n).length = n.toNat ∧ r.s = r.got n ++ (r.tk n).s := by
  have h0 : r.e = 0 := Classical.byContradiction fun h => by
    rw [tk_bad h] at he
    exact h he
  unfold RS.tk tkE at he
  simp only [h0, failE, if_true] at he
  have hb : noTake n r.s 0 = false := by
    cases hb : noTake n r.s 0 with
    | false => rfl
    | true =>
      rw [hb] at he
      cases he
  have hb' := hb
  unfold noTake at hb
  simp at hb
  obtain ⟨h1, h2⟩ := tk_all h0 hb.1 hb.2
  refine ⟨h0, hb.1, ?_, ?_⟩
  · rw [h2]
    simp
    omega
  · rw [h1, h2]
    simp
theorem fill_split {r : RS} {n : Int} (hl : ¬ r.left < (-n) % 4) (he : (r.fill n).e = 0) : r.e = 0 ∧ ∃ k : Nat, (k : Int) = (-n) % 4 ∧ r.s = noughts k ++ (r.fill n).s := by
  have h0 : r.e = 0 := Classical.byContradiction fun h => by
    have e2 : tkS (flN n r.s r.e) r.s r.e = [] := by simp [tkS, noTake, h]
    simp [RS.fill, flE, e2, noughts, tkE, noTake, h, failE] at he
  have hN : flN n r.s r.e = (-n) % 4 := by
    unfold flN
    unfold RS.left at hl
    rw [if_neg hl]
  obtain ⟨k, hk⟩ : ∃ k : Nat, (k : Int) = (-n) % 4 := ⟨((-n) % 4).toNat, by omega⟩
  refine ⟨h0, k, hk, ?_⟩
  have hle : (k : Int) ≤ r.s.length := by
    unfold RS.left leftN at hl
    rw [if_pos h0] at hl
    omega
  obtain ⟨h1, h2⟩ := tk_all (n := (k : Int)) h0 (by omega) hle
  have e1 : tkS (k : Int) r.s r.e = r.s.take k := h2
  have e2 : tkR (k : Int) r.s r.e = r.s.drop k := congrArg RS.s h1
  have e3 : tkE (k : Int) r.s r.e = 0 := congrArg RS.e h1
  unfold RS.fill flE flR at he ⊢
  simp only [hN, ← hk, e1, e2, e3] at he ⊢
  split at he
  · rename_i hz
    have hlen : (r.s.take k).length = k := by
      simp
      omega
    rw [hlen] at hz
    rw [← hz, List.take_append_drop]
  · simp [failE] at he
theorem num2_split {r : RS} (he : (r.tk 2).e = 0) : r.e = 0 ∧ r.s = be2 ((r.num 2 : Nat) : Int) ++ (r.tk 2).s ∧ r.num 2 < 65536 := by
  obtain ⟨h0, -, hl, hs⟩ := tk_split he
  unfold RS.num
  generalize r.got 2 = g at *
  match g, hl with
  | [a, b], _ =>
    refine ⟨h0, ?_, ?_⟩
    · rw [be2_back]
      exact hs
    · exact Nat.lt_of_lt_of_le (numB_lt [a, b]) (show 256 ^ 2 ≤ 65536 by decide)
theorem fill_bad {r : RS} {n : Int} (h : r.e ≠ 0) : (r.fill n).e = r.e := by
  have e2 : tkS (flN n r.s r.e) r.s r.e = [] := by simp [tkS, noTake, h]
  simp [RS.fill, flE, e2, noughts, tkE, noTake, h, failE]
theorem param_split {r : RS} (he : (tkParam r).2.e = 0) : (tkParam r).1.may = true ∧ r.e = 0 ∧ r.s = (tkParam r).1.put ++ (tkParam r).2.s := by
  have hT : tkParam r = tkParam r := rfl
  conv at hT => rhs; unfold tkParam
  simp only at hT
  generalize hr2 : (r.tk 2).tk 2 = r2 at *
  generalize hn : (((r.tk 2).num 2 : Nat) : Int) - 4 = n at *
  by_cases c1 : r2.e = 0 ∧ (n < 0 ∨ 1000 < n)
  · have e3 : (r2.fail 3).e ≠ 0 := by simp [RS.fail, failE, c1.1]
    rw [if_pos c1, tk_bad e3, if_pos e3] at hT
    rw [hT] at he
    exact absurd he e3
  rw [if_neg c1] at hT
  by_cases c4 : (r2.tk n).e = 0
  · rw [if_neg (fun x => x c4)] at hT
    by_cases c5 : (r2.tk n).left < (-n) % 4
    · have e5 : ((r2.tk n).fail 2).e ≠ 0 := by simp [RS.fail, failE, c4]
      have e6 : (((r2.tk n).fail 2).fill n).e ≠ 0 := by
        rw [fill_bad e5]
        exact e5
      rw [if_pos c5, if_pos e6] at hT
      rw [hT] at he
      exact absurd he e6
    · rw [if_neg c5] at hT
      by_cases c6 : ((r2.tk n).fill n).e = 0
      · rw [if_neg (fun x => x c6)] at hT
        obtain ⟨s0, s1, s2, s3⟩ := tk_split c4
        rw [← hr2] at s0
        obtain ⟨u0, u1, u2⟩ := num2_split s0
        obtain ⟨v0, v1, v2⟩ := num2_split u0
        obtain ⟨-, k, hk, w⟩ := fill_split c5 c6
        have hn1 : n ≤ 1000 := by
          refine Classical.byContradiction fun h => c1 ⟨by rw [← hr2]; exact s0, .inr (by omega)⟩
        have hlen : ((r2.got n).length : Int) = n := by omega
        have hmay : Pm.may ⟨(r.num 2 : Nat), r2.got n⟩ = true := by
          unfold Pm.may
          simp only [Bool.and_eq_true, decide_eq_true_eq]
          omega
        rw [hT]
        refine ⟨hmay, v0, ?_⟩
        simp only
        unfold Pm.put filled
        rw [if_pos hmay]
        have h4 : ((r2.got n).length : Int) + 4 = (((r.tk 2).num 2 : Nat) : Int) := by omega
        have hl2 : (be2 ((r.num 2 : Nat) : Int) ++ be2 (((r.tk 2).num 2 : Nat) : Int) ++ r2.got n).length = 4 + (r2.got n).length := by
          simp [be2_len]
          omega
        have hpad : padN (4 + (r2.got n).length) = k := by
          unfold padN
          omega
        simp only
        rw [h4, hl2, hpad, v1, u1, hr2, s3, w]
        simp
      · rw [if_pos c6] at hT
        rw [hT] at he
        exact absurd he c6
  · rw [if_pos c4] at hT
    rw [hT] at he
    exact absurd he c4
theorem all_split : ∀ (k : Nat) (r : RS) (out : List Pm), out.length ≤ 16 → 17 ≤ out.length + k → (allLoop k r out).1.e = 0 → ∃ l, (allLoop k r out).2 = out ++ l ∧ l.all Pm.may = true ∧ r.e = 0 ∧ r.s = putAll l ∧ out.length + l.length ≤ 16
  | 0, r, out, h1, h2, _ => by omega
  | k + 1, r, out, h1, h2, he => by
    unfold allLoop at he ⊢
    by_cases c : 0 < r.left
    · rw [if_pos c] at he ⊢
      by_cases c2 : out.length = 16
      · rw [if_pos c2] at he
        have h0 : r.e = 0 := Classical.byContradiction fun h => by
          simp [RS.left, leftN, h] at c
        simp [RS.fail, failE, h0] at he
      · rw [if_neg c2] at he ⊢
        obtain ⟨l, e1, e2, e3, e4, e5⟩ := all_split k _ _ (by simp; omega) (by simp; omega) he
        obtain ⟨p1, p2, p3⟩ := param_split e3
        refine ⟨(tkParam r).1 :: l, by rw [e1]; simp, by simp [p1, e2], p2, ?_, by simp at e5 ⊢; omega⟩
        rw [p3, e4]
        simp [putAll]
    · rw [if_neg c] at he ⊢
      have h0 : r.e = 0 := he
      have hs : r.s = [] := by
        simp [RS.left, leftN, h0] at c
        exact c
      exact ⟨[], by simp, rfl, h0, by simp [putAll, hs], by simpa using h1⟩
theorem allP_split {s : Bs} (h : (allP s).2 = 0) : s = putAll (allP s).1 ∧ (allP s).1.all Pm.may = true ∧ (allP s).1.length ≤ 16 := by
  unfold allP at h ⊢
  simp only at h ⊢
  by_cases c : (allLoop 17 ⟨s, 0⟩ []).1.e = 0
  · obtain ⟨l, e1, e2, -, e4, e5⟩ := all_split 17 ⟨s, 0⟩ [] (by simp) (by simp) c
    rw [if_neg (fun x => x c)]
    simp only
    rw [e1]
    simp only [List.nil_append]
    exact ⟨e4, e2, by simpa using e5⟩
  · rw [if_pos c] at h
    exact absurd h c
theorem be4_back (a b c d : UInt8) : be4 ((numB [a, b, c, d] : Nat) : Int) = [a, b, c, d] := by
  have ha := a.toNat_lt
  have hb := b.toNat_lt
  have hc := c.toNat_lt
  have hd := d.toNat_lt
  have e : ((numB [a, b, c, d] : Nat) : Int) = (d.toNat : Int) + 256 * ((c.toNat : Int) + 256 * ((b.toNat : Int) + 256 * (a.toNat : Int))) := by
    simp only [numB, List.foldl_cons, List.foldl_nil]
    omega
  unfold be4
  rw [e, b8_back]
  rw [show ((d.toNat : Int) + 256 * ((c.toNat : Int) + 256 * ((b.toNat : Int) + 256 * (a.toNat : Int)))) / 256 = (c.toNat : Int) + 256 * ((b.toNat : Int) + 256 * (a.toNat : Int)) by omega, b8_back]
  rw [show ((d.toNat : Int) + 256 * ((c.toNat : Int) + 256 * ((b.toNat : Int) + 256 * (a.toNat : Int)))) / 65536 = (b.toNat : Int) + 256 * (a.toNat : Int) by omega, b8_back]
  rw [show ((d.toNat : Int) + 256 * ((c.toNat : Int) + 256 * ((b.toNat : Int) + 256 * (a.toNat : Int)))) / 16777216 = (a.toNat : Int) + 256 * 0 by omega, b8_back]
theorem num4_split {r : RS} (he : (r.tk 4).e = 0) : r.e = 0 ∧ r.s = be4 ((r.num 4 : Nat) : Int) ++ (r.tk 4).s ∧ r.num 4 < 4294967296 := by
  obtain ⟨h0, -, hl, hs⟩ := tk_split he
  unfold RS.num
  generalize r.got 4 = g at *
  match g, hl with
  | [a, b, c, d], _ =>
    refine ⟨h0, ?_, ?_⟩
    · rw [be4_back]
      exact hs
    · exact Nat.lt_of_lt_of_le (numB_lt [a, b, c, d]) (show 256 ^ 4 ≤ 4294967296 by decide)
theorem num1_split {r : RS} (he : (r.tk 1).e = 0) : r.e = 0 ∧ r.s = b8 ((r.num 1 : Nat) : Int) :: (r.tk 1).s ∧ r.num 1 < 256 := by
  obtain ⟨h0, -, hl, hs⟩ := tk_split he
  unfold RS.num
  generalize r.got 1 = g at *
  match g, hl with
  | [a], _ =>
    have e : ((numB [a] : Nat) : Int) = (a.toNat : Int) + 256 * 0 := by simp [numB]
    refine ⟨h0, ?_, ?_⟩
    · rw [e, b8_back]
      exact hs
    · exact Nat.lt_of_lt_of_le (numB_lt [a]) (show 256 ^ 1 ≤ 256 by decide)
end Go.Hl
end
section
/-! Plain law: what was read was put down so. -/
namespace Go.Proofs.Ytbncfiijlnakkaa
open Go.Hl
set_option maxHeartbeats 1000000
theorem gaps_split : ∀ (k : Nat) (r : RS), (gapsN k r).2.e = 0 → r.e = 0 ∧ r.s = gapsF (gapsN k r).1 ++ (gapsN k r).2.s
  | 0, r, h => ⟨h, by simp (dsimp := false) [gapsN, gapsF]⟩
  | k + 1, r, h => by
    unfold gapsN at h ⊢
    simp only at h ⊢
    obtain ⟨u0, u1, -⟩ := num2_split h
    obtain ⟨v0, v1, -⟩ := num2_split u0
    obtain ⟨w0, w1⟩ := gaps_split k r v0
    refine ⟨w0, ?_⟩
    rw [w1]
    conv => lhs; rw [v1, u1]
    simp (dsimp := false) [gapsF]
theorem dups_split : ∀ (k : Nat) (r : RS), (dupsN k r).2.e = 0 → r.e = 0 ∧ r.s = dupsF (dupsN k r).1 ++ (dupsN k r).2.s
  | 0, r, h => ⟨h, by simp (dsimp := false) [dupsN, dupsF]⟩
  | k + 1, r, h => by
    unfold dupsN at h ⊢
    simp only at h ⊢
    obtain ⟨v0, v1, -⟩ := num4_split h
    obtain ⟨w0, w1⟩ := dups_split k r v0
    refine ⟨w0, ?_⟩
    rw [w1]
    conv => lhs; rw [v1]
    simp (dsimp := false) [dupsF]
theorem end_split {r : RS} (h : r.end.e = 0) : r.e = 0 ∧ r.s = [] := by
  unfold RS.end endE at h
  simp only at h
  split at h
  · exact absurd h (by decide)
  · rename_i hc
    refine ⟨h, Classical.byContradiction fun hn => hc ⟨h, hn⟩⟩
theorem fail_ne {r : RS} {x : Int} (hx : x ≠ 0) : (r.fail x).e ≠ 0 := by
  unfold RS.fail failE
  simp only
  split
  · exact hx
  · assumption
theorem rest_ok {r : RS} (h : r.e = 0) : r.rest = r.s := by simp (dsimp := false) [RS.rest, h]
theorem pars_split {r : RS} (h : (parR r).e = 0) : r.e = 0 ∧ r.s = putAll (allP r.rest).1 := by
  unfold parR at h
  by_cases c : (allP r.rest).2 = 0
  · rw [if_neg (fun x => x c)] at h
    have h0 : r.e = 0 := h
    refine ⟨h0, ?_⟩
    have := (allP_split c).1
    rw [← this, rest_ok h0]
  · rw [if_pos c] at h
    exact absurd h (fail_ne c)
/-- What a body says was put down so. -/
theorem says_split {r : RS} {c : Ck} (h : (saysR r c).1.end.e = 0) : r.e = 0 ∧ r.s = (saysR r c).2.body ∧ (saysR r c).2.typ = c.typ ∧ (saysR r c).2.flags = c.flags := by
  obtain ⟨h0, hs⟩ := end_split h
  clear h
  unfold saysR at h0 hs ⊢
  simp only at h0 hs ⊢
  by_cases t0 : c.typ = 0
  · rw [if_pos t0] at h0 hs ⊢
    have h1 : ((((r.tk 4).tk 2).tk 2).tk 4).e = 0 := h0
    obtain ⟨a0, a1, -⟩ := num4_split h1
    obtain ⟨b0, b1, -⟩ := num2_split a0
    obtain ⟨c0, c1, -⟩ := num2_split b0
    obtain ⟨d0, d1, -⟩ := num4_split c0
    refine ⟨d0, ?_, rfl, rfl⟩
    unfold Ck.body
    simp only
    rw [if_pos t0, rest_ok h1, d1, c1, b1, a1]
    simp
  rw [if_neg t0] at h0 hs ⊢
  by_cases t1 : isInit c.typ = true
  · rw [if_pos t1] at h0 hs ⊢
    obtain ⟨h1, h2⟩ := pars_split h0
    obtain ⟨a0, a1, -⟩ := num4_split h1
    obtain ⟨b0, b1, -⟩ := num2_split a0
    obtain ⟨c0, c1, -⟩ := num2_split b0
    obtain ⟨d0, d1, -⟩ := num4_split c0
    obtain ⟨e0, e1, -⟩ := num4_split d0
    refine ⟨e0, ?_, rfl, rfl⟩
    unfold Ck.body
    simp only
    rw [if_neg t0, if_pos t1, e1, d1, c1, b1, a1, h2]
    simp
  rw [if_neg t1] at h0 hs ⊢
  by_cases t3 : c.typ = 3
  · rw [if_pos t3] at h0 hs ⊢
    unfold sackR at h0 hs ⊢
    simp only at h0 hs ⊢
    by_cases g1 : 16 < ((r.tk 4).tk 4).num 2 ∨ 16 < (((r.tk 4).tk 4).tk 2).num 2
    · rw [if_pos g1] at h0
      exact absurd h0 (fail_ne (by decide))
    rw [if_neg g1] at h0 hs ⊢
    simp only at h0 hs ⊢
    generalize hg : gapsN (((r.tk 4).tk 4).num 2) ((((r.tk 4).tk 4).tk 2).tk 2) = G at *
    generalize hd : dupsN ((((r.tk 4).tk 4).tk 2).num 2) G.2 = D at *
    by_cases g2 : D.2.e = 0 ∧ rising G.1 = false
    · rw [if_pos g2] at h0
      exact absurd h0 (fail_ne (by decide))
    rw [if_neg g2] at h0 hs
    have hd0 : (dupsN ((((r.tk 4).tk 4).tk 2).num 2) G.2).2.e = 0 := by
      rw [hd]
      exact h0
    obtain ⟨a0, a1⟩ := dups_split _ _ hd0
    have hg0 : (gapsN (((r.tk 4).tk 4).num 2) ((((r.tk 4).tk 4).tk 2).tk 2)).2.e = 0 := by
      rw [hg]
      exact a0
    obtain ⟨b0, b1⟩ := gaps_split _ _ hg0
    obtain ⟨c0, c1, -⟩ := num2_split b0
    obtain ⟨d0, d1, -⟩ := num2_split c0
    obtain ⟨e0, e1, -⟩ := num4_split d0
    obtain ⟨f0, f1, -⟩ := num4_split e0
    have l1 := gapsN_len (((r.tk 4).tk 4).num 2) ((((r.tk 4).tk 4).tk 2).tk 2)
    have l2 := dupsN_len ((((r.tk 4).tk 4).tk 2).num 2) G.2
    rw [hg] at b1 l1
    rw [hd] at a1 l2
    refine ⟨f0, ?_, trivial, trivial⟩
    unfold Ck.body gapsB
    simp only
    rw [if_neg t0, if_neg t1, if_pos t3, f1, e1, d1, c1, b1, a1, hs, l1, l2]
    simp
  rw [if_neg t3] at h0 hs ⊢
  by_cases tb : isBeat c.typ = true
  · rw [if_pos tb] at h0 hs ⊢
    simp only at h0 hs ⊢
    by_cases g1 : (tkParam r).2.e = 0 ∧ (tkParam r).1.typ ≠ 1
    · rw [if_pos g1] at h0
      exact absurd h0 (fail_ne (by decide))
    rw [if_neg g1] at h0 hs
    obtain ⟨-, p1, p2⟩ := param_split h0
    have hty : (tkParam r).1.typ = 1 := Classical.byContradiction fun x => g1 ⟨h0, x⟩
    refine ⟨p1, ?_, trivial, trivial⟩
    unfold Ck.body
    simp only
    rw [if_neg t0, if_neg t1, if_neg t3, if_pos tb, p2, hs, List.append_nil, ← hty]
  rw [if_neg tb] at h0 hs ⊢
  by_cases te : isErr c.typ = true
  · rw [if_pos te] at h0 hs ⊢
    obtain ⟨h1, h2⟩ := pars_split h0
    refine ⟨h1, ?_, rfl, rfl⟩
    unfold Ck.body
    simp only
    rw [if_neg t0, if_neg t1, if_neg t3, if_neg tb, if_pos te]
    exact h2
  rw [if_neg te] at h0 hs ⊢
  by_cases t7 : c.typ = 7
  · rw [if_pos t7] at h0 hs ⊢
    obtain ⟨a0, a1, -⟩ := num4_split h0
    refine ⟨a0, ?_, rfl, rfl⟩
    unfold Ck.body
    simp only
    rw [if_neg t0, if_neg t1, if_neg t3, if_neg tb, if_neg te, if_pos t7, a1]
    simp only at hs
    rw [hs, List.append_nil]
  rw [if_neg t7] at h0 hs ⊢
  by_cases tc : isConf c.typ = true
  · rw [if_pos tc] at h0 hs ⊢
    obtain ⟨h1, h2⟩ := pars_split h0
    obtain ⟨a0, a1, -⟩ := num4_split h1
    refine ⟨a0, ?_, rfl, rfl⟩
    unfold Ck.body
    simp only
    rw [if_neg t0, if_neg t1, if_neg t3, if_neg tb, if_neg te, if_neg t7, if_pos tc, a1, h2]
  rw [if_neg tc] at h0 hs ⊢
  by_cases tr : isBare c.typ = true
  · rw [if_pos tr] at h0 hs ⊢
    refine ⟨h0, ?_, rfl, rfl⟩
    unfold Ck.body
    simp only
    rw [if_neg t0, if_neg t1, if_neg t3, if_neg tb, if_neg te, if_neg t7, if_neg tc, if_pos tr]
    exact hs
  rw [if_neg tr] at h0 hs ⊢
  by_cases t15 : c.typ = 15
  · rw [if_pos t15] at h0 hs ⊢
    have h1 : ((r.tk 2).tk 2).e = 0 := h0
    obtain ⟨a0, a1, -⟩ := num2_split h1
    obtain ⟨b0, b1, -⟩ := num2_split a0
    refine ⟨b0, ?_, rfl, rfl⟩
    unfold Ck.body
    simp only
    rw [if_neg t0, if_neg t1, if_neg t3, if_neg tb, if_neg te, if_neg t7, if_neg tc, if_neg tr, if_pos t15, rest_ok h1, b1, a1]
    simp
  · rw [if_neg t15] at h0 hs ⊢
    have h1 : r.e = 0 := h0
    refine ⟨h1, ?_, rfl, rfl⟩
    unfold Ck.body
    simp only
    rw [if_neg t0, if_neg t1, if_neg t3, if_neg tb, if_neg te, if_neg t7, if_neg tc, if_neg tr, if_neg t15, rest_ok h1]
theorem chunk_split {r : RS} (he : (tkChunk r).1.e = 0) : (tkChunk r).2.may = true ∧ r.e = 0 ∧ r.s = (tkChunk r).2.put ++ (tkChunk r).1.s := by
  have hT : tkChunk r = tkChunk r := rfl
  conv at hT => rhs; unfold tkChunk
  simp only at hT
  generalize hr3 : ((r.tk 1).tk 1).tk 2 = r3 at *
  generalize hn : ((((r.tk 1).tk 1).num 2 : Nat) : Int) - 4 = n at *
  by_cases c1 : r3.e = 0 ∧ n < 0
  · have e3 : (r3.fail 3).e ≠ 0 := fail_ne (by decide)
    rw [if_pos c1, tk_bad e3, if_pos e3] at hT
    rw [hT] at he
    exact absurd he e3
  rw [if_neg c1] at hT
  by_cases c4 : (r3.tk n).e = 0
  · rw [if_neg (fun x => x c4)] at hT
    by_cases c5 : (r3.tk n).left < (-n) % 4
    · have e5 : ((r3.tk n).fail 2).e ≠ 0 := fail_ne (by decide)
      have e6 : (((r3.tk n).fail 2).fill n).e ≠ 0 := by
        rw [fill_bad e5]
        exact e5
      rw [if_pos c5, if_pos e6] at hT
      rw [hT] at he
      exact absurd he e6
    · rw [if_neg c5] at hT
      by_cases c6 : ((r3.tk n).fill n).e = 0
      · rw [if_neg (fun x => x c6)] at hT
        by_cases c7 : (saysR ⟨r3.got n, 0⟩ { ck0 with typ := (r.num 1 : Nat), flags := ((r.tk 1).num 1 : Nat) }).1.end.e = 0
        · rw [if_neg (fun x => x c7)] at hT
          obtain ⟨-, y1, y2, y3⟩ := says_split c7
          generalize (saysR ⟨r3.got n, 0⟩ { ck0 with typ := (r.num 1 : Nat), flags := ((r.tk 1).num 1 : Nat) }).2 = c at *
          by_cases c8 : c.may = false
          · rw [if_pos c8] at hT
            rw [hT] at he
            exact absurd he (fail_ne (by decide))
          · rw [if_neg c8] at hT
            rw [Bool.not_eq_false] at c8
            obtain ⟨s0, s1, s2, s3⟩ := tk_split c4
            rw [← hr3] at s0
            obtain ⟨t0, t1, -⟩ := num2_split s0
            obtain ⟨u0, u1, u2⟩ := num1_split t0
            obtain ⟨v0, v1, v2⟩ := num1_split u0
            obtain ⟨-, k, hk, w⟩ := fill_split c5 c6
            have hlen : ((r3.got n).length : Int) = n := by omega
            rw [hT]
            refine ⟨c8, v0, ?_⟩
            simp only at y1 y2 y3 ⊢
            unfold Ck.put filled
            rw [if_pos c8, ← y1, y2, y3]
            have h4 : ((r3.got n).length : Int) + 4 = ((((r.tk 1).tk 1).num 2 : Nat) : Int) := by omega
            have hl2 : ([b8 ((r.num 1 : Nat) : Int), b8 (((r.tk 1).num 1 : Nat) : Int)] ++ be2 ((((r.tk 1).tk 1).num 2 : Nat) : Int) ++ r3.got n).length = 4 + (r3.got n).length := by
              simp (dsimp := false) [be2_len]
              omega
            have hpad : padN (4 + (r3.got n).length) = k := by
              unfold padN
              omega
            rw [h4, hl2, hpad, v1, u1, t1, hr3, s3, w]
            simp
        · rw [if_pos c7] at hT
          rw [hT] at he
          exact absurd he (fail_ne c7)
      · rw [if_pos c6] at hT
        rw [hT] at he
        exact absurd he c6
  · rw [if_pos c4] at hT
    rw [hT] at he
    exact absurd he c4
theorem getGo_split : ∀ (k : Nat) (r : RS) (out : List Ck), out.length ≤ 20 → 21 ≤ out.length + k → (getGo k r out).1.e = 0 → ∃ l, (getGo k r out).2 = out ++ l ∧ (∀ c ∈ l, c.may = true) ∧ r.e = 0 ∧ r.s = l.flatMap Ck.put ∧ out.length + l.length ≤ 20
  | 0, r, out, h1, h2, _ => by omega
  | k + 1, r, out, h1, h2, he => by
    unfold getGo at he ⊢
    by_cases c : 0 < r.left
    · rw [if_pos c] at he ⊢
      by_cases c2 : out.length = 20
      · rw [if_pos c2] at he
        exact absurd he (fail_ne (by decide))
      · rw [if_neg c2] at he ⊢
        obtain ⟨l, e1, e2, e3, e4, e5⟩ := getGo_split k _ _ (by simp; omega) (by simp; omega) he
        obtain ⟨p1, p2, p3⟩ := chunk_split e3
        refine ⟨(tkChunk r).2 :: l, by rw [e1]; simp, fun x hx => ?_, p2, ?_, by simp at e5 ⊢; omega⟩
        · rcases List.mem_cons.1 hx with rfl | hx
          · exact p1
          · exact e2 x hx
        · rw [p3, e4]
          simp
    · rw [if_neg c] at he ⊢
      have h0 : r.e = 0 := he
      have hs : r.s = [] := by
        simp (dsimp := false) [RS.left, leftN, h0] at c
        exact c
      exact ⟨[], by simp, by simp, h0, by simp (dsimp := false) [hs], by simpa using h1⟩
theorem put_some {c : Ck} (h : c.may = true) : c.put ≠ [] := by
  intro hc
  have := congrArg List.length hc
  unfold Ck.put at this
  rw [if_pos h, filled_len] at this
  simp (dsimp := false) [be2_len] at this
theorem putGo_some : ∀ (l : List Ck) (s : Bs), (∀ c ∈ l, c.may = true) → s.length + (l.flatMap Ck.put).length ≤ 1400 → putGo s l = some (s ++ l.flatMap Ck.put)
  | [], s, _, _ => by simp (dsimp := false) [putGo]
  | c :: l, s, h, hl => by
    rw [List.flatMap_cons, List.length_append] at hl
    unfold putGo
    rw [if_neg (not_or.2 ⟨put_some (h c (List.mem_cons_self ..)), by omega⟩), putGo_some l _ (fun x hx => h x (List.mem_cons_of_mem _ hx)) (by rw [List.length_append]; omega)]
    simp
theorem seal_like {a b : Bs} (h1 : a.take 8 = b.take 8) (h2 : a.drop 12 = b.drop 12) : sealL a 8 = sealL b 8 := by
  unfold sealL zed
  rw [h1, h2]
/-- What was read was put down so. -/
theorem getP_split {s : Bs} {p : Pk} (h : getP s = (p, 0)) : putP p.f p.t p.tag p.l = s ∧ (∀ c ∈ p.l, c.may = true) ∧ p.l.length ≤ 20 := by
  unfold getP at h
  split at h
  · cases h
  rename_i g1
  split at h
  · cases h
  rename_i g2
  split at h
  · cases h
  rename_i g3
  simp only at h
  split at h
  · rename_i g4
    injection h with _ h
    exact absurd h g4
  rename_i g4
  split at h
  · cases h
  rename_i g5
  injection h with h _
  rw [Decidable.not_not] at g3 g4
  rw [Bool.not_eq_false] at g5
  obtain ⟨l, e1, e2, e3, e4, e5⟩ := getGo_split 21 _ [] (by simp) (by simp) g4
  obtain ⟨a0, -, a1, a2⟩ := tk_split e3
  obtain ⟨b0, b1, -⟩ := num4_split a0
  obtain ⟨c0, c1, -⟩ := num2_split b0
  obtain ⟨-, d1, -⟩ := num2_split c0
  rw [h] at g5
  have ht : togetherP p.f p.t p.tag p.l = true := g5
  rw [e1, List.nil_append] at h
  rw [← h] at ht ⊢
  simp only at ht ⊢
  refine ⟨?_, e2, by simpa using e5⟩
  simp only at d1
  rw [c1, b1, a2, e4] at d1
  unfold putP
  rw [ht, if_neg (by simp)]
  generalize ((((⟨s, 0⟩ : RS).tk 2).tk 2).tk 4).got 4 = y at *
  generalize (⟨s, 0⟩ : RS).num 2 = F at *
  generalize ((⟨s, 0⟩ : RS).tk 2).num 2 = T at *
  generalize (((⟨s, 0⟩ : RS).tk 2).tk 2).num 4 = G at *
  have hy : y.length = 4 := a1
  have hsl : s.length = 12 + (l.flatMap Ck.put).length := by
    rw [d1]
    simp (dsimp := false) [be2_len, be4_len, hy]
    omega
  have hh : (headB (F : Int) (T : Int) (G : Int)).length = 12 := rfl
  rw [putGo_some l _ e2 (by omega)]
  simp only
  have hl : sealL (headB (F : Int) (T : Int) (G : Int) ++ l.flatMap Ck.put) 8 = sealL s 8 := by
    apply seal_like
    · rw [d1]
      rfl
    · rw [List.drop_left' hh, d1]
      match y, hy with
      | [y1, y2, y3, y4], _ => rfl
  rw [hl, g3]
theorem getP_bad {s : Bs} {p : Pk} {e : Int} (h : getP s = (p, e)) (he : e ≠ 0) : p = pk0 := by
  unfold getP at h
  simp only at h
  repeat' split at h
  all_goals
    injection h with h1 h2
    first
      | exact h1.symm
      | exact absurd h2.symm he
theorem may_small {c : Ck} (h : c.may = true) : CkSmall c := by
  unfold Ck.may Ck.lists rising at h
  simp only [Bool.and_eq_true, decide_eq_true_eq] at h
  obtain ⟨⟨⟨⟨⟨-, ⟨⟨-, p3⟩, p4⟩⟩, ⟨⟨⟨-, w5⟩, w6⟩, w7⟩⟩, -⟩, -⟩, -⟩ := h
  exact ⟨by omega, by omega, by omega, by omega, by omega⟩
/-- What a reading hands back is small. -/
theorem getP_small (s : Bs) : ∀ c ∈ (getP s).1.l, CkSmall c := by
  intro c hc
  by_cases he : (getP s).2 = 0
  · exact may_small ((getP_split (s := s) (p := (getP s).1) (Prod.ext rfl he)).2.1 c hc)
  · rw [getP_bad (s := s) (p := (getP s).1) rfl he] at hc
    simp (dsimp := false) [pk0] at hc
theorem getP_few (s : Bs) : (getP s).1.l.length ≤ 20 := by
  by_cases he : (getP s).2 = 0
  · exact (getP_split (s := s) (p := (getP s).1) (Prod.ext rfl he)).2.2
  · rw [getP_bad (s := s) (p := (getP s).1) rfl he]
    simp (dsimp := false) [pk0]
end Go.Proofs.Ytbncfiijlnakkaa
end
section
namespace Go.Proofs.Ytbncfiijlnakkaa
open Go.Hl
set_option maxHeartbeats 4000000
variable {h : H}
def pkBlk (p : Pk) (w : V) : Blk := ⟨[.int .i64 p.f, .int .i64 p.t, .int .u32 p.tag, w], 0, 0, false⟩
/-- Bytes are read by both, and compared: what these calls do, one behind the other. -/
theorem gets_tail (B : List Blk) (es : List (Nat × Nat)) (s : Bs) (hs : s.length ≤ 2000) : ∃ w3 w4 m5 es5 m6 es6 m7 es7 l3 l4,
    Does Try.prog putC 21 [.str s] ⟨B, es⟩ = some (.tup [.agg [.int .i64 (getP s).1.f, .int .i64 (getP s).1.t, .int .u32 (getP s).1.tag, w3], .int .i64 (getP s).2], ⟨B ++ m5, es ++ es5⟩) ∧
    Does Try.prog putC 22 [.str s] ⟨B ++ (m5 ++ [pkBlk (getP s).1 w3]), es ++ es5⟩ = some (.tup [.agg [.int .i64 (getP s).1.f, .int .i64 (getP s).1.t, .int .u32 (getP s).1.tag, w4], .int .i64 (getP s).2], ⟨B ++ (m5 ++ (pkBlk (getP s).1 w3 :: m6)), es ++ (es5 ++ es6)⟩) ∧
    Does Try.prog putC 23 [] ⟨B ++ (m5 ++ (pkBlk (getP s).1 w3 :: (m6 ++ [pkBlk (getP s).1 w4]))), es ++ (es5 ++ es6)⟩ = some (.bool true, ⟨B ++ (m5 ++ (pkBlk (getP s).1 w3 :: (m6 ++ (pkBlk (getP s).1 w4 :: m7)))), es ++ (es5 ++ (es6 ++ es7))⟩) ∧
    Does Try.prog putC 24 [.agg [.int .i64 (getP s).1.f, .int .i64 (getP s).1.t, .int .u32 (getP s).1.tag, w3], .agg [.int .i64 (getP s).1.f, .int .i64 (getP s).1.t, .int .u32 (getP s).1.tag, w4]] ⟨B ++ (m5 ++ (pkBlk (getP s).1 w3 :: (m6 ++ (pkBlk (getP s).1 w4 :: m7)))), es ++ (es5 ++ (es6 ++ es7))⟩ = some (.bool true, ⟨B ++ (m5 ++ (pkBlk (getP s).1 w3 :: (m6 ++ (pkBlk (getP s).1 w4 :: m7)))), es ++ (es5 ++ (es6 ++ es7))⟩) ∧
    Does Try.prog putC 25 [.agg [.int .i64 (getP s).1.f, .int .i64 (getP s).1.t, .int .u32 (getP s).1.tag, w3]] ⟨B ++ (m5 ++ (pkBlk (getP s).1 w3 :: (m6 ++ (pkBlk (getP s).1 w4 :: m7)))), es ++ (es5 ++ (es6 ++ es7))⟩ = some (.str (putP (getP s).1.f (getP s).1.t (getP s).1.tag (getP s).1.l), ⟨B ++ (m5 ++ (pkBlk (getP s).1 w3 :: (m6 ++ (pkBlk (getP s).1 w4 :: m7)))), es ++ (es5 ++ (es6 ++ es7))⟩) ∧
    CksIs ⟨B ++ m5, es ++ es5⟩ l3 w3 ∧ CksIs ⟨B ++ (m5 ++ (pkBlk (getP s).1 w3 :: m6)), es ++ (es5 ++ es6)⟩ l4 w4 := by
  obtain ⟨⟨z1, z2⟩, hz, u, hu, ⟨m5, es5, he5, hes5⟩, w3, l3, hw3, hl3, hlc3⟩ := packet_Get (C := putC) (h := ⟨B, es⟩) s (by omega)
  simp only at hu he5 hl3
  subst hu he5 hw3
  obtain ⟨⟨y1, y2⟩, hy, u4, hu4, ⟨m6, es6, he6, hes6⟩, w4, l4, hw4, hl4, hlc4⟩ := rdoc7_Get (C := putC) (h := ⟨B ++ (m5 ++ [pkBlk (getP s).1 w3]), es ++ es5⟩) s (by omega)
  rw [getP_eq] at hu4 hw4 hlc4
  simp only at hu4 he6 hl4
  subst hu4 he6 hw4
  have e6 : (B ++ (m5 ++ [pkBlk (getP s).1 w3])) ++ m6 = B ++ (m5 ++ (pkBlk (getP s).1 w3 :: m6)) := by simp
  have e6' : (es ++ es5) ++ es6 = es ++ (es5 ++ es6) := by simp
  rw [e6, e6'] at hy hl4
  obtain ⟨⟨a1, a2⟩, ha, hb2, m7, es7, he7, hes7⟩ := awake07 (C := putC) (h := ⟨B ++ (m5 ++ (pkBlk (getP s).1 w3 :: (m6 ++ [pkBlk (getP s).1 w4]))), es ++ (es5 ++ es6)⟩)
  simp only at hb2 he7
  subst hb2 he7
  have e7 : (B ++ (m5 ++ (pkBlk (getP s).1 w3 :: (m6 ++ [pkBlk (getP s).1 w4])))) ++ m7 = B ++ (m5 ++ (pkBlk (getP s).1 w3 :: (m6 ++ (pkBlk (getP s).1 w4 :: m7)))) := by simp
  have e7' : (es ++ (es5 ++ es6)) ++ es7 = es ++ (es5 ++ (es6 ++ es7)) := by simp
  rw [e7, e7'] at ha
  have h3 := CksIs.app (es' := es ++ (es5 ++ (es6 ++ es7))) hl3 (pkBlk (getP s).1 w3 :: (m6 ++ (pkBlk (getP s).1 w4 :: m7)))
  have h4 := CksIs.app (es' := es ++ (es5 ++ (es6 ++ es7))) hl4 (pkBlk (getP s).1 w4 :: m7)
  have d3 : (B ++ m5) ++ (pkBlk (getP s).1 w3 :: (m6 ++ (pkBlk (getP s).1 w4 :: m7))) = B ++ (m5 ++ (pkBlk (getP s).1 w3 :: (m6 ++ (pkBlk (getP s).1 w4 :: m7)))) := by simp
  have d4 : (B ++ (m5 ++ (pkBlk (getP s).1 w3 :: m6))) ++ (pkBlk (getP s).1 w4 :: m7) = B ++ (m5 ++ (pkBlk (getP s).1 w3 :: (m6 ++ (pkBlk (getP s).1 w4 :: m7)))) := by simp
  rw [d3] at h3
  rw [d4] at h4
  have hfew := getP_few s
  have s3 : ∀ e ∈ l3, CkSmall e.c := fun e he => getP_small s _ (by rw [← hlc3]; exact List.mem_map_of_mem he)
  have s4 : ∀ e ∈ l4, CkSmall e.c := fun e he => getP_small s _ (by rw [← hlc4]; exact List.mem_map_of_mem he)
  have n3 : l3.length ≤ 20 := by
    rw [← hlc3] at hfew
    simpa using hfew
  have hSame := same07 (C := putC) (f := (getP s).1.f) (t := (getP s).1.t) (tag := (getP s).1.tag) (f' := (getP s).1.f) (t' := (getP s).1.t) (tag' := (getP s).1.tag) h3 h4 s3 s4 (by omega)
  rw [hlc3, hlc4] at hSame
  have hP := packet_Put (C := putC) (f := (getP s).1.f) (t := (getP s).1.t) (tag := (getP s).1.tag) h3 (by omega) s3
  rw [hlc3] at hP
  refine ⟨w3, w4, m5, es5, m6, es6, m7, es7, l3, l4, hz, hy, ha, ?_, hP, hl3, hl4⟩
  rw [hSame]
  simp
set_option maxRecDepth 100000 in
theorem packetGets_row {l : List El} {v : V} {f t tag n : Int} {by_ : Bs} (hs : CksIs h l v) (hw : ∀ e ∈ l, e.c.Wide ∧ FreeS e.vg ∧ FreeS e.vd) (_ : l.length ≤ maxLen) (_ : (Lit.int .i64 f).wf = true) (_ : (Lit.int .i64 t).wf = true) (_ : (Lit.int .u32 tag).wf = true) (_ : (Lit.int .i64 n).wf = true) (_ : by_.length ≤ 140737488351232) :
    Ok (Does Try.prog putC 6 [.agg [.int .i64 f, .int .i64 t, .int .u32 tag, v], .int .i64 n, .str by_] h) fun x => x.1 = .bool true := by
  have hf := hs.sl.facts
  have hs1 := hs.blks (h' := ⟨h.blks, []⟩) rfl
  have hwc : ∀ c ∈ l.map El.c, c.Wide := fun c hc => by
    obtain ⟨e, he, rfl⟩ := List.mem_map.1 hc
    exact (hw e he).1
  have hback := cutL_back hwc
  obtain ⟨⟨x1, x2⟩, hx, L, w, hv, ⟨m', es', he2, hes'⟩, hS, hL⟩ := cut07 (C := putC) (f := f) (t := t) (tag := tag) (h := ⟨h.blks ++ [⟨[.int .i64 f, .int .i64 t, .int .u32 tag, v], 0, 0, false⟩], []⟩) (CksIs.app hs1 _) hw
  obtain ⟨hsm, hll⟩ := cutL_small hL
  simp only at hv he2 hS
  subst hv he2
  simp at hx hS hes'
  have hQ := rdoc7_Put (f := f) (t := t) (tag := tag) hS (by omega) hsm (cutL_gaps hL hwc)
  rw [hL] at hQ
  have hq := putP_eq (f := f) (t := t) (tag := tag) (l := cutL (l.map El.c)) (fun c hc => (hback c hc).1)
  rw [hq] at hQ
  have hfw := hS.sl.facts
  simp at hfw
  have hlen : (putP f t tag (cutL (l.map El.c))).length ≤ 1400 := by
    rcases putP_cases f t tag (cutL (l.map El.c)) with hp | ⟨s, h12, h14, hp⟩
    · rw [hp]
      simp
    · rw [hp, sealL_len (by omega)]
      exact h14
  generalize hA : putP f t tag (cutL (l.map El.c)) = a at *
  have key : ∃ s : Bs, s.length ≤ 2000 ∧ ((a = [] ∧ s = []) ∨ (0 < a.length ∧ ∃ k m : Nat, k < a.length ∧ ((n.tmod a.length + a.length).tmod a.length = (k : Int)) ∧ (if (40 : Int) < (by_.length : Int) then 40 else (by_.length : Int)) = (m : Int) ∧ m ≤ by_.length ∧ m ≤ 40 ∧ a.take k ++ (by_.take m ++ a.drop k) = s)) := by
    by_cases ha : a = []
    · exact ⟨[], by simp, .inl ⟨ha, rfl⟩⟩
    · have hpos : 0 < a.length := List.length_pos_iff.2 ha
      obtain ⟨k, hk, hke⟩ := around n a.length hpos
      refine ⟨_, ?_, .inr ⟨hpos, k, min by_.length 40, hk, hke, ?_, Nat.min_le_left .., Nat.min_le_right .., rfl⟩⟩
      · simp
        omega
      · split <;> omega
  obtain ⟨s, hs2, hcase⟩ := key
  obtain ⟨w3, w4, m5, es5, m6, es6, m7, es7, l3, l4, hG, hR, ha, hSame, hP, hl3, hl4⟩ := gets_tail (h.blks ++ (⟨[.int .i64 f, .int .i64 t, .int .u32 tag, v], 0, 0, false⟩ :: m')) es' s hs2
  have hpe := fun he : (getP s).2 = 0 => (getP_split (s := s) (p := (getP s).1) (Prod.ext rfl he)).1
  have hf3 := hl3.sl.facts
  have hf4 := hl4.sl.facts
  generalize (getP s).1 = p at *
  generalize (getP s).2 = e at *
  simp (dsimp := false) [pkBlk] at hG hR ha hSame hP hf3 hf4
  rcases hcase with ⟨rfl, rfl⟩ | ⟨ha0, k, m, hk, hke, hm, hm1, hm2, hcat⟩
  · by_cases he : e = 0
    · have hp := hpe he
      subst he
      rw [hp] at hP
      refine Does_wp (n := 73) (rs := [.tmp 6]) Try.func6 (by kernel_rfl) rfl rfl rfl (by simp) fun σ hg => ?_
      simp (dsimp := false) [hg, hf, splice, hx, hQ, hG, hR, ha, hSame, hP, hf3, hf4]
    · refine Does_wp (n := 73) (rs := [.tmp 6]) Try.func6 (by kernel_rfl) rfl rfl rfl (by simp) fun σ hg => ?_
      simp (dsimp := false) [hg, hf, splice, hx, hQ, hG, hR, ha, hSame, hf3, hf4, he]
  · have hne : ¬ (a.length = 0) := by omega
    have c1 := Int.lt_tmod_of_pos n (show (0 : Int) < (a.length : Int) by omega)
    have c2 := Int.tmod_lt_of_pos n (show (0 : Int) < (a.length : Int) by omega)
    have hwc : IntKind.i64.wrap (n.tmod (a.length : Int) + (a.length : Int)) = n.tmod (a.length : Int) + (a.length : Int) := wrap_i64 (by omega) (by omega)
    have hk' : k ≤ a.length := by omega
    have b1 := Nat.min_eq_left hk'
    have b2 := Nat.min_eq_left hm1
    have b3 : k + m ≤ 9223372036854775807 := by omega
    have b4 : k + m + (a.length - k) ≤ 9223372036854775807 := by omega
    by_cases he : e = 0
    · have hp := hpe he
      subst he
      rw [hp] at hP
      refine Does_wp (n := 73) (rs := [.tmp 6]) Try.func6 (by kernel_rfl) rfl rfl rfl (by simp) fun σ hg => ?_
      simp (dsimp := false) [hg, hf, hx, hQ, ha0, hne, hwc, hke]
      refine (W_anyF (F := []) (by kernel_rfl)).2 ?_
      simp (dsimp := false) [hg, splice, hk', hm, hm1, b1, b2, b3, b4, hcat, hG, hR, ha, hSame, hP, hf3, hf4]
    · refine Does_wp (n := 73) (rs := [.tmp 6]) Try.func6 (by kernel_rfl) rfl rfl rfl (by simp) fun σ hg => ?_
      simp (dsimp := false) [hg, hf, hx, hQ, ha0, hne, hwc, hke]
      refine (W_anyF (F := []) (by kernel_rfl)).2 ?_
      simp (dsimp := false) [hg, splice, hk', hm, hm1, b1, b2, b3, b4, hcat, hG, hR, ha, hSame, hf3, hf4, he]
end Go.Proofs.Ytbncfiijlnakkaa
end
section
/-! Plain law: a reader's error is never that of the check. -/
namespace Go.Proofs.Ytbncfiijlnakkaa
open Go.Hl
set_option maxHeartbeats 1000000
theorem fail_70 {r : RS} {x : Int} (h : r.e ≠ 70) (hx : x ≠ 70) : (r.fail x).e ≠ 70 := by
  unfold RS.fail failE
  simp only
  split
  · exact hx
  · exact h
theorem failE_70 {e x : Int} (h : e ≠ 70) (hx : x ≠ 70) : failE e x ≠ 70 := by
  unfold failE
  split
  · exact hx
  · exact h
theorem tk_70 {r : RS} {n : Int} (h : r.e ≠ 70) : (r.tk n).e ≠ 70 := by
  unfold RS.tk tkE
  simp only
  split
  · exact failE_70 h (by decide)
  · exact h
theorem fill_70 {r : RS} {n : Int} (h : r.e ≠ 70) : (r.fill n).e ≠ 70 := by
  have h1 := tk_70 (n := flN n r.s r.e) h
  unfold RS.tk at h1
  unfold RS.fill flE
  simp only at h1 ⊢
  split
  · exact h1
  · exact failE_70 h1 (by decide)
theorem end_70 {r : RS} (h : r.e ≠ 70) : r.end.e ≠ 70 := by
  unfold RS.end endE
  simp only
  split
  · decide
  · exact h
theorem param_70 {r : RS} (h : r.e ≠ 70) : (tkParam r).2.e ≠ 70 := by
  have h2 : ((r.tk 2).tk 2).e ≠ 70 := tk_70 (tk_70 h)
  unfold tkParam
  simp only
  generalize (((r.tk 2).num 2 : Nat) : Int) - 4 = n
  generalize (r.tk 2).tk 2 = r2 at *
  have h3 : (if r2.e = 0 ∧ (n < 0 ∨ 1000 < n) then r2.fail 3 else r2).e ≠ 70 := by
    split
    · exact fail_70 h2 (by decide)
    · exact h2
  generalize (if r2.e = 0 ∧ (n < 0 ∨ 1000 < n) then r2.fail 3 else r2) = r3 at *
  have h5 : (if (r3.tk n).left < -n % 4 then (r3.tk n).fail 2 else r3.tk n).e ≠ 70 := by
    split
    · exact fail_70 (tk_70 h3) (by decide)
    · exact tk_70 h3
  generalize (if (r3.tk n).left < -n % 4 then (r3.tk n).fail 2 else r3.tk n) = r5 at *
  split
  · exact tk_70 h3
  · split
    · exact fill_70 h5
    · exact fill_70 h5
theorem all_70 : ∀ (k : Nat) (r : RS) (out : List Pm), r.e ≠ 70 → (allLoop k r out).1.e ≠ 70
  | 0, r, out, h => h
  | k + 1, r, out, h => by
    unfold allLoop
    split
    · split
      · exact fail_70 h (by decide)
      · exact all_70 k _ _ (param_70 h)
    · exact h
theorem allP_70 (s : Bs) : (allP s).2 ≠ 70 := by
  have := all_70 17 ⟨s, 0⟩ [] (show (0 : Int) ≠ 70 by decide)
  unfold allP
  simp only
  split
  · exact this
  · exact show (0 : Int) ≠ 70 by decide
theorem gone_70 {r : RS} (h : r.e ≠ 70) : r.gone.e ≠ 70 := h
theorem pars_70 {r : RS} (h : r.e ≠ 70) : (parR r).e ≠ 70 := by
  unfold parR
  split
  · exact fail_70 h (allP_70 _)
  · exact h
theorem gaps_70 : ∀ (k : Nat) (r : RS), r.e ≠ 70 → (gapsN k r).2.e ≠ 70
  | 0, r, h => h
  | k + 1, r, h => by
    unfold gapsN
    exact tk_70 (tk_70 (gaps_70 k r h))
theorem dups_70 : ∀ (k : Nat) (r : RS), r.e ≠ 70 → (dupsN k r).2.e ≠ 70
  | 0, r, h => h
  | k + 1, r, h => by
    unfold dupsN
    exact tk_70 (dups_70 k r h)
theorem says_70 {r : RS} {c : Ck} (h : r.e ≠ 70) : (saysR r c).1.e ≠ 70 := by
  unfold saysR
  simp only
  split
  · exact gone_70 (tk_70 (tk_70 (tk_70 (tk_70 h))))
  split
  · exact pars_70 (tk_70 (tk_70 (tk_70 (tk_70 (tk_70 h)))))
  split
  · unfold sackR
    simp only
    split
    · exact fail_70 (tk_70 (tk_70 (tk_70 (tk_70 h)))) (by decide)
    · have := dups_70 ((((r.tk 4).tk 4).tk 2).num 2) _ (gaps_70 (((r.tk 4).tk 4).num 2) _ (tk_70 (n := 2) (tk_70 (n := 2) (tk_70 (n := 4) (tk_70 (n := 4) h)))))
      simp only
      split
      · exact fail_70 this (by decide)
      · exact this
  split
  · simp only
    split
    · exact fail_70 (param_70 h) (by decide)
    · exact param_70 h
  split
  · exact pars_70 h
  split
  · exact tk_70 h
  split
  · exact pars_70 (tk_70 h)
  split
  · exact h
  split
  · exact gone_70 (tk_70 (tk_70 h))
  · exact gone_70 h
theorem chunk_70 {r : RS} (h : r.e ≠ 70) : (tkChunk r).1.e ≠ 70 := by
  have h2 : (((r.tk 1).tk 1).tk 2).e ≠ 70 := tk_70 (tk_70 (tk_70 h))
  unfold tkChunk
  simp only
  generalize ((((r.tk 1).tk 1).num 2 : Nat) : Int) - 4 = n
  generalize ((r.tk 1).tk 1).tk 2 = r2 at *
  have h3 : (if r2.e = 0 ∧ n < 0 then r2.fail 3 else r2).e ≠ 70 := by
    split
    · exact fail_70 h2 (by decide)
    · exact h2
  generalize (if r2.e = 0 ∧ n < 0 then r2.fail 3 else r2) = r3 at *
  have h5 : (if (r3.tk n).left < -n % 4 then (r3.tk n).fail 2 else r3.tk n).e ≠ 70 := by
    split
    · exact fail_70 (tk_70 h3) (by decide)
    · exact tk_70 h3
  generalize (if (r3.tk n).left < -n % 4 then (r3.tk n).fail 2 else r3.tk n) = r5 at *
  have h7 : (r5.fill n).e ≠ 70 := fill_70 h5
  generalize r5.fill n = r7 at *
  have h0 : (⟨r3.got n, 0⟩ : RS).e ≠ 70 := show (0 : Int) ≠ 70 by decide
  split
  · exact tk_70 h3
  split
  · exact h7
  split
  · exact fail_70 h7 (end_70 (says_70 h0))
  split
  · exact fail_70 h7 (by decide)
  · exact h7
theorem getGo_70 : ∀ (k : Nat) (r : RS) (out : List Ck), r.e ≠ 70 → (getGo k r out).1.e ≠ 70
  | 0, r, out, h => h
  | k + 1, r, out, h => by
    unfold getGo
    split
    · split
      · exact fail_70 h (by decide)
      · exact getGo_70 k _ _ (chunk_70 h)
    · exact h
/-- Where the check is right, the error is another one. -/
theorem getP_70 {s : Bs} (h : sealL s 8 = s) : (getP s).2 ≠ 70 := by
  have := getGo_70 21 (((((⟨s, 0⟩ : RS).tk 2).tk 2).tk 4).tk 4) [] (tk_70 (tk_70 (tk_70 (tk_70 (show (0 : Int) ≠ 70 by decide)))))
  unfold getP
  simp only
  split
  · decide
  split
  · decide
  rw [if_neg (fun x => x h)]
  split
  · exact this
  split
  · exact show (3 : Int) ≠ 70 by decide
  · exact show (0 : Int) ≠ 70 by decide
end Go.Proofs.Ytbncfiijlnakkaa
end
section
namespace Go.Proofs.Ytbncfiijlnakkaa
open Go.Hl
set_option maxHeartbeats 4000000
variable {h : H}
theorem and_65535 (x : Int) : ∃ n : Nat, n < 65536 ∧ bitsOp .and .i64 x 65535 = some (n : Int) := by
  have h : (BitVec.ofInt 64 x &&& BitVec.ofInt 64 65535).toNat ≤ 65535 := by
    rw [BitVec.toNat_and]
    have : (BitVec.ofInt 64 65535).toNat = 65535 := by decide
    rw [this]
    exact Nat.and_le_right
  refine ⟨(BitVec.ofInt 64 x &&& BitVec.ofInt 64 65535).toNat, by omega, ?_⟩
  show some (IntKind.i64.wrap ((BitVec.ofInt 64 x &&& BitVec.ofInt 64 65535).toNat : Int)) = _
  rw [wrap_i64 (by omega) (by omega)]
theorem or_1 {n : Nat} (hn : n < 65536) : ∃ m : Nat, 1 ≤ m ∧ m < 65536 ∧ bitsOp .or .i64 (n : Int) 1 = some (m : Int) := by
  have e1 : (BitVec.ofInt 64 1).toNat = 1 := by decide
  have e2 : (BitVec.ofInt 64 (n : Int)).toNat = n := by
    simp
    omega
  have h : (BitVec.ofInt 64 (n : Int) ||| BitVec.ofInt 64 1).toNat = n ||| 1 := by rw [BitVec.toNat_or, e1, e2]
  have h1 : n ||| 1 < 65536 := Nat.or_lt_two_pow (n := 16) hn (by decide)
  refine ⟨n ||| 1, Nat.right_le_or, h1, ?_⟩
  show some (IntKind.i64.wrap ((BitVec.ofInt 64 (n : Int) ||| BitVec.ofInt 64 1).toNat : Int)) = _
  rw [h, wrap_i64 (by omega) (by omega)]
theorem or_1u {x : Int} (h0 : 0 ≤ x) (h1 : x < 4294967296) : ∃ m : Nat, 1 ≤ m ∧ m < 4294967296 ∧ bitsOp .or .u32 x 1 = some (m : Int) := by
  obtain ⟨n, rfl⟩ : ∃ n : Nat, x = (n : Int) := ⟨x.toNat, by omega⟩
  have e1 : (BitVec.ofInt 32 1).toNat = 1 := by decide
  have e2 : (BitVec.ofInt 32 (n : Int)).toNat = n := by
    simp
    omega
  have h : (BitVec.ofInt 32 (n : Int) ||| BitVec.ofInt 32 1).toNat = n ||| 1 := by rw [BitVec.toNat_or, e1, e2]
  have h1 : n ||| 1 < 4294967296 := Nat.or_lt_two_pow (n := 32) (by omega) (by decide)
  refine ⟨n ||| 1, Nat.right_le_or, h1, ?_⟩
  show some (IntKind.u32.wrap ((BitVec.ofInt 32 (n : Int) ||| BitVec.ofInt 32 1).toNat : Int)) = _
  rw [h, wrap_u32 (by omega)]
theorem put_11 {f t g : Nat} (hf : 1 ≤ f ∧ f < 65536) (ht : 1 ≤ t ∧ t < 65536) (hg : 1 ≤ g) : ∃ s : Bs, s.length = 16 ∧ putP f t g [c11] = sealL s 8 := by
  have hm : c11.may = true := by kernel_rfl
  have hp : [c11].flatMap Ck.put = [11, 0, 0, 4] := by kernel_rfl
  have ha : anyAlone [c11] = false := by kernel_rfl
  have ht' : togetherP f t g [c11] = true := by
    unfold togetherP
    rw [if_neg (by simp only [List.length_cons, List.length_nil]; omega), if_neg (by simp (dsimp := false) [ha])]
    have e1 : ¬ (g = 0) := by omega
    simp (dsimp := false) [e1, c11, ck0]
  refine ⟨headB f t g ++ [11, 0, 0, 4], rfl, ?_⟩
  unfold putP
  rw [ht', if_neg (by simp), putGo_some [c11] _ (by
    intro c hc
    rw [List.mem_singleton.1 hc]
    exact hm) (by rw [hp]; exact show 16 ≤ 1400 by decide), hp]
set_option maxRecDepth 100000 in
theorem packetSealed_row {l : List El} {v : V} {f t tag : Int} {rest : Bs} (hs : CksIs h l v) (_ : ∀ e ∈ l, e.c.Wide ∧ FreeS e.vg ∧ FreeS e.vd) (_ : l.length ≤ maxLen) (_ : (Lit.int .i64 f).wf = true) (_ : (Lit.int .i64 t).wf = true) (htag : (Lit.int .u32 tag).wf = true) (hb : rest.length ≤ 140737488351232) :
    Ok (Does Try.prog putC 7 [.agg [.int .i64 f, .int .i64 t, .int .u32 tag, v], .str rest] h) fun x => x.1 = .bool true := by
  simp (dsimp := false) [Lit.wf, IntKind.min, IntKind.max, IntKind.bits, IntKind.signed] at htag
  have hf := hs.sl.facts
  obtain ⟨F0, f1, f2⟩ := and_65535 f
  obtain ⟨F, f3, f4, f5⟩ := or_1 f1
  obtain ⟨T0, t1, t2⟩ := and_65535 t
  obtain ⟨T, t3, t4, t5⟩ := or_1 t1
  obtain ⟨G, g1, g2, g3⟩ := or_1u (x := tag) (by omega) (by omega)
  obtain ⟨s0, hs16, hput⟩ := put_11 ⟨f3, f4⟩ ⟨t3, t4⟩ g1
  have hk : CksIs ⟨h.blks ++ [⟨[.int .i64 f, .int .i64 t, .int .u32 tag, v], 0, 0, false⟩, ⟨c11.cells .nils .nils .nils .nils, 0, 0, false⟩], []⟩ [⟨c11, .nils, .nils, .nils, .nils⟩] (.sl (h.blks.length + 1) 0 1 0 15 false) :=
    ⟨.inr ⟨_, _, _, _, ⟨c11.cells .nils .nils .nils .nils, 0, 0, false⟩, rfl, by simp, Nat.le_refl 0, Nat.le_refl 0, by simp (dsimp := false) [El.cells, Ck.cells], by simp (dsimp := false) [El.cells, Ck.cells]⟩, by
      intro e he
      rw [List.mem_singleton.1 he]
      exact ⟨Sl.nil _ 2, Sl.nil _ 2, Sl.nil _ 2, Sl.nil _ 1⟩⟩
  have hP0 := rdoc7_Put (f := F) (t := T) (tag := G) hk (by decide) (by
    intro e he
    rw [List.mem_singleton.1 he]
    exact ⟨by decide, by decide, by decide, by decide, by decide⟩) (by
    intro e he g hg
    rw [List.mem_singleton.1 he] at hg
    cases hg)
  have e1 : [(⟨c11, .nils, .nils, .nils, .nils⟩ : El)].map El.c = [c11] := rfl
  rw [e1, putP_eq (by
    intro c hc
    rw [List.mem_singleton.1 hc]
    decide), hput] at hP0
  have hl0 := sealL_len (s := s0) (k := 8) (by omega)
  rw [hs16] at hl0
  generalize sealL s0 8 = a at *
  obtain ⟨m, hm, hm1, hm2⟩ : ∃ m : Nat, (if (300 : Int) < (rest.length : Int) then 300 else (rest.length : Int)) = (m : Int) ∧ m ≤ rest.length ∧ m ≤ 300 := ⟨min rest.length 300, by split <;> omega, Nat.min_le_left .., Nat.min_le_right ..⟩
  have b2 := Nat.min_eq_left hm1
  have hcl : (a ++ rest.take m).length = 16 + m := by
    simp (dsimp := false) [hl0]
    omega
  have hSd := fun h => rdoc_Sealed (C := putC) (a ++ rest.take m) h (by omega) (by omega)
  have hss := seal_seal (s := a ++ rest.take m) (k := 8) (by omega)
  have hsl := sealL_len (s := a ++ rest.take m) (k := 8) (by omega)
  generalize sealL (a ++ rest.take m) 8 = s at *
  obtain ⟨w3, w4, m5, es5, m6, es6, m7, es7, l3, l4, hG, hR, ha, hSame, hP, hl3, hl4⟩ := gets_tail (h.blks ++ [⟨[.int .i64 f, .int .i64 t, .int .u32 tag, v], 0, 0, false⟩, ⟨c11.cells .nils .nils .nils .nils, 0, 0, false⟩]) [] s (by omega)
  have hpe := fun he : (getP s).2 = 0 => (getP_split (s := s) (p := (getP s).1) (Prod.ext rfl he)).1
  have h70 := getP_70 hss
  have hf3 := hl3.sl.facts
  have hf4 := hl4.sl.facts
  generalize (getP s).1 = p at *
  generalize (getP s).2 = e at *
  unfold Ck.cells at hP0 hG hR ha hSame hP
  simp (dsimp := false) [pkBlk, c11, ck0] at hP0 hG hR ha hSame hP hf3 hf4
  have b3 : 16 + m ≤ 9223372036854775807 := by omega
  by_cases he : e = 0
  · have hp := hpe he
    subst he
    rw [hp] at hP
    refine Does_wp (n := 70) (rs := [.tmp 4]) Try.func7 (by kernel_rfl) rfl rfl rfl (by simp) fun σ hg => ?_
    simp (dsimp := false) [hg, hf, splice, f2, f5, t2, t5, g3, hP0, hm, hm1, b2, b3, hl0, hSd, hG, hR, ha, hSame, hP, hf3, hf4]
  · refine Does_wp (n := 70) (rs := [.tmp 4]) Try.func7 (by kernel_rfl) rfl rfl rfl (by simp) fun σ hg => ?_
    simp (dsimp := false) [hg, hf, splice, f2, f5, t2, t5, g3, hP0, hm, hm1, b2, b3, hl0, hSd, hG, hR, ha, hSame, hf3, hf4, he, h70]
end Go.Proofs.Ytbncfiijlnakkaa
end
section
namespace Go.Proofs.Ytbncfiijlnakkaa
open Go.Hl
set_option maxHeartbeats 4000000
variable {C : CallT} {h : H}
/-- The place of a type. -/
def slotZ (x : Int) : Nat := if x = 11 then 11 else if x = 14 then 12 else if x = 15 then 13 else if x = 193 then 14 else if x = 128 then 15 else if x = 130 then 16 else if 0 ≤ x ∧ x ≤ 10 then x.toNat else 17
theorem slotZ_lt (x : Int) : slotZ x < 18 := by
  unfold slotZ
  repeat' split
  all_goals omega
theorem measure_Slot (x : Int) : Does Try.prog C 34 [.int .i64 x] h = some (.int .i64 (slotZ x), h) := by
  refine Does_eq (n := 23) (rs := [.tmp 2]) Try.func34 (by kernel_rfl) rfl rfl rfl (by simp) fun σ hg => ?_
  unfold slotZ
  by_cases c1 : x = 11
  · simp (dsimp := false) [hg, c1]
  by_cases c2 : x = 14
  · simp (dsimp := false) [hg, c2]
  by_cases c3 : x = 15
  · simp (dsimp := false) [hg, c3]
  by_cases c4 : x = 193
  · simp (dsimp := false) [hg, c4]
  by_cases c5 : x = 128
  · simp (dsimp := false) [hg, c5]
  by_cases c6 : x = 130
  · simp (dsimp := false) [hg, c6]
  by_cases c7 : 0 ≤ x
  · by_cases c8 : x ≤ 10
    · have := Int.toNat_of_nonneg c7
      simp (dsimp := false) [hg, c1, c2, c3, c4, c5, c6, c7, c8, this]
    · simp (dsimp := false) [hg, c1, c2, c3, c4, c5, c6, c7, c8]
  · simp (dsimp := false) [hg, c1, c2, c3, c4, c5, c6, c7]
def slotL : List Int := [0, 1, 2, 3, 4, 5, 6, 7, 8, 9, 10, 11, 14, 15, 193, 128, 130]
theorem slotL_Z : ∀ i : Fin 17, slotZ (slotL[i.val]'(i.isLt)) = i.val := by decide
theorem slotZ_17 {x : Int} (h : ∀ i : Fin 17, slotL[i.val]'(i.isLt) ≠ x) : slotZ x = 17 := by
  have h0 : (0 : Int) ≠ x := h 0
  have h1 : (1 : Int) ≠ x := h 1
  have h2 : (2 : Int) ≠ x := h 2
  have h3 : (3 : Int) ≠ x := h 3
  have h4 : (4 : Int) ≠ x := h 4
  have h5 : (5 : Int) ≠ x := h 5
  have h6 : (6 : Int) ≠ x := h 6
  have h7 : (7 : Int) ≠ x := h 7
  have h8 : (8 : Int) ≠ x := h 8
  have h9 : (9 : Int) ≠ x := h 9
  have h10 : (10 : Int) ≠ x := h 10
  have h11 : (11 : Int) ≠ x := h 11
  have h12 : (14 : Int) ≠ x := h 12
  have h13 : (15 : Int) ≠ x := h 13
  have h14 : (193 : Int) ≠ x := h 14
  have h15 : (128 : Int) ≠ x := h 15
  have h16 : (130 : Int) ≠ x := h 16
  unfold slotZ
  rw [if_neg (by omega), if_neg (by omega), if_neg (by omega), if_neg (by omega), if_neg (by omega), if_neg (by omega), if_neg (by omega)]
def slotV : List V := slotL.map (.int .i64 ·)
theorem slotV_at {i : Nat} (h : i < 17) : slotV[i]? = some (.int .i64 (slotL[i]'h)) := by
  unfold slotV
  rw [List.getElem?_map, List.getElem?_eq_getElem h]
  rfl
theorem law_slot (x : Int) : Does Try.prog C 35 [.int .i64 x] h = some (.int .i64 (slotZ x), h) := by
  refine Does_eq (n := 19) (rs := [.tmp 2]) Try.func35 (by kernel_rfl) rfl rfl rfl (by simp) fun σ hg => ?_
  simp (dsimp := false) [splice]
  refine W_loopM (fun n σ h' => ∃ i : Nat, n = 17 - i ∧ i ≤ 17 ∧ h' = ⟨h.blks ++ [⟨slotV, 0, 0, false⟩], []⟩ ∧ σ 0 = .int .i64 x ∧ σ 3 = .sl h.blks.length 0 17 0 1 false ∧ σ 4 = .int .i64 i ∧ ∀ j (hj : j < 17), j < i → slotL[j]'hj ≠ x) ?_ 17 _ _ ?_
  · rintro _ σ _ ⟨i, rfl, hi, rfl, h0, h3, h4, hn⟩
    by_cases hlt : i < 17
    · have ha := (head_take slotV i).trans (slotV_at hlt)
      have d1 := eq_true (show (i : Int) < 17 by omega)
      have d2 : slotV.length = 17 := rfl
      have hw1 : IntKind.i64.wrap ((i : Int) + 1) = (i : Int) + 1 := wrap_i64 (by omega) (by omega)
      by_cases hx : slotL[i]'hlt = x
      · have hz := slotL_Z ⟨i, hlt⟩
        simp only at hz
        rw [hx] at hz
        simp (dsimp := false) [h0, h3, h4, d1, ha, hx, hz]
      · simp (dsimp := false) [h0, h3, h4, d1, ha, hx, hw1]
        exact ⟨_, by omega, i + 1, rfl, by omega, by simp, fun j hj hji => if e : j = i then by subst e; exact hx else hn j hj (by omega)⟩
    · obtain rfl : i = 17 := by omega
      have hz := slotZ_17 (x := x) (fun j => hn j.val j.isLt j.isLt)
      simp (dsimp := false) [h3, h4, hz]
  · exact ⟨0, by simp, by simp, rfl, by simp (dsimp := false) [hg], by simp, by simp, fun _ _ h => absurd h (Nat.not_lt_zero _)⟩
structure Ta where
  pk : Int
  by_ : Int
  bad : Int
  ch : Nat → Int
  data : Int
def Ta.cells (t : Ta) : List V := [.int .i64 t.pk, .int .i64 t.by_, .int .i64 t.bad, .int .i64 (t.ch 0), .int .i64 (t.ch 1), .int .i64 (t.ch 2), .int .i64 (t.ch 3), .int .i64 (t.ch 4), .int .i64 (t.ch 5), .int .i64 (t.ch 6), .int .i64 (t.ch 7), .int .i64 (t.ch 8), .int .i64 (t.ch 9), .int .i64 (t.ch 10), .int .i64 (t.ch 11), .int .i64 (t.ch 12), .int .i64 (t.ch 13), .int .i64 (t.ch 14), .int .i64 (t.ch 15), .int .i64 (t.ch 16), .int .i64 (t.ch 17), .int .i64 t.data]
theorem Ta.at_ (t : Ta) : ∀ {n : Nat}, n < 18 → t.cells[3 + n]? = some (.int .i64 (t.ch n))
  | 0, _ => rfl | 1, _ => rfl | 2, _ => rfl | 3, _ => rfl | 4, _ => rfl | 5, _ => rfl | 6, _ => rfl | 7, _ => rfl | 8, _ => rfl
  | 9, _ => rfl | 10, _ => rfl | 11, _ => rfl | 12, _ => rfl | 13, _ => rfl | 14, _ => rfl | 15, _ => rfl | 16, _ => rfl | 17, _ => rfl
  | n + 18, h => by omega
def Ta.setCh (t : Ta) (n : Nat) (x : Int) : Ta := { t with ch := fun k => if k = n then x else t.ch k }
theorem Ta.put_ (t : Ta) (x : Int) : ∀ {n : Nat}, n < 18 → splice t.cells (3 + n) [.int .i64 x] = (t.setCh n x).cells
  | 0, _ => rfl | 1, _ => rfl | 2, _ => rfl | 3, _ => rfl | 4, _ => rfl | 5, _ => rfl | 6, _ => rfl | 7, _ => rfl | 8, _ => rfl
  | 9, _ => rfl | 10, _ => rfl | 11, _ => rfl | 12, _ => rfl | 13, _ => rfl | 14, _ => rfl | 15, _ => rfl | 16, _ => rfl | 17, _ => rfl
  | n + 18, h => by omega
theorem Ta.len_ (t : Ta) : t.cells.length = 22 := rfl
theorem Ta.ok_ (t : Ta) : t.cells.all V.cellOk = true := rfl
theorem Ta.facts (t : Ta) (n : Nat) : V.under n (.agg t.cells) = true ∧ V.isU (.agg t.cells) = false ∧ escs n t.cells = [] ∧ t.cells.take 22 = t.cells ∧ V.uptos n t.cells = [] := ⟨rfl, rfl, rfl, rfl, rfl⟩
end Go.Proofs.Ytbncfiijlnakkaa
end
section
namespace Go.Proofs.Ytbncfiijlnakkaa
open Go.Hl
set_option maxHeartbeats 4000000
variable {C : CallT} {h : H}
def cntC (l : List Ck) (n : Nat) : Int := ((l.filter fun c => slotZ c.typ == n).length : Nat)
def datC (l : List Ck) : Int := (((l.filter fun c => c.typ == 0).map fun c => c.data.length).sum : Nat)
def Ta.addC (t : Ta) (l : List Ck) : Ta := { t with ch := fun n => t.ch n + cntC l n, data := t.data + datC l }
def oneT (s : Bs) : Ta := ⟨1, s.length, if (getP s).2 = 0 then 0 else 1, cntC (getP s).1.l, datC (getP s).1.l⟩
def Ta.add (a b : Ta) : Ta := ⟨a.pk + b.pk, a.by_ + b.by_, a.bad + b.bad, fun n => a.ch n + b.ch n, a.data + b.data⟩
def ta0 : Ta := ⟨0, 0, 0, fun _ => 0, 0⟩
structure Ta.In (k : Int) (t : Ta) : Prop where
  pk : 0 ≤ t.pk ∧ t.pk ≤ k
  by_ : 0 ≤ t.by_ ∧ t.by_ ≤ k
  bad : 0 ≤ t.bad ∧ t.bad ≤ k
  ch : ∀ n, 0 ≤ t.ch n ∧ t.ch n ≤ k
  data : 0 ≤ t.data ∧ t.data ≤ k
theorem cntC_le (l : List Ck) (n : Nat) : 0 ≤ cntC l n ∧ cntC l n ≤ l.length := by
  unfold cntC
  have := List.length_filter_le (fun c : Ck => slotZ c.typ == n) l
  omega
theorem datC_le : ∀ l : List Ck, (∀ c ∈ l, CkSmall c) → 0 ≤ datC l ∧ datC l ≤ l.length * 1000000
  | [], _ => by simp (dsimp := false) [datC]
  | c :: l, h => by
    have ih := datC_le l (fun x hx => h x (List.mem_cons_of_mem _ hx))
    have hc := (h c (List.mem_cons_self ..)).ls
    unfold datC at ih ⊢
    rw [List.filter_cons]
    split
    · rw [List.map_cons, List.sum_cons, List.length_cons]
      omega
    · rw [List.length_cons]
      omega
theorem cntC_snoc (l : List Ck) (c : Ck) (n : Nat) : cntC (l ++ [c]) n = if n = slotZ c.typ then cntC l n + 1 else cntC l n := by
  unfold cntC
  rw [List.filter_append, List.length_append, List.filter_cons]
  by_cases h : n = slotZ c.typ
  · rw [if_pos h, if_pos (by simp (dsimp := false) [h])]
    simp
  · rw [if_neg h, if_neg (by simpa using fun e => h e.symm)]
    simp
theorem datC_snoc (l : List Ck) (c : Ck) : datC (l ++ [c]) = if c.typ = 0 then datC l + c.data.length else datC l := by
  unfold datC
  rw [List.filter_append, List.map_append, List.sum_append, List.filter_cons]
  by_cases h : c.typ = 0
  · rw [if_pos h, if_pos (by simp (dsimp := false) [h])]
    simp
  · rw [if_neg h, if_neg (by simpa using h)]
    simp
/-- A slice of chunks is not in a block of numbers. -/
theorem Sl.past {A m : List Blk} {X X' : Blk} {es es' : List (Nat × Nat)} {L : List El} {v : V} (hs : Sl ⟨A ++ X :: m, es⟩ 15 L.length (L.flatMap El.cells) v) (hX : ∀ e : El, ∃ c ∈ e.cells, c ∉ X.cells) : L = [] ∨ Sl ⟨A ++ X' :: m, es'⟩ 15 L.length (L.flatMap El.cells) v := by
  rcases hs with hs | ⟨b, off, ver, lim, k, h1, h2, h3⟩
  · exact .inr (.inl hs)
  · by_cases hb : b = A.length
    · subst hb
      simp at h2
      subst h2
      left
      cases L with
      | nil => rfl
      | cons e L =>
        exfalso
        obtain ⟨-, -, h4, -⟩ := h3
        obtain ⟨c, hc, hn⟩ := hX e
        have hm : c ∈ (e :: L).flatMap El.cells := List.mem_flatMap.2 ⟨e, List.mem_cons_self .., hc⟩
        rw [← h4] at hm
        exact hn (List.mem_of_mem_drop (List.mem_of_mem_take hm))
    · right
      refine .inr ⟨b, off, ver, lim, k, h1, ?_, h3⟩
      rcases Nat.lt_or_gt_of_ne hb with hb | hb
      · simp only at h2 ⊢
        rw [List.getElem?_append_left hb] at h2 ⊢
        exact h2
      · simp only at h2 ⊢
        rw [List.getElem?_append_right (by omega)] at h2 ⊢
        obtain ⟨j, hj⟩ : ∃ j, b - A.length = j + 1 := ⟨b - A.length - 1, by omega⟩
        rw [hj] at h2 ⊢
        simpa using h2
set_option maxRecDepth 100000 in
theorem measure_Share {t : Ta} (ht : t.In 1000000000) : Does Try.prog C 36 [.agg t.cells] h = some (.int .i64 (if t.by_ ≤ 0 then 0 else (t.data * 100).tdiv t.by_), h) := by
  have hd := ht.data
  have hw : IntKind.i64.wrap (t.data * 100) = t.data * 100 := wrap_i64 (by omega) (by omega)
  have hb := ht.by_
  have hq : ¬ t.by_ ≤ 0 → IntKind.i64.wrap ((t.data * 100).tdiv t.by_) = (t.data * 100).tdiv t.by_ := fun h0 => by
    have h1 := Int.tdiv_nonneg (a := t.data * 100) (b := t.by_) (by omega) (by omega)
    have h2 := Int.tdiv_le_self (t.by_) (a := t.data * 100) (by omega)
    exact wrap_i64 (by omega) (by omega)
  unfold Ta.cells
  by_cases c : t.by_ ≤ 0
  · refine Does_eq (n := 12) (rs := [.tmp 2]) Try.func36 (by kernel_rfl) rfl rfl rfl (by simp) fun σ hg => ?_
    simp (dsimp := false) [hg, c]
  · have hn : ¬ t.by_ = 0 := by omega
    refine Does_eq (n := 12) (rs := [.tmp 2]) Try.func36 (by kernel_rfl) rfl rfl rfl (by simp) fun σ hg => ?_
    simp (dsimp := false) [hg, c, hn, hw, hq c]
theorem Ta.apart (t : Ta) (e : El) : ∃ c ∈ e.cells, c ∉ t.cells :=
  ⟨.str e.c.data, by simp (dsimp := false) [El.cells, Ck.cells], fun h => by simp (dsimp := false) [Ta.cells] at h⟩
def Ta.part (t u : Ta) (i : Nat) : Ta := ⟨t.pk + u.pk, t.by_ + u.by_, t.bad + u.bad, fun n => if n < i then t.ch n + u.ch n else t.ch n, t.data + u.data⟩
set_option maxRecDepth 100000 in
theorem measure_Both {t u : Ta} (ht : t.In 1000000000) (hu : u.In 1000000000) : Does Try.prog C 39 [.agg t.cells, .agg u.cells] h = some (.agg (t.add u).cells, h) := by
  have w : ∀ x y : Int, 0 ≤ x ∧ x ≤ 1000000000 → 0 ≤ y ∧ y ≤ 1000000000 → IntKind.i64.wrap (x + y) = x + y := fun x y hx hy => wrap_i64 (by omega) (by omega)
  have w0 := w _ _ ht.pk hu.pk
  have w1 := w _ _ ht.by_ hu.by_
  have w2 := w _ _ ht.bad hu.bad
  have w4 := w _ _ ht.data hu.data
  refine Does_eq (n := 46) (rs := [.cell 4 61]) Try.func39 (by kernel_rfl) rfl rfl rfl (by simp) fun σ hg => ?_
  unfold Ta.cells at hg
  simp (dsimp := false) [hg, w0, w1, w2, w4, splice]
  refine W_loopM (fun n σ h' => ∃ i : Nat, n = 18 - i ∧ i ≤ 18 ∧ h' = ⟨h.blks ++ [⟨(t.part u i).cells, 0, 0, false⟩, ⟨u.cells, 0, 0, false⟩, ⟨ta0.cells, 0, 0, false⟩], []⟩ ∧ σ 2 = .ptr h.blks.length 0 0 22 ∧ σ 3 = .ptr (h.blks.length + 1) 0 0 22 ∧ σ 4 = .ptr (h.blks.length + 2) 0 0 22 ∧ σ 30 = .int .i64 i) ?_ 18 _ _ ?_
  · rintro _ σ _ ⟨i, rfl, hi, rfl, h2, h3, h4, h30⟩
    by_cases hlt : i < 18
    · have a1 := (head_take _ _).trans ((t.part u i).at_ hlt)
      have a2 := (head_take _ _).trans (u.at_ hlt)
      have hp : (t.part u i).ch i = t.ch i := if_neg (Nat.lt_irrefl i)
      rw [hp] at a1
      have hw := w _ _ (ht.ch i) (hu.ch i)
      have a3 := (t.part u i).put_ (t.ch i + u.ch i) hlt
      have d1 := eq_true (show (i : Int) < 18 by omega)
      have hw1 : IntKind.i64.wrap ((i : Int) + 1) = (i : Int) + 1 := wrap_i64 (by omega) (by omega)
      have l1 := (t.part u i).len_
      have l2 := u.len_
      have hs : (t.part u i).setCh i (t.ch i + u.ch i) = t.part u (i + 1) := by
        unfold Ta.setCh Ta.part
        simp only [Ta.mk.injEq, true_and, and_true]
        funext k
        by_cases hk : k = i
        · subst hk
          simp
        · have : (k < i + 1) = (k < i) := propext (by omega)
          simp (dsimp := false) [hk, this]
      rw [hs] at a3
      simp (dsimp := false) [h30, d1]
      refine (W_anyF (F := []) (by kernel_rfl)).2 ?_
      simp (dsimp := false) [h2, h3, h4, h30, d1, a1, a2, a3, hw, hw1, l1]
      exact ⟨by omega, _, by omega, i + 1, rfl, by omega, rfl, by omega⟩
    · obtain rfl : i = 18 := by omega
      have hp : t.part u 18 = ⟨t.pk + u.pk, t.by_ + u.by_, t.bad + u.bad, (t.part u 18).ch, t.data + u.data⟩ := rfl
      have hq : (t.part u 18).cells = (t.add u).cells := rfl
      obtain ⟨f1, f2, f3, f4, f5⟩ := (t.add u).facts (h.blks.length + 2)
      have f6 := ((t.add u).facts h.blks.length).1
      have l1 := (t.add u).len_
      have l2 := ta0.len_
      have l3 := (t.add u).ok_
      have hs : splice ta0.cells 0 (t.add u).cells = (t.add u).cells := rfl
      rw [hq]
      generalize (t.add u).cells = T at *
      generalize ta0.cells = Z at *
      simp (dsimp := false) [h2, h4, h30, l1, l2, l3, f4, f5, hs]
      exact leave_new (by simpa [H.size] using f6) (by simp)
  · exact ⟨0, by simp, by simp, by simp (dsimp := false) [Ta.part, Ta.cells, ta0], by simp, by simp, by simp, by simp⟩
end Go.Proofs.Ytbncfiijlnakkaa
end
section
namespace Go.Proofs.Ytbncfiijlnakkaa
open Go.Hl
set_option maxHeartbeats 4000000
variable {C : CallT} {h : H}
def Ta.setD (t : Ta) (x : Int) : Ta := { t with data := x }
def Ta.inc (t : Ta) (n : Nat) : Ta := t.setCh n (t.ch n + 1)
theorem addC_snoc (t : Ta) (l : List Ck) (c : Ck) : t.addC (l ++ [c]) = if c.typ = 0 then ((t.addC l).inc (slotZ c.typ)).setD ((t.addC l).data + c.data.length) else (t.addC l).inc (slotZ c.typ) := by
  have hch : (fun n => t.ch n + cntC (l ++ [c]) n) = fun n => if n = slotZ c.typ then (t.ch (slotZ c.typ) + cntC l (slotZ c.typ)) + 1 else t.ch n + cntC l n := by
    funext n
    rw [cntC_snoc]
    by_cases hn : n = slotZ c.typ
    · rw [if_pos hn, if_pos hn, hn]
      omega
    · rw [if_neg hn, if_neg hn]
  unfold Ta.addC Ta.inc Ta.setCh Ta.setD
  simp only
  rw [hch, datC_snoc]
  by_cases h0 : c.typ = 0
  · rw [if_pos h0, if_pos h0, ← Int.add_assoc]
  · rw [if_neg h0, if_neg h0]
theorem one_in {s : Bs} (hs : s.length ≤ 2000) : (oneT s).In 30000000 := by
  have hf := getP_few s
  have hd := datC_le _ (getP_small s)
  refine ⟨by unfold oneT; simp, ?_, ?_, fun n => ?_, ?_⟩
  · unfold oneT
    simp only
    omega
  · unfold oneT
    simp only
    split <;> omega
  · have := cntC_le (getP s).1.l n
    unfold oneT
    simp only
    omega
  · unfold oneT
    simp only
    omega
theorem add_in {t u : Ta} {a b : Int} (ht : t.In a) (hu : u.In b) : (t.add u).In (a + b) := by
  have h1 := ht.pk
  have h2 := ht.by_
  have h3 := ht.bad
  have h4 := ht.data
  have g1 := hu.pk
  have g2 := hu.by_
  have g3 := hu.bad
  have g4 := hu.data
  refine ⟨?_, ?_, ?_, fun n => ?_, ?_⟩
  all_goals unfold Ta.add
  · simp only
    omega
  · simp only
    omega
  · simp only
    omega
  · have h5 := ht.ch n
    have g5 := hu.ch n
    simp only
    omega
  · simp only
    omega
set_option maxRecDepth 100000 in
theorem measure_Add {t : Ta} {s : Bs} {a b : Int} (ht : t.In 900000000) (hs : s.length ≤ 2000) : Ok (Does Try.prog C 38 [.agg t.cells, .agg [.int .u32 a, .int .u32 b, .str s]] h) fun x => x.1 = .agg (t.add (oneT s)).cells ∧ Ext h x.2 := by
  have w : ∀ x y : Int, 0 ≤ x ∧ x ≤ 1000000000 → 0 ≤ y ∧ y ≤ 1000000000 → IntKind.i64.wrap (x + y) = x + y := fun x y hx hy => wrap_i64 (by omega) (by omega)
  have h1 := ht.pk
  have h2 := ht.by_
  have h3 := ht.bad
  have h4 := ht.data
  have w0 := w t.pk 1 (by omega) (by omega)
  have w1 := w t.by_ s.length (by omega) (by omega)
  have w2 := w t.bad 1 (by omega) (by omega)
  obtain ⟨⟨z1, z2⟩, hz, u, hu, ⟨m5, es5, he5, hes5⟩, w3, l3, hw3, hl3, hlc3⟩ := packet_Get (C := C) (h := ⟨h.blks ++ [⟨(⟨t.pk + 1, t.by_ + s.length, t.bad, t.ch, t.data⟩ : Ta).cells, 0, 0, false⟩, ⟨[.int .u32 a, .int .u32 b, .str s], 0, 0, false⟩, ⟨ta0.cells, 0, 0, false⟩], []⟩) s (by omega)
  simp only at hu he5 hl3
  subst hu he5 hw3
  have hf3 := hl3.sl.facts
  have hlen3 := hl3.sl.len Try.underlying32
  simp (dsimp := false) [Ta.cells, ta0] at hz hf3 hes5
  by_cases he : (getP s).2 = 0
  · obtain ⟨cs, hcs⟩ : ∃ cs, cs = (getP s).1.l := ⟨_, rfl⟩
    rw [← hcs] at hlc3
    have hlcs : cs.length = l3.length := by
      rw [← hlc3]
      simp
    have hfew := getP_few s
    have hsm := getP_small s
    rw [← hcs] at hfew hsm
    obtain ⟨T, hT⟩ : ∃ T : Ta, T = ⟨t.pk + 1, t.by_ + s.length, t.bad, t.ch, t.data⟩ := ⟨_, rfl⟩
    have hres : (t.add (oneT s)).cells = (T.addC cs).cells := by
      unfold oneT Ta.add Ta.cells Ta.addC
      rw [hT, hcs]
      simp (dsimp := false) [he]
    rw [hres]
    refine Does_wp (n := 61) (rs := [.cell 4 61]) Try.func38 (by kernel_rfl) rfl rfl rfl (by simp) fun σ hg => ?_
    unfold Ta.cells at hg
    simp (dsimp := false) [hg, w0, w1, splice, hz, he, hf3, hlen3]
    refine W_loopM (fun k σ h' => ∃ i m es, k = l3.length - i ∧ i ≤ l3.length ∧ h' = ⟨h.blks ++ (⟨(T.addC (cs.take i)).cells, 0, 0, false⟩ :: ⟨[.int .u32 a, .int .u32 b, .str s], 0, 0, false⟩ :: ⟨ta0.cells, 0, 0, false⟩ :: (m5 ++ m)), es⟩ ∧ (∀ y ∈ es, h.blks.length ≤ y.1) ∧
      σ 2 = .ptr h.blks.length 0 0 22 ∧ σ 4 = .ptr (h.blks.length + 2) 0 0 22 ∧ σ 34 = w3 ∧ σ 35 = .int .i64 l3.length ∧ σ 36 = .int .i64 i) ?_ l3.length _ _ ?_
    · rintro _ σ _ ⟨i, m, es, rfl, hi, rfl, hes, g2, g4, g34, g35, g36⟩
      by_cases hlt : i < l3.length
      · have hlt' : i < cs.length := by omega
        have hci : l3[i].c = cs[i] := by
          have := List.getElem_map El.c (l := l3) (i := i) (h := by simpa using hlt)
          rw [← this]
          simp (dsimp := false) [hlc3]
        have hch := ht.ch
        obtain ⟨X, hX⟩ : ∃ X, X = T.addC (cs.take i) := ⟨_, rfl⟩
        have hXn : ∀ n, 0 ≤ X.ch n ∧ X.ch n ≤ 999999999 := fun n => by
          have h5 := cntC_le (cs.take i) n
          have h6 := hch n
          have h7 : (cs.take i).length ≤ 20 := by
            simp
            omega
          rw [hX, hT]
          unfold Ta.addC
          simp only
          omega
        have hXd : 0 ≤ X.data ∧ X.data ≤ 999999999 := by
          have h5 := datC_le (cs.take i) (fun c hc => hsm c (List.mem_of_mem_take hc))
          have h7 : (cs.take i).length ≤ 20 := by
            simp
            omega
          rw [hX, hT]
          unfold Ta.addC
          simp only
          omega
        have hnext : T.addC (cs.take (i + 1)) = if cs[i].typ = 0 then (X.inc (slotZ cs[i].typ)).setD (X.data + cs[i].data.length) else X.inc (slotZ cs[i].typ) := by
          rw [List.take_succ_eq_append_getElem hlt', addC_snoc, ← hX]
        rw [← hX]
        have hS0 : Sl ⟨h.blks ++ (⟨(⟨t.pk + 1, t.by_ + s.length, t.bad, t.ch, t.data⟩ : Ta).cells, 0, 0, false⟩ :: (⟨[.int .u32 a, .int .u32 b, .str s], 0, 0, false⟩ :: ⟨ta0.cells, 0, 0, false⟩ :: m5)), es5⟩ 15 l3.length (l3.flatMap El.cells) w3 := by
          have := hl3.sl
          simpa using this
        have hS1 := (Sl.past (X' := ⟨X.cells, 0, 0, false⟩) (es' := es) hS0 (Ta.apart _)).resolve_left (fun e => by simp (dsimp := false) [e] at hlt)
        obtain ⟨p, pf, hia, hrd, -, -⟩ := (Sl.app (es' := es) (m := m) hS1).atF El.cells_len
        have hia := hia i hlt
        have hrd := hrd i hlt _ (Ext.refl _)
        have hok := hl3.el l3[i] (List.getElem_mem hlt)
        have hfc := fun m' => (CkIs.app (es' := es) hok m').facts
        have hfc0 := hfc m
        have hfc := hfc (m ++ [default])
        simp only [El.cells, Ck.cells, hci] at hrd
        simp at hfc hfc0 hrd
        have hsl := measure_Slot (C := C) cs[i].typ (h := ⟨h.blks ++ (⟨X.cells, 0, 0, false⟩ :: ⟨[.int .u32 a, .int .u32 b, .str s], 0, 0, false⟩ :: ⟨ta0.cells, 0, 0, false⟩ :: (m5 ++ (m ++ [⟨cs[i].cells l3[i].vp l3[i].vc l3[i].vg l3[i].vd, 0, 0, false⟩]))), es⟩)
        have hslt := slotZ_lt cs[i].typ
        have d1 := eq_true hlt
        have d2 := eq_true (show ((slotZ cs[i].typ : Nat) : Int) < 18 by omega)
        have d3 := eq_true (show 3 + slotZ cs[i].typ ≤ 21 by omega)
        have a1 := (head_take _ _).trans (X.at_ hslt)
        have a2 := X.put_ (X.ch (slotZ cs[i].typ) + 1) hslt
        have hw := w _ 1 ⟨(hXn (slotZ cs[i].typ)).1, by have := (hXn (slotZ cs[i].typ)).2; omega⟩ (by omega)
        have l1 := X.len_
        have hwi : IntKind.i64.wrap ((i : Int) + 1) = (i : Int) + 1 := wrap_i64 (by omega) (by omega)
        unfold Ck.cells at hsl
        have hi1 : X.setCh (slotZ cs[i].typ) (X.ch (slotZ cs[i].typ) + 1) = X.inc (slotZ cs[i].typ) := rfl
        rw [hi1] at a2
        generalize hY : X.inc (slotZ cs[i].typ) = Y at *
        have hYd : Y.data = X.data := by
          rw [← hY]
          rfl
        have l2 := Y.len_
        simp (dsimp := false) [splice] at a2
        by_cases c0 : cs[i].typ = 0
        · have b1 : (List.take 1 (List.drop 21 Y.cells)).head? = some (.int .i64 Y.data) := rfl
          have b2 : splice Y.cells 21 [.int .i64 (X.data + cs[i].data.length)] = (Y.setD (X.data + cs[i].data.length)).cells := rfl
          have hwd := w X.data cs[i].data.length (by omega) (by
            have := (hsm cs[i] (List.getElem_mem hlt')).ls
            omega)
          rw [hYd] at b1
          rw [if_pos c0] at hnext
          rw [c0] at hrd hsl d2 d3 a1 a2 hw
          simp (dsimp := false) [splice] at b2
          simp (dsimp := false) [g2, g4, g34, g35, g36, d1, hia, hrd, hfc, hfc0, splice, hsl, d2, d3, a1, a2, hw, l1, l2, hwi, b1, b2, hwd]
          exact ⟨_, by omega, i + 1, rfl, by omega, _, _, ⟨⟨by rw [hnext], rfl⟩, rfl⟩, fun a b hab => hes (a, b) hab, by omega⟩
        · rw [if_neg c0] at hnext
          simp (dsimp := false) [g2, g4, g34, g35, g36, d1, hia, hrd, hfc, hfc0, splice, hsl, d2, d3, a1, a2, hw, l1, c0, hwi]
          exact ⟨_, by omega, i + 1, rfl, by omega, _, _, ⟨⟨by rw [hnext], rfl⟩, rfl⟩, fun a b hab => hes (a, b) hab, by omega⟩
      · obtain rfl : i = l3.length := by omega
        have e1 : cs.take l3.length = cs := List.take_of_length_le (by omega)
        rw [e1]
        have l1 := (T.addC cs).len_
        have l2 := ta0.len_
        have l3 := (T.addC cs).ok_
        have hs : splice ta0.cells 0 (T.addC cs).cells = (T.addC cs).cells := rfl
        obtain ⟨-, -, -, f4, f5⟩ := (T.addC cs).facts (h.blks.length + 2)
        generalize (T.addC cs).cells = Y at *
        generalize ta0.cells = Z at *
        simp (dsimp := false) [g2, g4, g35, g36, l1, l2, l3, f4, f5, hs]
        exact leave_ext hes
    · exact ⟨0, [⟨[.int .i64 (getP s).1.f, .int .i64 (getP s).1.t, .int .u32 (getP s).1.tag, w3], 0, 0, false⟩], es5, by simp, by simp, by simp (dsimp := false) [hT, Ta.addC, Ta.cells, ta0, cntC, datC], fun y hy => (by have := hes5 y.1 y.2 hy; show h.blks.length ≤ y.1; omega), by simp, by simp, by simp, by simp, by simp⟩
  · have hp := getP_bad (s := s) (p := (getP s).1) rfl he
    have hres : (t.add (oneT s)).cells = (⟨t.pk + 1, t.by_ + s.length, t.bad + 1, t.ch, t.data⟩ : Ta).cells := by
      unfold oneT Ta.add Ta.cells
      rw [hp]
      simp (dsimp := false) [he, pk0, cntC, datC]
    rw [hres]
    refine Does_wp (n := 61) (rs := [.cell 4 61]) Try.func38 (by kernel_rfl) rfl rfl rfl (by simp) fun σ hg => ?_
    unfold Ta.cells at hg
    simp (dsimp := false) [hg, w0, w1, w2, splice, hz, he, hf3, Ta.cells]
    refine leave_ext fun y hy => ?_
    have := hes5 y.1 y.2 hy
    show h.blks.length ≤ y.1
    omega
end Go.Proofs.Ytbncfiijlnakkaa
end
section
namespace Go.Proofs.Ytbncfiijlnakkaa
open Go.Hl
set_option maxHeartbeats 4000000
variable {C : CallT} {h : H}
structure Dg where
  a : Int
  b : Int
  s : Bs
def Dg.cells (d : Dg) : List V := [.int .u32 d.a, .int .u32 d.b, .str d.s]
theorem Dg.cells_len (d : Dg) : d.cells.length = 3 := rfl
def sumT (l : List Bs) : Ta := l.foldl (fun t s => t.add (oneT s)) ta0
theorem sumT_snoc (l : List Bs) (s : Bs) : sumT (l ++ [s]) = (sumT l).add (oneT s) := by
  unfold sumT
  rw [List.foldl_append]
  rfl
theorem sumT_in {l : List Bs} (hs : ∀ s ∈ l, s.length ≤ 2000) : (sumT l).In (30000000 * l.length) := by
  revert hs
  refine snoc_ind (P := fun l => (∀ s ∈ l, s.length ≤ 2000) → (sumT l).In (30000000 * l.length)) (fun _ => ?_) (fun l s ih hs => ?_) l
  · exact ⟨⟨Int.le_refl 0, Int.le_refl 0⟩, ⟨Int.le_refl 0, Int.le_refl 0⟩, ⟨Int.le_refl 0, Int.le_refl 0⟩, fun _ => ⟨Int.le_refl 0, Int.le_refl 0⟩, ⟨Int.le_refl 0, Int.le_refl 0⟩⟩
  · rw [sumT_snoc]
    have := add_in (ih fun x hx => hs x (List.mem_append_left _ hx)) (one_in (s := s) (hs s (by simp)))
    have e : (30000000 * ((l ++ [s]).length : Int)) = 30000000 * (l.length : Int) + 30000000 := by
      simp
      omega
    rw [e]
    exact this
theorem in_le {t : Ta} {a b : Int} (ht : t.In a) (hab : a ≤ b) : t.In b := by
  have h1 := ht.pk
  have h2 := ht.by_
  have h3 := ht.bad
  have h4 := ht.data
  exact ⟨by omega, by omega, by omega, fun n => by have := ht.ch n; omega, by omega⟩
set_option maxRecDepth 100000 in
theorem measure_All {L : List Dg} {v : V} (hv : Sl h 3 L.length (L.flatMap Dg.cells) v) (hl : L.length ≤ 20) (hs : ∀ d ∈ L, d.s.length ≤ 2000) : Ok (Does Try.prog C 37 [v] h) fun x => x.1 = .agg (sumT (L.map Dg.s)).cells ∧ Ext h x.2 := by
  have hlen := hv.len Try.underlying67
  have hv' := hv.blks (h' := ⟨h.blks, []⟩) rfl
  obtain ⟨p, pf, hia, hrd, -, -⟩ := hv'.atF Dg.cells_len
  have hz : ta0.cells = (sumT ((L.map Dg.s).take 0)).cells := rfl
  refine Does_wp (n := 17) (rs := [.cell 2 61]) Try.func37 (by kernel_rfl) rfl rfl rfl (by simp) fun σ hg => ?_
  simp (dsimp := false) [hg, hlen]
  refine W_loopM (fun k σ h' => ∃ i m es, k = L.length - i ∧ i ≤ L.length ∧ h' = ⟨h.blks ++ (⟨ta0.cells, 0, 0, false⟩ :: ⟨(sumT ((L.map Dg.s).take i)).cells, 0, 0, false⟩ :: m), es⟩ ∧ (∀ y ∈ es, h.blks.length ≤ y.1) ∧
      σ 2 = .ptr h.blks.length 0 0 22 ∧ σ 3 = .ptr (h.blks.length + 1) 0 0 22 ∧ σ 6 = v ∧ σ 7 = .int .i64 L.length ∧ σ 8 = .int .i64 i) ?_ L.length _ _ ?_
  · rintro _ σ _ ⟨i, m, es, rfl, hi, rfl, hes, g2, g3, g6, g7, g8⟩
    by_cases hlt : i < L.length
    · have hia := hia i hlt
      have hrd := hrd i hlt ⟨h.blks ++ (⟨ta0.cells, 0, 0, false⟩ :: ⟨(sumT ((L.map Dg.s).take i)).cells, 0, 0, false⟩ :: m), es⟩ ⟨⟨ta0.cells, 0, 0, false⟩ :: ⟨(sumT ((L.map Dg.s).take i)).cells, 0, 0, false⟩ :: m, es, by simp, hes⟩
      have hin := sumT_in (l := (L.map Dg.s).take i) (fun s hs' => by
        obtain ⟨d, hd, rfl⟩ := List.mem_map.1 (List.mem_of_mem_take hs')
        exact hs d hd)
      have hin := in_le hin (b := 900000000) (by
        simp
        omega)
      obtain ⟨⟨x1, x2⟩, hx, hx1, m2, es2, hx2, hes2⟩ := measure_Add (C := C) (t := sumT ((L.map Dg.s).take i)) (s := L[i].s) (a := L[i].a) (b := L[i].b) (h := ⟨h.blks ++ (⟨ta0.cells, 0, 0, false⟩ :: ⟨(sumT ((L.map Dg.s).take i)).cells, 0, 0, false⟩ :: (m ++ [⟨L[i].cells, 0, 0, false⟩])), es⟩) hin (hs _ (List.getElem_mem hlt))
      simp only at hx1 hx2
      subst hx1 hx2
      have hn : (sumT ((L.map Dg.s).take i)).add (oneT L[i].s) = sumT ((L.map Dg.s).take (i + 1)) := by
        rw [List.take_succ_eq_append_getElem (by simpa using hlt), sumT_snoc]
        simp
      rw [hn] at hx
      have d1 := eq_true hlt
      have hwi : IntKind.i64.wrap ((i : Int) + 1) = (i : Int) + 1 := wrap_i64 (by omega) (by omega)
      have l1 := (sumT ((L.map Dg.s).take i)).len_
      have l2 := (sumT ((L.map Dg.s).take (i + 1))).len_
      have l3 := (sumT ((L.map Dg.s).take (i + 1))).ok_
      obtain ⟨-, -, -, -, f5⟩ := (sumT ((L.map Dg.s).take (i + 1))).facts (h.blks.length + 1)
      have f6 := ((sumT ((L.map Dg.s).take i)).facts 0).2.2.2.1
      have f7 : (sumT ((L.map Dg.s).take i)).cells.drop 22 = [] := rfl
      generalize hX : (sumT ((L.map Dg.s).take i)).cells = X at *
      generalize hY : (sumT ((L.map Dg.s).take (i + 1))).cells = Y at *
      unfold Dg.cells at hrd hx
      simp at hx hes2
      simp (dsimp := false) [g2, g3, g6, g7, g8, d1, hia, hrd, hx, l1, l2, l3, f5, f6, f7, hwi, splice]
      refine ⟨_, by omega, i + 1, rfl, by omega, _, _, ⟨⟨hY.symm, rfl⟩, rfl⟩, fun a b hab => ?_, by omega⟩
      rcases List.mem_append.1 hab with hab | hab
      · exact hes (a, b) hab
      · have := hes2 a b hab
        omega
    · obtain rfl : i = L.length := by omega
      have e1 : (L.map Dg.s).take L.length = L.map Dg.s := List.take_of_length_le (by simp)
      have l1 := (sumT (L.map Dg.s)).len_
      have l2 := ta0.len_
      have l3 := (sumT (L.map Dg.s)).ok_
      have hs : splice ta0.cells 0 (sumT (L.map Dg.s)).cells = (sumT (L.map Dg.s)).cells := rfl
      obtain ⟨-, -, -, f4, f5⟩ := (sumT (L.map Dg.s)).facts h.blks.length
      rw [e1]
      generalize (sumT (L.map Dg.s)).cells = Y at *
      generalize ta0.cells = Z at *
      simp (dsimp := false) [g2, g3, g7, g8, l1, l2, l3, f4, f5, hs]
      exact leave_ext hes
  · exact ⟨0, [], [], by simp, by simp, by simp (dsimp := false) [sumT, Ta.cells, ta0], by simp, by simp, by simp, by simp, by simp, by simp⟩
def abc : Bs := [97, 98, 99]
theorem abc_sum : (sumT [abc]).cells = [.int .i64 1, .int .i64 3, .int .i64 1, .int .i64 0, .int .i64 0, .int .i64 0, .int .i64 0, .int .i64 0, .int .i64 0, .int .i64 0, .int .i64 0, .int .i64 0, .int .i64 0, .int .i64 0, .int .i64 0, .int .i64 0, .int .i64 0, .int .i64 0, .int .i64 0, .int .i64 0, .int .i64 0, .int .i64 0] := by kernel_rfl
theorem Sl.one {l m : List Blk} {d : Dg} {es : List (Nat × Nat)} : Sl ⟨l ++ ⟨d.cells, 0, 0, false⟩ :: m, es⟩ 3 1 ([d].flatMap Dg.cells) (.sl l.length 0 1 0 3 false) :=
  .inr ⟨_, _, _, _, ⟨d.cells, 0, 0, false⟩, rfl, by simp, Nat.le_refl 0, Nat.le_refl 0, by simp (dsimp := false) [Dg.cells], by simp (dsimp := false) [Dg.cells]⟩
set_option maxRecDepth 100000 in
theorem awake41' : Ok (Does Try.prog C 33 [] h) fun x => x.1 = .bool true ∧ Ext h x.2 := by
  obtain ⟨⟨x1, x2⟩, hx, hx1, m, es, hx2, hes⟩ := measure_All (C := C) (L := [⟨0, 0, abc⟩]) (h := ⟨h.blks ++ [⟨(⟨0, 0, abc⟩ : Dg).cells, 0, 0, false⟩], []⟩) Sl.one (by decide) (by
    intro d hd
    rw [List.mem_singleton.1 hd]
    decide)
  simp only at hx1 hx2
  have e1 : [(⟨0, 0, abc⟩ : Dg)].map Dg.s = [abc] := rfl
  rw [e1, abc_sum] at hx1
  subst hx1 hx2
  have s1 := fun h => measure_Slot (C := C) (h := h) 193
  have s2 := fun h => measure_Slot (C := C) (h := h) 99
  rw [show slotZ 193 = 14 by decide] at s1
  rw [show slotZ 99 = 17 by decide] at s2
  simp (dsimp := false) [Dg.cells, abc] at hx hes
  refine Does_wp (n := 26) (rs := [.tmp 0]) Try.func33 (by kernel_rfl) rfl rfl rfl (by simp) fun σ hg => ?_
  simp (dsimp := false) [splice, hx, s1, s2]
  refine leave_ext fun y hy => ?_
  have := hes y.1 y.2 hy
  show h.blks.length ≤ y.1
  omega
end Go.Proofs.Ytbncfiijlnakkaa
end
section
namespace Go.Proofs.Ytbncfiijlnakkaa
open Go.Hl
set_option maxHeartbeats 4000000
variable {X : Type} {enc : TypeId × Value → X} {W : World}
/-- A packet in a list of packets: its numbers, its chunks, where they are. -/
structure PEl where
  f : Int
  t : Int
  tag : Int
  l : List El
  w : V
def PEl.cells (p : PEl) : List V := [.int .i64 p.f, .int .i64 p.t, .int .u32 p.tag, p.w]
theorem PEl.cells_len (p : PEl) : p.cells.length = 4 := rfl
def PEl.wide (p : PEl) : Prop := (∀ e ∈ p.l, e.c.Wide ∧ FreeS e.vg ∧ FreeS e.vd) ∧ p.l.length ≤ maxLen ∧ (Lit.int .u32 p.tag).wf = true
def PEl.okW (h : H) (p : PEl) : Prop := CksIs h p.l p.w ∧ p.wide
/-- A list of packets in memory. -/
structure PksIs (h : H) (L : List PEl) (v : V) : Prop where
  sl : Sl h 4 L.length (L.flatMap PEl.cells) v
  el : ∀ p ∈ L, CksIs h p.l p.w
theorem opens_pel (hd : ∃ (b : Nat) (C : Array Value) (e' : TypeId) (fz : Nat × Nat), W.heap[b]? = some (Obj.cells C e' fz)) : OpensTo enc Try.prog W 34 PEl.cells PEl.okW := by
  intro fuel cs x ι l hr h
  obtain ⟨hl, n, hf⟩ := trod_flds (by kernel_rfl) h
  rw [show Try.prog.cellsOf 34 = 4 by kernel_rfl] at hl
  obtain ⟨_, y0⟩ := hf 0 3 0 1 (by kernel_rfl)
  obtain ⟨_, y1⟩ := hf 1 3 1 1 (by kernel_rfl)
  obtain ⟨_, y2⟩ := hf 2 23 2 1 (by kernel_rfl)
  obtain ⟨_, y3⟩ := hf 3 32 3 1 (by kernel_rfl)
  obtain ⟨a0, e0, w0⟩ := int_leaf Try.underlying3 y0
  obtain ⟨a1, e1, w1⟩ := int_leaf Try.underlying3 y1
  obtain ⟨a2, e2, w2⟩ := int_leaf Try.underlying23 y2
  obtain ⟨v0, v1, v2, v3, rfl⟩ := list4 hl
  simp only [List.getElem?_cons_zero, List.getElem?_cons_succ, Option.some.injEq] at e0 e1 e2
  subst e0 e1 e2
  simp only [List.drop_succ_cons, List.drop_zero, List.take_succ_cons, List.take_zero] at y3
  obtain ⟨L, u, ι1, m, h1, h2, h3, h4, h5, h6, -⟩ := opens_slice Try.underlying32 (by kernel_rfl) (by decide) El.cells_len (fun l m a h => ⟨CkIs.app h.1 m, h.2⟩) (opens_chunk hd) hd hr y3
  exact ⟨⟨a0, a1, a2, L, u⟩, ι1, m, h1, h2, by simp (dsimp := false) [PEl.cells, RelVs, RelV, h3], ⟨h4, fun e he => (h5 e he).1⟩, fun e he => (h5 e he).2, h6, w2⟩
set_option maxRecDepth 100000 in
theorem open_packets {r : Reach} {base : Nat} {v : Value} {d : DataW X} {ps : List MemPlace} (hval : Value.okWide Try.prog W r base 63 v) (h : DataW.Trod enc Try.prog W 0 (fun _ => true) true 63 v d ps) :
    ∃ (L : List PEl) (u : V) (ι : Map) (m : List Blk), Rel ι W.heap.size ⟨m, []⟩ W ∧ RelV ι ⟨m, []⟩ u v ∧ PksIs ⟨m, []⟩ L u ∧ (∀ p ∈ L, p.wide) ∧ L.length ≤ maxLen := by
  have hok : Cell.okWide Try.prog W r base 63 v := by
    unfold Value.okWide at hval
    rw [Try.underlying63] at hval
    exact hval
  obtain ⟨fuel, h⟩ := h
  rcases block_of Try.underlying63 hok with rfl | hd
  · exact ⟨[], .nils, _, [], rel0 W, by simp (dsimp := false) [RelV], ⟨Sl.nil _ 4, by simp⟩, by simp, by simp⟩
  · have hcl : v.cells.toList = [v] := by
      cases v with
      | agg cs =>
        unfold Cell.okWide at hok
        rw [Try.underlying63] at hok
        simp only at hok
        unfold Cell.ok at hok
        rw [Try.underlying63] at hok
        cases hok
      | _ => rfl
    rw [hcl] at h
    obtain ⟨L, u, ι, m, h1, -, h3, h4, h5, h6, -⟩ := opens_slice Try.underlying63 (by kernel_rfl) (by decide) PEl.cells_len (fun l m a h => ⟨CksIs.app h.1 m, h.2⟩) (opens_pel hd) hd (rel0 W) h
    rw [List.nil_append] at h1 h3 h4 h5
    exact ⟨L, u, ι, m, h1, h3, ⟨h4, fun e he => (h5 e he).1⟩, fun e he => (h5 e he).2, h6⟩
end Go.Proofs.Ytbncfiijlnakkaa
end
