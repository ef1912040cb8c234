/- Part 5 of the library and the walks that the law's proof stands on: no condition. -/
import Derived.Test.YtklbbjfbcibghaaGreatHlD
import Derived.Test.YtklbbjfbcibghaaGreatHlC
import Derived.ChangeArms
import Derived.DataReads
import Derived.Test.YtklbbjfbcibghaaGreatHlB
section
namespace Go.Proofs.YtklbbjfbcibghaaGreat
open Go.Hl
set_option maxHeartbeats 2000000
variable {C : CallT}
def getGo : Nat → RS → List Ck → RS × List Ck
  | 0, r, out => (r, out)
  | k + 1, r, out => if 0 < r.left then if out.length = 20 then (r.fail 5, out) else getGo k (tkChunk r).1 (out ++ [(tkChunk r).2]) else (r, out)
/-- A packet: ports, the tag, chunks. -/
structure Pk where
  f : Int
  t : Int
  tag : Int
  l : List Ck
def pk0 : Pk := ⟨0, 0, 0, []⟩
def Pk.ok (p : Pk) : Bool := togetherP p.f p.t p.tag p.l
/-- The packet that bytes say; the error. -/
def getP (s : Bs) : Pk × Int :=
  if 1400 < s.length then (pk0, 5) else if s.length < 12 then (pk0, 2) else if sealL s 8 ≠ s then (pk0, 70) else
  let r1 := (⟨s, 0⟩ : RS).tk 2
  let r2 := r1.tk 2
  let x := getGo 21 ((r2.tk 4).tk 4) []
  let p : Pk := ⟨((⟨s, 0⟩ : RS).num 2 : Nat), (r1.num 2 : Nat), (r2.num 4 : Nat), x.2⟩
  if x.1.e ≠ 0 then (pk0, x.1.e) else if p.ok = false then (pk0, 3) else (p, 0)
/-- A packet in memory. -/
def PkIs (h : H) (p : Pk) (u : V) : Prop := ∃ v l, u = .agg [.int .i64 p.f, .int .i64 p.t, .int .u32 p.tag, v] ∧ CksIs h l v ∧ l.map El.c = p.l
def GetPost (h : H) (s : Bs) (x : V × H) : Prop := ∃ u, x.1 = .tup [u, .int .i64 (getP s).2] ∧ Ext h x.2 ∧ PkIs x.2 (getP s).1 u
/-- Chunks in memory, none of which is in the first blocks. -/
structure CksHi (n : Nat) (h : H) (l : List El) (v : V) : Prop where
  is : CksIs h l v
  own : OwnF n h 15 l.length v
  el : ∀ e ∈ l, ∀ u ∈ [e.vp, e.vc, e.vg, e.vd], Hi n u
theorem CksHi.pre {p p' m : List Blk} {es es' : List (Nat × Nat)} {l : List El} {v : V} (hp : p'.length = p.length) (hS : CksHi p.length ⟨p ++ m, es⟩ l v) : CksHi p.length ⟨p' ++ m, es'⟩ l v := by
  obtain ⟨h1, h2⟩ := SlOwn_swap (es' := es') hp hS.is.sl hS.own
  rw [hp] at h2
  exact ⟨⟨h1, fun e he => CkIs.pre hp (hS.is.el e he) (hS.el e he)⟩, h2, hS.el⟩
theorem CksHi.app {n : Nat} {l : List Blk} {es es' : List (Nat × Nat)} {L : List El} {v : V} (s : CksHi n ⟨l, es⟩ L v) (m : List Blk) : CksHi n ⟨l ++ m, es'⟩ L v := ⟨s.is.app m, s.own.app, s.el⟩
theorem CksHi.nil (n : Nat) (h : H) : CksHi n h [] .nils := ⟨⟨Sl.nil h 15, by simp⟩, OwnF.nil n h 15, by simp⟩
/-- One chunk more. -/
theorem CksHi.snoc {pre m : List Blk} {es : List (Nat × Nat)} {l : List El} {v : V} {e : El} (hS : CksHi pre.length ⟨pre ++ m, es⟩ l v) (he : e.ok ⟨pre ++ m, es⟩) (hH : ∀ u ∈ [e.vp, e.vc, e.vg, e.vd], Hi pre.length u) (hl : l.length ≤ 1000) (j : Nat) (hj : j = pre.length + m.length) :
    ∃ v' m' es', appendV 15 184 ⟨pre ++ (m ++ [⟨e.cells, 0, 0, false⟩]), es⟩ v (.sl j 0 1 0 15 false) = some (v', ⟨pre ++ m', es ++ es'⟩) ∧ (∀ x ∈ es', pre.length ≤ x.1) ∧ CksHi pre.length ⟨pre ++ m', es ++ es'⟩ (l ++ [e]) v' ∧ v' ≠ .nils := by
  have hok : e.cells.all V.cellOk = true := by
    have := CkIs.facts he
    simp (dsimp := false) [El.cells, Ck.cells, this]
  obtain ⟨v', m', es', h1, h2, h3, h4, h5, -, h7⟩ := append_new (eb := 184) (ys := e.cells) hS.is.sl hS.own rfl (by decide) hok (by omega) (by omega) j hj
  refine ⟨v', m', es', h1, h4, ⟨⟨?_, ?_⟩, ?_, ?_⟩, h7⟩
  · rw [List.length_append, List.flatMap_append, List.flatMap_singleton]
    exact h2
  · intro x hx
    rcases List.mem_append.1 hx with hx | hx
    · exact CkIs.keep (hS.is.el x hx) h5
    · rw [List.mem_singleton.1 hx]
      exact CkIs.keep he h5
  · rw [List.length_append]
    exact h3
  · intro x hx
    rcases List.mem_append.1 hx with hx | hx
    · exact hS.el x hx
    · rw [List.mem_singleton.1 hx]
      exact hH
theorem cks_leave {h : H} {m : List Blk} {es : List (Nat × Nat)} {l : List El} {u v : V} (hs : CksIs ⟨h.blks ++ m, es⟩ l v) (hi : Hi h.blks.length v) (hu : V.under h.blks.length u = true → V.under h.blks.length v = true) : CksIs (leave h ⟨h.blks ++ m, es⟩ u) l v := by
  rcases leave_cases (h := h) (m := m) (es := es) (v := u) with hl | ⟨hv, hl⟩
  · rw [hl]
    exact hs.blks rfl
  · rw [hl]
    have h1 := hu hv
    rcases hs.sl with ⟨rfl, h0, -⟩ | ⟨b, off, ver, lim, k, rfl, -⟩
    · rw [List.length_eq_zero_iff.1 h0]
      exact ⟨Sl.nil _ 15, by simp⟩
    · have h2 := hi _ _ _ _ _ _ rfl
      simp at h1
      omega
theorem Hi_cut {n : Nat} {v : V} (h : Hi n v) (hn : v ≠ .nils) (hs : ∃ h z n cs, Sl h z n cs v) : V.under n v = false := by
  obtain ⟨h', z, k, cs, hs⟩ := hs
  rcases hs with ⟨rfl, -⟩ | ⟨b, off, ver, lim, x, rfl, -⟩
  · exact absurd rfl hn
  · have := h _ _ _ _ _ _ rfl
    simp
    omega
theorem getPost0 {h : H} {s : Bs} {e : Int} (hg : getP s = (pk0, e)) : GetPost h s (.tup [.agg [.int .i64 0, .int .i64 0, .int .u32 0, .nils], .int .i64 e], h) := by
  refine ⟨.agg [.int .i64 0, .int .i64 0, .int .u32 0, .nils], ?_, Ext.refl h, .nils, [], ?_, ⟨Sl.nil h 15, by simp⟩, ?_⟩
  · rw [hg]
  · rw [hg]
    rfl
  · rw [hg]
    rfl
theorem getPostE {h : H} {s : Bs} {e : Int} {m : List Blk} {es : List (Nat × Nat)} (hg : getP s = (pk0, e)) (hes : ∀ y ∈ es, h.blks.length ≤ y.1) :
    GetPost h s (.tup [.agg [.int .i64 0, .int .i64 0, .int .u32 0, .nils], .int .i64 e], leave h ⟨h.blks ++ m, es⟩ (.tup [.agg [.int .i64 0, .int .i64 0, .int .u32 0, .nils], .int .i64 e])) := by
  refine ⟨.agg [.int .i64 0, .int .i64 0, .int .u32 0, .nils], ?_, leave_ext hes, .nils, [], ?_, ⟨Sl.nil _ 15, by simp⟩, ?_⟩
  · rw [hg]
  · rw [hg]
    rfl
  · rw [hg]
    rfl
attribute [local irreducible] RS.num RS.tk numB tkChunk
theorem packet_Get {h : H} (s : Bs) (hs : s.length ≤ 4000000000000000000) : Ok (Does Tryz.prog C 32 [.str s] h) (GetPost h s) := by
  refine Does_wp (n := 60) (rs := [.cell 2 35, .tmp 3]) Tryz.func32 (by kernel_rfl) rfl rfl rfl (by simp) fun σ hg => ?_
  have i1 : (1400 < (s.length : Int)) = (1400 < s.length) := propext (by omega)
  have i2 : ((s.length : Int) < 12) = (s.length < 12) := propext (by omega)
  by_cases c1 : 1400 < s.length
  · simp (dsimp := false) [hg, splice, i1, c1]
    exact getPost0 (by rw [getP, if_pos c1])
  by_cases c2 : s.length < 12
  · simp (dsimp := false) [hg, splice, i1, i2, c1, c2]
    exact getPost0 (by rw [getP, if_neg c1, if_pos c2])
  have hS : ∀ h, Does Tryz.prog C 67 [.str s, .int .i64 8] h = some (.bool (decide (sealL s 8 = s)), h) := fun h => crcc_Sealed (C := C) s 8 h (by omega) (by omega)
  by_cases c3 : sealL s 8 ≠ s
  · simp (dsimp := false) [hg, splice, i1, i2, c1, c2, hS, c3]
    exact getPost0 (by rw [getP, if_neg c1, if_neg c2, if_pos c3])
  have hG : getP s = getP s := rfl
  conv at hG => rhs; unfold getP
  rw [if_neg c1, if_neg c2, if_neg c3] at hG
  replace c3 : sealL s 8 = s := Classical.byContradiction c3
  simp only at hG
  simp (dsimp := false) [hg, splice, i1, i2, c1, c2, hS, c3]
  generalize RS.num 2 ⟨s, 0⟩ = f at *
  generalize RS.num 2 (RS.tk 2 ⟨s, 0⟩) = t at *
  generalize RS.num 4 (RS.tk 2 (RS.tk 2 ⟨s, 0⟩)) = tag at *
  generalize RS.tk 4 (RS.tk 4 (RS.tk 2 (RS.tk 2 ⟨s, 0⟩))) = r0 at *
  generalize hX : getGo 21 r0 [] = X at *
  refine W_loopM (fun k σ h' => ∃ r l v m es, k = 21 - l.length ∧ l.length ≤ 20 ∧ h' = ⟨h.blks ++ (⟨[.int .i64 0, .int .i64 0, .int .u32 0, .nils], 0, 0, false⟩ :: RS.blk r :: ⟨[.int .i64 f, .int .i64 t, .int .u32 tag, v], 0, 0, false⟩ :: m), es⟩ ∧
    σ 2 = .ptr h.blks.length 0 0 4 ∧ σ 4 = .ptr (h.blks.length + 1) 0 0 2 ∧ σ 5 = .ptr (h.blks.length + 2) 0 0 4 ∧ CksHi (h.blks.length + 3) h' l v ∧ (∀ y ∈ es, h.blks.length ≤ y.1) ∧ getGo (21 - l.length) r (l.map El.c) = X) ?_ 21 _ _ ?_
  · rintro _ σ _ ⟨r, l, v, m, es, rfl, hl, rfl, h2, h4, h5, hC, he, hgo⟩
    have hlen := hC.is.sl.len Tryz.underlying33
    have hf := hC.is.sl.facts
    simp at hf
    rw [show 21 - l.length = (20 - l.length) + 1 by omega, getGo] at hgo
    by_cases c4 : 0 < r.left
    · rw [if_pos c4] at hgo
      by_cases c5 : l.length = 20
      · have c5' : (l.map El.c).length = 20 := by simpa using c5
        rw [if_pos c5'] at hgo
        have hr0 : r.e = 0 := Classical.byContradiction fun h => by
          simp (dsimp := false) [RS.left, leftN, h] at c4
        have hfe : (r.fail 5).e = 5 := by simp (dsimp := false) [RS.fail, failE, hr0]
        rw [← hgo] at hG
        simp only [hfe, ne_eq] at hG
        rw [if_pos (by decide)] at hG
        simp (dsimp := false) [h2, h4, h5, c4, c5, hlen, hfe, splice]
        exact getPostE hG he
      · have c5' : ¬ (l.map El.c).length = 20 := by simpa using c5
        have c5i : ¬ ((l.length : Int) = 20) := by omega
        rw [if_neg c5'] at hgo
        obtain ⟨x, hx, vp, vc, vg, vd, m', es', rfl, he', hS, hH⟩ := chunk_Take (C := C) (l := h.blks ++ (⟨[.int .i64 0, .int .i64 0, .int .u32 0, .nils], 0, 0, false⟩ :: RS.blk r :: ⟨[.int .i64 f, .int .i64 t, .int .u32 tag, v], 0, 0, false⟩ :: m)) (es := es) (b := h.blks.length + 1) (r := r) (by simp)
        simp at hx hS hH he'
        unfold Ck.cells at hx
        have hf2 := hS.facts
        have hpre : (h.blks ++ [⟨[.int .i64 0, .int .i64 0, .int .u32 0, .nils], 0, 0, false⟩, RS.blk (tkChunk r).1, (⟨[.int .i64 f, .int .i64 t, .int .u32 tag, v], 0, 0, false⟩ : Blk)]).length = h.blks.length + 3 := by simp
        have hC' : CksHi (h.blks ++ [⟨[.int .i64 0, .int .i64 0, .int .u32 0, .nils], 0, 0, false⟩, RS.blk (tkChunk r).1, (⟨[.int .i64 f, .int .i64 t, .int .u32 tag, v], 0, 0, false⟩ : Blk)]).length
            ⟨(h.blks ++ [⟨[.int .i64 0, .int .i64 0, .int .u32 0, .nils], 0, 0, false⟩, RS.blk (tkChunk r).1, (⟨[.int .i64 f, .int .i64 t, .int .u32 tag, v], 0, 0, false⟩ : Blk)]) ++ (m ++ m'), es ++ es'⟩ l v := by
          have h1 := CksHi.pre (p := h.blks ++ [⟨[.int .i64 0, .int .i64 0, .int .u32 0, .nils], 0, 0, false⟩, RS.blk r, (⟨[.int .i64 f, .int .i64 t, .int .u32 tag, v], 0, 0, false⟩ : Blk)])
            (p' := h.blks ++ [⟨[.int .i64 0, .int .i64 0, .int .u32 0, .nils], 0, 0, false⟩, RS.blk (tkChunk r).1, (⟨[.int .i64 f, .int .i64 t, .int .u32 tag, v], 0, 0, false⟩ : Blk)]) (m := m) (es := es) (es' := es) (l := l) (v := v) (by simp)
            (by simpa using hC)
          have h2 := h1.app (es' := es ++ es') m'
          simpa using h2
        obtain ⟨v', m'', es'', ha, he'', hC'', hne⟩ := CksHi.snoc (e := ⟨(tkChunk r).2, vp, vc, vg, vd⟩) hC' (by simpa [El.ok] using hS)
          (by
            intro u hu
            simp only [List.mem_cons, List.not_mem_nil, or_false] at hu
            rw [hpre]
            rcases hu with rfl | rfl | rfl | rfl
            · exact hH.1.le (by omega)
            · exact hH.2.1.le (by omega)
            · exact hH.2.2.1.le (by omega)
            · exact hH.2.2.2.le (by omega)) (by omega) (h.blks.length + (m.length + m'.length + 1 + 1 + 1)) (by simp; omega)
        simp (dsimp := false) [El.cells, Ck.cells] at ha
        have hv' := hC''.is.sl.facts
        simp at hv'
        simp (dsimp := false) [h4, h5, c4, c5i, hlen]
        refine (W_anyF (F := [(1, 3), (1, 4)]) (by kernel_rfl)).2 ?_
        simp (dsimp := false) [h2, h4, h5, hx, hf2, splice, ha, hv']
        refine ⟨20 - l.length, by omega, (tkChunk r).1, l ++ [⟨(tkChunk r).2, vp, vc, vg, vd⟩], by simp, by simp; omega, v', m'', _, ⟨⟨rfl, rfl, rfl⟩, rfl⟩, ?_, ?_, ?_⟩
        · have h1 := CksHi.pre (p' := h.blks ++ [⟨[.int .i64 0, .int .i64 0, .int .u32 0, .nils], 0, 0, false⟩, RS.blk (tkChunk r).1, (⟨[.int .i64 f, .int .i64 t, .int .u32 tag, v'], 0, 0, false⟩ : Blk)]) (es' := es ++ (es' ++ (es'' ++ List.map (fun r => (h.blks.length + 2, r)) (V.upto (h.blks.length + 2) v')))) (by simp) hC''
          simpa using h1
        · intro a b hab
          simp only [List.mem_append, List.mem_map] at hab
          rcases hab with hab | hab | hab | ⟨_, -, hab⟩
          · exact he _ hab
          · have := he' a b hab
            omega
          · have := he'' _ hab
            simp at this
            omega
          · injection hab with h1 h2
            omega
        · rw [show 21 - (l ++ [(⟨(tkChunk r).2, vp, vc, vg, vd⟩ : El)]).length = 20 - l.length by simp, List.map_append]
          exact hgo
    · rw [if_neg c4] at hgo
      rw [← hgo] at hG
      simp only [ne_eq] at hG
      by_cases c5 : r.e = 0
      · rw [if_neg (fun h => h c5)] at hG
        have hto := packet_together (C := C) (f := f) (t := t) (tag := tag) hC.is (by omega)
        cases c6 : togetherP f t tag (l.map El.c)
        · rw [if_pos (by exact c6)] at hG
          simp (dsimp := false) [h2, h4, h5, c4, c5, splice, hto, c6]
          exact getPostE hG he
        · rw [if_neg (by rw [Pk.ok, c6]; simp)] at hG
          simp (dsimp := false) [h2, h4, h5, c4, c5, splice, hto, c6, hf]
          have hC2 := CksHi.pre (p := h.blks ++ [⟨[.int .i64 0, .int .i64 0, .int .u32 0, .nils], 0, 0, false⟩, RS.blk r, (⟨[.int .i64 f, .int .i64 t, .int .u32 tag, v], 0, 0, false⟩ : Blk)])
            (p' := h.blks ++ [⟨[.int .i64 f, .int .i64 t, .int .u32 tag, v], 0, 0, false⟩, RS.blk r, (⟨[.int .i64 f, .int .i64 t, .int .u32 tag, v], 0, 0, false⟩ : Blk)]) (m := m) (es := es) (es' := es ++ List.map (fun r => (h.blks.length, r)) (V.upto h.blks.length v)) (l := l) (v := v) (by simp) (by simpa using hC)
          refine ⟨_, by rw [hG], leave_ext ?_, v, l, by rw [hG], ?_, by rw [hG]⟩
          · intro y hy
            rcases List.mem_append.1 hy with hy | hy
            · exact he y hy
            · obtain ⟨_, -, rfl⟩ := List.mem_map.1 hy
              exact Nat.le_refl _
          · refine cks_leave (by simpa using hC2.is) (hC.own.hi.le (by omega)) (fun h => by simpa using h)
      · rw [if_pos c5] at hG
        simp (dsimp := false) [h2, h4, c4, c5, splice]
        exact getPostE hG he
  · refine ⟨r0, [], .nils, [], [], by simp (dsimp := false) [CksHi.nil, hX]⟩
end Go.Proofs.YtklbbjfbcibghaaGreat
end
section
namespace Go.Proofs.YtklbbjfbcibghaaGreat
open Go.Hl
set_option maxHeartbeats 4000000
variable {C : CallT}
section
variable {h : H}
theorem rdoc_Mirrored {l : List El} {v : V} {f t tag : Int} (hs : CksIs h l v) : Does Tryz.prog C 54 [.agg [.int .i64 f, .int .i64 t, .int .u32 tag, v]] h = some (.bool (mirroredP (l.map El.c)), h) := by
  have hlen := hs.sl.len Tryz.underlying33
  have hf := hs.sl.facts
  refine Does_eq (n := 32) (rs := [.tmp 2]) Tryz.func54 (by kernel_rfl) rfl rfl rfl (by simp) fun σ hg => ?_
  cases l with
  | nil => 
    simp at hlen
    simp (dsimp := false) [hg, hlen, hf, mirroredP]
  | cons e l =>
    obtain ⟨p, pf, hia, -, hfa, hrf⟩ := (hs.sl.blks (h' := ⟨h.blks, []⟩) rfl).atF El.cells_len
    have hi0 := hia 0 (by simp)
    have hf0 := hfa 0 (by simp)
    have hx := fun m => hrf 0 (by simp) 0 (by decide) _ (Ext.app (l := h.blks) (m := m))
    have hy := fun m => hrf 0 (by simp) 1 (by decide) _ (Ext.app (l := h.blks) (m := m))
    simp only [List.getElem_cons_zero, El.cells, Ck.cells] at hx hy
    simp at hlen hi0 hx hy
    have hne : ¬ ((l.length : Int) + 1 = 0) := by omega
    have ho : bitsOp .and .i64 e.c.flags 1 = some (e.c.flags % 2) := and_1 _
    have hz : (e.c.flags % 2 = 1) = (¬ e.c.flags % 2 = 0) := propext (by omega)
    by_cases a : e.c.typ = 6
    · simp (dsimp := false) [hg, hlen, hf, mirroredP, hne, hi0, hf0, hx, hy, a, ho, hz]
    by_cases b : e.c.typ = 9
    · simp (dsimp := false) [hg, hlen, hf, mirroredP, hne, hi0, hf0, hx, hy, b, ho, hz]
    by_cases c : e.c.typ = 14
    · simp (dsimp := false) [hg, hlen, hf, mirroredP, hne, hi0, hf0, hx, hy, c, ho, hz]
    · simp (dsimp := false) [hg, hlen, hf, mirroredP, hne, hi0, hf0, hx, a, b, c]
theorem rdoc_First {l : List El} {v : V} {f t tag ty : Int} (hs : CksIs h l v) (hl : l.length ≤ 1000000) :
    Does Tryz.prog C 52 [.agg [.int .i64 f, .int .i64 t, .int .u32 tag, v], .int .i64 ty] h = some (.tup [.agg (firstE l ty).cells, .bool (hasE l ty)], h) := by
  have hlen := hs.sl.len Tryz.underlying33
  have hf := hs.sl.facts
  obtain ⟨p, pf, hia, hrd, hfa, hrf⟩ := (hs.sl.blks (h' := ⟨h.blks, []⟩) rfl).atF El.cells_len
  refine Does_eq (n := 28) (rs := [.cell 4 32, .tmp 5]) Tryz.func52 (by kernel_rfl) rfl rfl rfl (by simp) fun σ hg => ?_
  simp (dsimp := false) [hg, hf]
  refine W_loopM (fun k σ h' => ∃ i : Nat, ∃ m, k = l.length - i ∧ i ≤ l.length ∧ h' = ⟨h.blks ++ (⟨[.int .i64 f, .int .i64 t, .int .u32 tag, v], 0, 0, false⟩ :: ⟨ck0.cells .nils .nils .nils .nils, 0, 0, false⟩ :: m), []⟩ ∧
    σ 1 = .int .i64 ty ∧ σ 2 = .ptr h.blks.length 0 0 4 ∧ σ 4 = .ptr (h.blks.length + 1) 0 0 15 ∧ σ 6 = .int .i64 i ∧ firstE l ty = firstE (l.drop i) ty ∧ (hasE l ty) = hasE (l.drop i) ty) ?_ l.length _ _ ?_
  · rintro _ σ _ ⟨i, m, rfl, hi, rfl, h1, h2, h4, h6, hF, hA⟩
    simp (dsimp := false) [h2, h4, h6, hlen, ck0, Ck.cells, splice]
    split
    · rename_i hlt
      have hr0 := fun m => hrd i hlt _ (Ext.app (l := h.blks) (m := m))
      have hx := fun m => hrf i hlt 0 (by decide) _ (Ext.app (l := h.blks) (m := m))
      have hf0 := hfa i hlt
      have hef := (hs.el l[i] (List.getElem_mem hlt)).facts
      simp only [El.cells, Ck.cells] at hr0 hx
      simp at hx
      rw [List.drop_eq_getElem_cons hlt] at hF hA
      by_cases a : l[i].c.typ = ty
      · have hF' : firstE l ty = l[i] := by rw [hF, firstE, if_pos a]
        have hA' : (hasE l ty) = true := by rw [hA, hasE, if_pos a]
        rw [hF', hA']
        simp (dsimp := false) [h1, h2, h4, h6, hia i hlt, hr0, hx, hf0, splice, hef, a, El.cells, Ck.cells]
      · have hF' : firstE l ty = firstE (l.drop (i + 1)) ty := by rw [hF, firstE, if_neg a]
        have hA' : (hasE l ty) = hasE (l.drop (i + 1)) ty := by rw [hA, hasE, if_neg a]
        simp (dsimp := false) [h1, h2, h4, h6, hia i hlt, hx, hf0, a, wrap_succ hlt (by omega)]
        exact ⟨_, by omega, i + 1, rfl, by omega, rfl, by simp, hF', hA'⟩
    · obtain rfl : i = l.length := by omega
      have hF' : firstE l ty = el0 := by rw [hF]; simp (dsimp := false) [firstE]
      have hA' : (hasE l ty) = false := by rw [hA]; simp (dsimp := false) [hasE]
      rw [hF', hA']
      simp (dsimp := false) [ck0, Ck.cells, El.cells, el0]
  · exact ⟨0, [], by simp (dsimp := false) [ck0, Ck.cells, hg]⟩
end
end Go.Proofs.YtklbbjfbcibghaaGreat
end
section
namespace Go.Proofs.YtklbbjfbcibghaaGreat
open Go.Hl
set_option maxHeartbeats 4000000
def qPut (c : Ck) : Bs := if qMay c then filled (b8 c.typ :: b8 c.flags :: (be2 (c.body.length + 4) ++ c.body)) else []
def qPutGo (s : Bs) : List Ck → Option Bs
  | [] => some s
  | c :: l => if qPut c = [] then none else qPutGo (s ++ qPut c) l
def qPutP (f t tag : Int) (l : List Ck) : Bs := if togetherP f t tag l = false then [] else match qPutGo (headB f t tag) l with
  | some s => if 1400 < s.length then [] else sealL s 8
  | none => []
theorem qPutGo_drop {l : List Ck} {i : Nat} {s : Bs} (h : i < l.length) : qPutGo s (l.drop i) = if qPut l[i] = [] then none else qPutGo (s ++ qPut l[i]) (l.drop (i + 1)) := by
  rw [List.drop_eq_getElem_cons h, qPutGo]
theorem qPut_lt {c : Ck} (hl : CkSmall c) : (qPut c).length ≤ 2000000100 := by
  have := body_lt hl
  unfold qPut
  split
  · simp (dsimp := false) [filled_len, be2_len, padN]
    omega
  · simp
section
variable {C : CallT} {h : H}
theorem rdoc_seal (s : Bs) (h : H) (hk : 12 ≤ s.length) (hs : s.length < 4611686018427387904) : Does Tryz.prog C 31 [.str s] h = some (.str (sealL s 8), h) := by
  have hzl := zed_len (s := s) (k := 8) (by omega)
  have ho := fun h => rdoc_Of (C := C) (zed s 8) h (by omega)
  have hz : s.take 8 ++ (0 :: 0 :: 0 :: 0 :: s.drop 12) = zed s 8 := by simp (dsimp := false) [zed]
  have b2 : (8 : Int) ≤ (s.length : Int) := by omega
  have b3 : (12 : Int) ≤ (s.length : Int) := by omega
  have b1 : s.length ≤ 9223372036854775807 := by omega
  unfold sealL
  generalize crcL (zed s 8) = c at *
  have s8 : ∀ Q, Ok (shiftOp .shr .u32 (c : Int) 8) Q ↔ Q (.int .u32 ((c / 256 : Nat) : Int)) := fun Q => ok_shr (y := 8)
  have s16 : ∀ Q, Ok (shiftOp .shr .u32 (c : Int) 16) Q ↔ Q (.int .u32 ((c / 65536 : Nat) : Int)) := fun Q => ok_shr (y := 16)
  have s24 : ∀ Q, Ok (shiftOp .shr .u32 (c : Int) 24) Q ↔ Q (.int .u32 ((c / 16777216 : Nat) : Int)) := fun Q => ok_shr (y := 24)
  refine Does_eq (n := 32) (rs := [.tmp 2]) Tryz.func31 (by kernel_rfl) rfl rfl rfl (by simp) fun σ hg => ?_
  refine W_seq.2 ?_
  simp
  refine (W_anyL (by kernel_rfl) (by kernel_rfl)).2 ?_
  have m1 : (min 8 (List.length s) ≤ 9223372036854775803) = True := eq_true (by omega)
  have m2 : (min 8 (List.length s) + 4 + (List.length s - 12) ≤ 9223372036854775807) = True := eq_true (by omega)
  simp (dsimp := false) [hg, b2, b3, m1, m2, hz, ho]
  refine (W_anyL (by kernel_rfl) (by kernel_rfl)).2 ?_
  simp (dsimp := false) [-List.all_eq_true, splice, hg, b2, b3, m1, m2, b8_wrap, fdiv_pos]
  have e : ∀ n : Nat, b8 (n : Int) = UInt8.ofNat n := fun n => by
    unfold b8
    apply UInt8.toNat_inj.1
    simp
    omega
  have q1 : (c : Int) / 256 = ((c / 256 : Nat) : Int) := by omega
  have q2 : (c : Int) / 65536 = ((c / 65536 : Nat) : Int) := by omega
  have q3 : (c : Int) / 16777216 = ((c / 16777216 : Nat) : Int) := by omega
  rw [q1, q2, q3, e, e, e, e]
  rfl
theorem rdoc7_May {l : List El} {v : V} {f t tag : Int} (hs : CksIs h l v) (hl : l.length ≤ 1000000) :
    Does Tryz.prog C 28 [.agg [.int .i64 f, .int .i64 t, .int .u32 tag, v]] h = some (.bool (togetherP f t tag (l.map El.c)), h) := by
  have hlen := hs.sl.len Tryz.underlying33
  have hf := hs.sl.facts
  have hs' := hs.blks (h' := ⟨h.blks, []⟩) rfl
  obtain ⟨p, pf, hia, hrd, hfa, hrf⟩ := hs'.sl.atF El.cells_len
  refine Does_eq (n := 74) (rs := [.tmp 2]) Tryz.func28 (by kernel_rfl) rfl rfl rfl (by simp) fun σ hg => ?_
  have h20 : (20 < (l.length : Int)) = (20 < l.length) := propext (by omega)
  by_cases hl0 : l.length = 0
  · have hne : l = [] := List.length_eq_zero_iff.1 hl0
    simp (dsimp := false) [-run_groupK, run_join, hg, hlen, hf, hl0]
    rw [togetherP, if_pos (by simp only [List.length_map]; omega)]
  have hl1 : ((l.length : Int) < 1) = False := eq_false (by omega)
  simp (dsimp := false) [-run_groupK, run_join, hg, hlen, hf, h20, hl1]
  split
  · rename_i c1
    rw [togetherP, if_pos (by simp only [List.length_map]; omega)]
  · rename_i c1
    have c1' : ¬ (f < 1 ∨ 65536 ≤ f ∨ t < 1 ∨ 65536 ≤ t ∨ (l.map El.c).length = 0 ∨ 20 < (l.map El.c).length) := by simp only [List.length_map]; omega
    refine W_loopM (fun k σ h' => ∃ i : Nat, ∃ m, k = l.length - i ∧ i ≤ l.length ∧ h' = ⟨h.blks ++ (⟨[.int .i64 f, .int .i64 t, .int .u32 tag, v], 0, 0, false⟩ :: m), []⟩ ∧
      σ 1 = .ptr h.blks.length 0 0 4 ∧ σ 3 = .int .i64 i ∧ ((anyAlone (l.map El.c) = true ∧ 1 < l.length) ↔ (anyAlone ((l.map El.c).drop i) = true ∧ 1 < l.length))) ?_ l.length _ _ ?_
    · rintro _ σ _ ⟨i, m, rfl, hi, rfl, h1, h3, hA⟩
      simp (dsimp := false) [h1, h3, hlen]
      split
      · rename_i hlt
        have hx := fun m => hrf i hlt 0 (by decide) _ (Ext.app (l := h.blks) (m := m))
        have hf0 := hfa i hlt
        simp only [El.cells, Ck.cells] at hx
        simp at hx
        have hd := anyAlone_drop (l := l.map El.c) (i := i) (by simpa using hlt)
        rw [List.getElem_map] at hd
        have hal : aloneT l[i].c.typ = true ↔ ((l[i].c.typ = 1 ∨ l[i].c.typ = 2) ∨ l[i].c.typ = 14) := by simp (dsimp := false) [aloneT, or_assoc]
        simp (dsimp := false) [-run_groupK, run_join, h1, h3, hia i hlt, hx, hf0, hlen, wrap_succ hlt (by omega)]
        split
        · rename_i c2
          have c3 := hal.2 (by omega)
          rw [hd, if_pos c3] at hA
          have : 1 < l.length := by omega
          rw [togetherP, if_neg c1', if_pos]
          simp only [List.length_map]
          exact hA.2 ⟨rfl, this⟩
        · rename_i c2
          refine ⟨_, by omega, i + 1, rfl, by omega, by simp, fun h1 => ?_⟩
          have ha : ¬ aloneT l[i].c.typ = true := fun h => c2 ⟨by have := hal.1 h; omega, by omega⟩
          rw [hd, if_neg ha] at hA
          simp only [h1, and_true] at hA
          rw [Bool.eq_iff_iff]
          exact hA
      · obtain rfl : i = l.length := by omega
        have hn : ¬ (anyAlone (l.map El.c) = true ∧ 1 < (l.map El.c).length) := by
          rw [List.length_map, hA]
          rw [List.drop_of_length_le (by simp)]
          simp (dsimp := false) [anyAlone]
        rw [togetherP, if_neg c1', if_neg hn]
        cases l with
        | nil => exact absurd rfl hl0
        | cons e l =>
          have hi0 := hia 0 (by simp)
          have hr := hrf 0 (by simp) 0 (by decide)
          have hq := hfa 0 (by simp)
          simp only [List.getElem_cons_zero, El.cells, Ck.cells] at hr
          simp at hi0 hr hq
          refine (W_anyF (F := []) (by kernel_rfl)).2 ?_
          simp (dsimp := false) [h1, hi0, hr _ Ext.app, hq]
    · exact ⟨0, [], by simp⟩
theorem rdoc7_Put {l : List El} {v : V} {f t tag : Int} (hs : CksIs h l v) (hl : l.length ≤ 1000000) (hm : ∀ e ∈ l, CkSmall e.c) (hwf : ∀ e ∈ l, ∀ g ∈ e.c.gaps, g.1 ≤ 9223372036854775807) :
    Does Tryz.prog putC 8 [.agg [.int .i64 f, .int .i64 t, .int .u32 tag, v]] h = some (.str (qPutP f t tag (l.map El.c)), h) := by
  have hlen := hs.sl.len Tryz.underlying33
  have hf := hs.sl.facts
  have hs' := hs.blks (h' := ⟨h.blks, []⟩) rfl
  obtain ⟨p, pf, hia, hrd, hfa, hrf⟩ := hs'.sl.atF El.cells_len
  have hto := fun m => rdoc7_May (C := putC) (f := f) (t := t) (tag := tag) (h := ⟨h.blks ++ m, []⟩) (hs'.app m) hl
  refine Does_eq (n := 47) (rs := [.tmp 2]) Tryz.func8 (by kernel_rfl) rfl rfl rfl (by simp) fun σ hg => ?_
  by_cases ht : togetherP f t tag (l.map El.c) = false
  · rw [qPutP, if_pos ht]
    simp (dsimp := false) [hg, hf, hto, ht]
  rw [qPutP, if_neg ht]
  simp only [Bool.not_eq_false] at ht
  simp (dsimp := false) [hg, hf, hto, ht]
  refine (W_anyF (F := [(5, 3), (10, 3), (10, 7)]) (by kernel_rfl)).2 ?_
  simp (dsimp := false) [rdoc_Put2, rdoc_Put4, be2_len, be4_len]
  have hh : (headB f t tag).length = 12 := rfl
  refine W_loopM (fun k σ h' => ∃ i : Nat, ∃ m, ∃ s : Bs, k = l.length - i ∧ i ≤ l.length ∧ 12 ≤ s.length ∧ s.length ≤ 12 + i * 2000000100 ∧ h' = ⟨h.blks ++ (⟨[.int .i64 f, .int .i64 t, .int .u32 tag, v], 0, 0, false⟩ :: m), []⟩ ∧ σ 1 = .ptr h.blks.length 0 0 4 ∧ σ 3 = .str s ∧ σ 4 = .int .i64 i ∧ qPutGo (headB f t tag) (l.map El.c) = qPutGo s ((l.map El.c).drop i)) ?_ l.length _ _ ?_
  · rintro _ σ _ ⟨i, m, s, rfl, hi, hs12, hs14, rfl, h1, h3, h4, hP⟩
    simp (dsimp := false) [h1, h3, h4, hlen]
    split
    · rename_i hlt
      have hr0 := fun m => hrd i hlt _ (Ext.app (l := h.blks) (m := m))
      have hmem := List.getElem_mem hlt
      have hok := hs'.el l[i] hmem
      have hef := hok.facts
      have hCP := fun m => rdoc_CPut (CkIs.app (es' := []) hok m) (hm l[i] hmem) (hwf l[i] hmem)
      have hpl := qPut_lt (hm l[i] hmem)
      have hqe : (if qMay l[i].c then filled (b8 l[i].c.typ :: b8 l[i].c.flags :: (be2 (l[i].c.body.length + 4) ++ l[i].c.body)) else []) = qPut l[i].c := rfl
      rw [hqe] at hCP
      simp only [El.cells, Ck.cells] at hr0 hCP
      rw [qPutGo_drop (by simpa using hlt), List.getElem_map] at hP
      by_cases c2 : qPut l[i].c = []
      · have c2' := eq_true c2
        rw [if_pos c2] at hP
        simp (dsimp := false) [h4, hia i hlt, hr0, hCP, c2']
        rw [hP]
      · have c2' := eq_false c2
        rw [if_neg c2] at hP
        have hll : s.length + (qPut l[i].c).length ≤ 9223372036854775807 := by omega
        simp (dsimp := false) [h1, h3, h4, hia i hlt, hr0, hCP, c2', hll, wrap_succ hlt (by omega)]
        exact ⟨_, by omega, i + 1, rfl, by omega, _, s ++ qPut l[i].c, by simp; omega, by simp; omega, rfl, by simp, rfl, hP⟩
    · obtain rfl : i = l.length := by omega
      have e : qPutGo (headB f t tag) (l.map El.c) = some s := by
        rw [hP, List.drop_of_length_le (by simp)]
        rfl
      have hS : ∀ h, Does Tryz.prog putC 31 [.str s] h = some (.str (sealL s 8), h) := fun h => rdoc_seal (C := putC) s h hs12 (by omega)
      rw [e]
      by_cases c3 : 1400 < s.length
      · have c3' := eq_true (show 1400 < (s.length : Int) by omega)
        simp (dsimp := false) [c3', c3]
      · have c3' := eq_false (show ¬ 1400 < (s.length : Int) by omega)
        simp (dsimp := false) [h3, hS, c3', c3]
  · refine ⟨0, [], headB f t tag, by simp, by simp, by omega, by omega, rfl, ?_⟩
    simp (dsimp := false) [headB]
    rfl
end
end Go.Proofs.YtklbbjfbcibghaaGreat
end
section
namespace Go.Proofs.YtklbbjfbcibghaaGreat
open Go.Hl
set_option maxHeartbeats 4000000
def qGetGo : Nat → RS → List Ck → RS × List Ck
  | 0, r, out => (r, out)
  | k + 1, r, out => if r.e = 0 ∧ 0 < r.s.length then if out.length = 20 then (qFail 5 r, out) else qGetGo k (qChunk r).1 (out ++ [(qChunk r).2]) else (r, out)
/-- The document's packet that bytes say; the error. -/
def qGetP (s : Bs) : Pk × Int :=
  if 1400 < s.length then (pk0, 5) else if s.length < 12 then (pk0, 2) else if sealL s 8 ≠ s then (pk0, 70) else
  let r1 := qTk 2 ⟨s, 0⟩
  let r2 := qTk 2 r1
  let x := qGetGo 21 (qTk 4 (qTk 4 r2)) []
  let p : Pk := ⟨(qNum 2 ⟨s, 0⟩ : Nat), (qNum 2 r1 : Nat), (qNum 4 r2 : Nat), x.2⟩
  if x.1.e ≠ 0 then (pk0, x.1.e) else if p.ok = false then (pk0, 3) else (p, 0)
def GetsP (g : Pk × Int) (h : H) (x : V × H) : Prop := ∃ u, x.1 = .tup [u, .int .i64 g.2] ∧ Ext h x.2 ∧ PkIs x.2 g.1 u
theorem getsP0 {h : H} {g : Pk × Int} {e : Int} (hg : g = (pk0, e)) : GetsP g h (.tup [.agg [.int .i64 0, .int .i64 0, .int .u32 0, .nils], .int .i64 e], h) := by
  subst hg
  exact ⟨.agg [.int .i64 0, .int .i64 0, .int .u32 0, .nils], rfl, Ext.refl h, .nils, [], rfl, ⟨Sl.nil h 15, by simp⟩, rfl⟩
theorem getsPE {h : H} {g : Pk × Int} {e : Int} {m : List Blk} {es : List (Nat × Nat)} (hg : g = (pk0, e)) (hes : ∀ y ∈ es, h.blks.length ≤ y.1) :
    GetsP g h (.tup [.agg [.int .i64 0, .int .i64 0, .int .u32 0, .nils], .int .i64 e], leave h ⟨h.blks ++ m, es⟩ (.tup [.agg [.int .i64 0, .int .i64 0, .int .u32 0, .nils], .int .i64 e])) := by
  subst hg
  exact ⟨.agg [.int .i64 0, .int .i64 0, .int .u32 0, .nils], rfl, leave_ext hes, .nils, [], rfl, ⟨Sl.nil _ 15, by simp⟩, rfl⟩
theorem qFail_le' (x : Int) (r : RS) : (qFail x r).s.length ≤ r.s.length := by
  unfold qFail
  split <;> simp
theorem qChunk_le (r : RS) : (qChunk r).1.s.length ≤ r.s.length := by
  have h3 : (qTk 2 (qTk 1 (qTk 1 r))).s.length ≤ r.s.length := Nat.le_trans (qTk_le' _ _) (Nat.le_trans (qTk_le' _ _) (qTk_le' _ _))
  unfold qChunk
  simp only
  generalize qTk 2 (qTk 1 (qTk 1 r)) = r3 at *
  have h4 : ∀ n : Int, ∀ c : Prop, ∀ [Decidable c], (qTk n (if c then qFail 3 r3 else r3)).s.length ≤ r.s.length := fun n c _ => by
    refine Nat.le_trans (qTk_le' _ _) ?_
    split
    · exact Nat.le_trans (qFail_le' _ _) h3
    · exact h3
  have h5 := h4 ((qNum 2 (qTk 1 (qTk 1 r)) : Nat) - 4) (r3.e = 0 ∧ ((qNum 2 (qTk 1 (qTk 1 r)) : Nat) : Int) < 4)
  generalize qTk ((qNum 2 (qTk 1 (qTk 1 r)) : Nat) - 4) (if r3.e = 0 ∧ ((qNum 2 (qTk 1 (qTk 1 r)) : Nat) : Int) < 4 then qFail 3 r3 else r3) = r5 at *
  have h6 := Nat.le_trans (qWhole_le ((qNum 2 (qTk 1 (qTk 1 r)) : Nat)) r5) h5
  repeat' split
  all_goals first | exact h5 | exact h6 | exact Nat.le_trans (qFail_le' _ _) h6
variable {C : CallT}
attribute [local irreducible] qNum qTk qChunk
theorem rdoc7_Get {h : H} (s : Bs) (hs : s.length ≤ 4000000000000000000) : Ok (Does Tryz.prog C 10 [.str s] h) (GetsP (qGetP s) h) := by
  have hN4 : ∀ (s : Bs) (e : Int) h, Does Tryz.prog C 46 [.agg [.str s, .int .i64 e], .int .i64 4] h = some (.tup [.agg (rc (qTk 4 ⟨s, e⟩)), .int .u64 (qNum 4 ⟨s, e⟩ : Nat)], h) := fun s e h => rdoc_Num (r := ⟨s, e⟩) (by decide)
  have hN2 : ∀ (s : Bs) (e : Int) h, Does Tryz.prog C 46 [.agg [.str s, .int .i64 e], .int .i64 2] h = some (.tup [.agg (rc (qTk 2 ⟨s, e⟩)), .int .u64 (qNum 2 ⟨s, e⟩ : Nat)], h) := fun s e h => rdoc_Num (r := ⟨s, e⟩) (by decide)
  have w2 : ∀ q : RS, IntKind.i64.wrap (qNum 2 q : Int) = (qNum 2 q : Nat) := fun q => by have := qNum2_lt' q; exact wrap_i64 (by omega) (by omega)
  have w4 : ∀ q : RS, IntKind.u32.wrap (qNum 4 q : Int) = (qNum 4 q : Nat) := fun q => wrap_u32 (qNum4_lt q)
  unfold rc at hN4 hN2
  refine Does_wp (n := 92) (rs := [.cell 2 35, .tmp 3]) Tryz.func10 (by kernel_rfl) rfl rfl rfl (by simp) fun σ hg => ?_
  have i1 : (1400 < (s.length : Int)) = (1400 < s.length) := propext (by omega)
  have i2 : ((s.length : Int) < 12) = (s.length < 12) := propext (by omega)
  by_cases c1 : 1400 < s.length
  · simp (dsimp := false) [hg, splice, i1, c1]
    exact getsP0 (by rw [qGetP, if_pos c1])
  by_cases c2 : s.length < 12
  · simp (dsimp := false) [hg, splice, i1, i2, c1, c2]
    exact getsP0 (by rw [qGetP, if_neg c1, if_pos c2])
  have hS : ∀ h, Does Tryz.prog C 31 [.str s] h = some (.str (sealL s 8), h) := fun h => rdoc_seal (C := C) s h (by omega) (by omega)
  by_cases c3 : sealL s 8 ≠ s
  · simp (dsimp := false) [hg, splice, i1, i2, c1, c2, hS, c3]
    exact getsP0 (by rw [qGetP, if_neg c1, if_neg c2, if_pos c3])
  have hG : qGetP s = qGetP s := rfl
  conv at hG => rhs; unfold qGetP
  rw [if_neg c1, if_neg c2, if_neg c3] at hG
  replace c3 : sealL s 8 = s := Classical.byContradiction c3
  simp only at hG
  simp (dsimp := false) [hg, splice, i1, i2, c1, c2, hS, c3, hN2, hN4, RS_eta, w2, w4]
  have hrl : (qTk 4 (qTk 4 (qTk 2 (qTk 2 ⟨s, 0⟩)))).s.length ≤ 4000000000000000000 := Nat.le_trans (qTk_le' _ _) (Nat.le_trans (qTk_le' _ _) (Nat.le_trans (qTk_le' _ _) (Nat.le_trans (qTk_le' _ _) hs)))
  generalize qNum 2 ⟨s, 0⟩ = f at *
  generalize qNum 2 (qTk 2 ⟨s, 0⟩) = t at *
  generalize qNum 4 (qTk 2 (qTk 2 ⟨s, 0⟩)) = tag at *
  generalize qTk 4 (qTk 4 (qTk 2 (qTk 2 ⟨s, 0⟩))) = r0 at *
  generalize hX : qGetGo 21 r0 [] = X at *
  refine W_loopM (fun k σ h' => ∃ r l v m es, k = 21 - l.length ∧ l.length ≤ 20 ∧ r.s.length ≤ 4000000000000000000 ∧ h' = ⟨h.blks ++ (⟨[.int .i64 0, .int .i64 0, .int .u32 0, .nils], 0, 0, false⟩ :: ⟨[.str r.s, .int .i64 r.e], 0, 0, false⟩ :: ⟨[.int .i64 f, .int .i64 t, .int .u32 tag, v], 0, 0, false⟩ :: m), es⟩ ∧
    σ 2 = .ptr h.blks.length 0 0 4 ∧ σ 4 = .ptr (h.blks.length + 1) 0 0 2 ∧ σ 8 = .ptr (h.blks.length + 2) 0 0 4 ∧ CksHi (h.blks.length + 3) h' l v ∧ (∀ y ∈ es, h.blks.length ≤ y.1) ∧ qGetGo (21 - l.length) r (l.map El.c) = X) ?_ 21 _ _ ?_
  · rintro _ σ _ ⟨r, l, v, m, es, rfl, hl, hrl, rfl, h2, h4, h8, hC, he, hgo⟩
    have hlen := hC.is.sl.len Tryz.underlying33
    have hf := hC.is.sl.facts
    simp at hf
    rw [show 21 - l.length = (20 - l.length) + 1 by omega, qGetGo] at hgo
    by_cases c4 : r.e = 0 ∧ 0 < r.s.length
    · have c4' := eq_true c4.1
      have c4'' := eq_true c4.2
      rw [if_pos c4] at hgo
      by_cases c5 : l.length = 20
      · have c5' : (l.map El.c).length = 20 := by simpa using c5
        rw [if_pos c5'] at hgo
        have hfe : (qFail 5 r).e = 5 := by simp (dsimp := false) [qFail, c4.1]
        rw [← hgo] at hG
        simp only [hfe, ne_eq] at hG
        rw [if_pos (by decide)] at hG
        simp (dsimp := false) [-run_groupK, run_join, h2, h4, h8, c4', c4'', c5, hlen, splice]
        exact getsPE hG he
      · have c5' : ¬ (l.map El.c).length = 20 := by simpa using c5
        have c5i : ¬ ((l.length : Int) = 20) := by omega
        rw [if_neg c5'] at hgo
        obtain ⟨⟨x1, x2⟩, hx, vp, vc, vg, vd, hv, ⟨m', es', he2, hes'⟩, hS, hH⟩ := rdoc6_Take (C := C) (r := r) (h := ⟨h.blks ++ (⟨[.int .i64 0, .int .i64 0, .int .u32 0, .nils], 0, 0, false⟩ :: ⟨[.str r.s, .int .i64 r.e], 0, 0, false⟩ :: ⟨[.int .i64 f, .int .i64 t, .int .u32 tag, v], 0, 0, false⟩ :: m), es⟩) hrl
        simp only at hv he2 hS
        subst hv he2
        simp at hx hS hH hes'
        unfold Ck.cells rc at hx
        have hf2 := hS.facts
        have hf3 := (hS.app (es' := []) [⟨rc (qChunk r).1, 0, 0, false⟩]).facts
        have hf4 := (hS.app (es' := []) [⟨rc (qChunk r).1, 0, 0, false⟩, ⟨(qChunk r).2.cells vp vc vg vd, 0, 0, false⟩]).facts
        simp at hf2 hf3 hf4
        have hpre : ∀ b c : Blk, (h.blks ++ [⟨[.int .i64 0, .int .i64 0, .int .u32 0, .nils], 0, 0, false⟩, b, c]).length = h.blks.length + 3 := fun b c => by simp
        have hC' : CksHi (h.blks ++ [⟨[.int .i64 0, .int .i64 0, .int .u32 0, .nils], 0, 0, false⟩, ⟨[.str r.s, .int .i64 r.e], 0, 0, false⟩, (⟨[.int .i64 f, .int .i64 t, .int .u32 tag, v], 0, 0, false⟩ : Blk)]).length
            ⟨(h.blks ++ [⟨[.int .i64 0, .int .i64 0, .int .u32 0, .nils], 0, 0, false⟩, ⟨[.str r.s, .int .i64 r.e], 0, 0, false⟩, (⟨[.int .i64 f, .int .i64 t, .int .u32 tag, v], 0, 0, false⟩ : Blk)]) ++ (m ++ (m' ++ [⟨rc (qChunk r).1, 0, 0, false⟩, ⟨(qChunk r).2.cells vp vc vg vd, 0, 0, false⟩])), es ++ es'⟩ l v := by
          have h1 := CksHi.app (es' := es ++ es') hC (m' ++ [⟨rc (qChunk r).1, 0, 0, false⟩, ⟨(qChunk r).2.cells vp vc vg vd, 0, 0, false⟩])
          rw [hpre]
          simpa using h1
        obtain ⟨v', m'', es'', ha, he'', hC'', hne⟩ := CksHi.snoc (e := ⟨(qChunk r).2, vp, vc, vg, vd⟩) hC'
          (by
            have h1 := CkIs.app (es' := es ++ es') hS [⟨rc (qChunk r).1, 0, 0, false⟩, ⟨(qChunk r).2.cells vp vc vg vd, 0, 0, false⟩]
            simpa [El.ok] using h1)
          (by
            intro u hu
            simp only [List.mem_cons, List.not_mem_nil, or_false] at hu
            rw [hpre]
            rcases hu with rfl | rfl | rfl | rfl
            · exact hH.1.le (by omega)
            · exact hH.2.1.le (by omega)
            · exact hH.2.2.1.le (by omega)
            · exact hH.2.2.2.le (by omega)) (by omega) (h.blks.length + (m.length + (m'.length + 1 + 1) + 1 + 1 + 1)) (by simp; omega)
        have hq := appendV_keep ha (i := h.blks.length + (m.length + m'.length + 1 + 1 + 1)) (k := ⟨rc (qChunk r).1, 0, 0, false⟩) (by
          intro b' off n' ver z' lim hv
          subst hv
          have := hf.2.2.2.1
          simp at this ⊢
          omega) (by
            rw [show h.blks.length + (m.length + m'.length + 1 + 1 + 1) = (h.blks ++ (⟨[.int .i64 0, .int .i64 0, .int .u32 0, .nils], 0, 0, false⟩ :: ⟨[.str r.s, .int .i64 r.e], 0, 0, false⟩ :: (⟨[.int .i64 f, .int .i64 t, .int .u32 tag, v], 0, 0, false⟩ : Blk) :: (m ++ m'))).length by simp]
            rw [show ∀ x y z : Blk, h.blks ++ [⟨[.int .i64 0, .int .i64 0, .int .u32 0, .nils], 0, 0, false⟩, ⟨[.str r.s, .int .i64 r.e], 0, 0, false⟩, (⟨[.int .i64 f, .int .i64 t, .int .u32 tag, v], 0, 0, false⟩ : Blk)] ++ (m ++ (m' ++ [x, y]) ++ [z]) = (h.blks ++ (⟨[.int .i64 0, .int .i64 0, .int .u32 0, .nils], 0, 0, false⟩ :: ⟨[.str r.s, .int .i64 r.e], 0, 0, false⟩ :: (⟨[.int .i64 f, .int .i64 t, .int .u32 tag, v], 0, 0, false⟩ : Blk) :: (m ++ m'))) ++ [x, y, z] by simp]
            simp)
        simp only at hq
        rw [show h.blks.length + (m.length + m'.length + 1 + 1 + 1) = (h.blks ++ [⟨[.int .i64 0, .int .i64 0, .int .u32 0, .nils], 0, 0, false⟩, ⟨[.str r.s, .int .i64 r.e], 0, 0, false⟩, (⟨[.int .i64 f, .int .i64 t, .int .u32 tag, v], 0, 0, false⟩ : Blk)]).length + (m.length + m'.length) by rw [hpre]; omega, at_add] at hq
        simp (dsimp := false) [El.cells, Ck.cells, rc] at ha
        simp only [rc] at hq
        have hv' := hC''.is.sl.facts
        simp at hv'
        simp (dsimp := false) [-run_groupK, run_join, h4, h8, c4', c4'', c5i, hlen, hx, hf2, hf3, splice]
        refine (W_anyF (F := [(0, 4), (0, 5), (2, 4)]) (by kernel_rfl)).2 ?_
        simp (dsimp := false) [h2, h4, h8, hf2, splice, ha, hv', hq]
        refine ⟨20 - l.length, by omega, (qChunk r).1, l ++ [⟨(qChunk r).2, vp, vc, vg, vd⟩], by simp, by simp; omega, Nat.le_trans (qChunk_le r) hrl, v', m'', _, ⟨⟨⟨rfl, rfl⟩, rfl, rfl⟩, rfl⟩, ?_, ?_, ?_⟩
        · have h1 := CksHi.pre (p' := h.blks ++ [⟨[.int .i64 0, .int .i64 0, .int .u32 0, .nils], 0, 0, false⟩, ⟨[.str (qChunk r).1.s, .int .i64 (qChunk r).1.e], 0, 0, false⟩, (⟨[.int .i64 f, .int .i64 t, .int .u32 tag, v'], 0, 0, false⟩ : Blk)]) (es' := es ++ (es' ++ (es'' ++ List.map (fun r => (h.blks.length + 2, r)) (V.upto (h.blks.length + 2) v')))) (by simp) hC''
          simpa using h1
        · intro a b hab
          simp only [List.mem_append, List.mem_map] at hab
          rcases hab with hab | hab | hab | ⟨_, -, hab⟩
          · exact he _ hab
          · have := hes' a b hab
            omega
          · have := he'' _ hab
            simp at this
            omega
          · injection hab with h1 h2
            omega
        · rw [show 21 - (l ++ [(⟨(qChunk r).2, vp, vc, vg, vd⟩ : El)]).length = 20 - l.length by simp, List.map_append]
          exact hgo
    · rw [if_neg c4] at hgo
      rw [← hgo] at hG
      simp only [ne_eq] at hG
      by_cases c5 : r.e = 0
      · have c5' := eq_true c5
        have c6' : (0 < r.s.length) = False := eq_false (fun h => c4 ⟨c5, h⟩)
        rw [if_neg (fun h => h c5)] at hG
        have hto := rdoc7_May (C := C) (f := f) (t := t) (tag := tag) hC.is (by omega)
        cases c6 : togetherP f t tag (l.map El.c)
        · rw [if_pos (by exact c6)] at hG
          simp (dsimp := false) [-run_groupK, run_join, h2, h4, h8, c5', c6', splice, hto, c6]
          exact getsPE hG he
        · rw [if_neg (by rw [Pk.ok, c6]; simp)] at hG
          simp (dsimp := false) [-run_groupK, run_join, h2, h4, h8, c5', c6', splice, hto, c6, hf]
          have hC2 := CksHi.pre (p := h.blks ++ [⟨[.int .i64 0, .int .i64 0, .int .u32 0, .nils], 0, 0, false⟩, ⟨[.str r.s, .int .i64 r.e], 0, 0, false⟩, (⟨[.int .i64 f, .int .i64 t, .int .u32 tag, v], 0, 0, false⟩ : Blk)])
            (p' := h.blks ++ [⟨[.int .i64 f, .int .i64 t, .int .u32 tag, v], 0, 0, false⟩, ⟨[.str r.s, .int .i64 r.e], 0, 0, false⟩, (⟨[.int .i64 f, .int .i64 t, .int .u32 tag, v], 0, 0, false⟩ : Blk)]) (m := m) (es := es) (es' := es ++ List.map (fun r => (h.blks.length, r)) (V.upto h.blks.length v)) (l := l) (v := v) (by simp) (by simpa using hC)
          rw [hG]
          refine ⟨_, rfl, leave_ext ?_, v, l, rfl, ?_, rfl⟩
          · intro y hy
            rcases List.mem_append.1 hy with hy | hy
            · exact he y hy
            · obtain ⟨_, -, rfl⟩ := List.mem_map.1 hy
              exact Nat.le_refl _
          · refine cks_leave (by simpa using hC2.is) (hC.own.hi.le (by omega)) (fun h => by simpa using h)
      · have c5' := eq_false c5
        rw [if_pos c5] at hG
        simp (dsimp := false) [-run_groupK, run_join, h4, c5']
        refine (W_anyF (F := [(2, 3)]) (by kernel_rfl)).2 ?_
        simp (dsimp := false) [h2, h4, splice]
        exact getsPE hG he
  · refine ⟨r0, [], .nils, [], [], by simp (dsimp := false) [CksHi.nil, hX, hrl]⟩
end Go.Proofs.YtklbbjfbcibghaaGreat
end
section
/-! Plain law: a chunk may be put down, the program's word and the document's. -/
namespace Go.Hl
theorem wrap_zero {n : Nat} (h : n < 18446744073709551616) : IntKind.i64.wrap (n : Int) = 0 ↔ n = 0 := by
  simp only [IntKind.wrap, IntKind.bits, IntKind.signed]
  simp
  split <;> omega
theorem and_le (x m : BitVec 64) (h : x &&& ~~~ m = 0#64) : x.toNat ≤ m.toNat := by
  have h1 : x = x &&& m := by
    have : x &&& (m ||| ~~~ m) = x := by rw [BitVec.or_not_self, BitVec.and_allOnes]
    rw [BitVec.and_or_distrib_left, h, BitVec.or_zero] at this
    exact this.symm
  rw [h1, BitVec.toNat_and]
  exact Nat.and_le_right
theorem bits_fin : ∀ x : Fin 256, ∀ m ∈ [0, 1, 3, 7, 255], (BitVec.ofNat 64 x.val &&& ~~~ BitVec.ofNat 64 m = 0#64) ↔ (BitVec.ofNat 64 x.val &&& BitVec.ofNat 64 (255 - m) = 0#64) := by
  decide +kernel
theorem flagsT_mem (t : Int) : ∃ m : Nat, flagsT t = (m : Int) ∧ m ∈ [0, 1, 3, 7, 255] := by
  unfold flagsT
  repeat' split
  · exact ⟨7, rfl, by decide⟩
  · exact ⟨3, rfl, by decide⟩
  · exact ⟨1, rfl, by decide⟩
  · exact ⟨0, rfl, by decide⟩
  · exact ⟨255, rfl, by decide⟩
theorem odd_iff {f t : Int} (h0 : 0 ≤ f) (h1 : f < 9223372036854775808) : IntKind.i64.wrap (oddBits f t) = 0 ↔ f ≤ 255 ∧ IntKind.i64.wrap (qOdd f t) = 0 := by
  obtain ⟨m, hm, hmem⟩ := flagsT_mem t
  obtain ⟨n, rfl⟩ : ∃ n : Nat, f = (n : Int) := ⟨f.toNat, by omega⟩
  unfold oddBits qOdd
  rw [hm, wrap_zero (BitVec.isLt _), wrap_zero (BitVec.isLt _)]
  have e1 : BitVec.ofInt 64 (n : Int) = BitVec.ofNat 64 n := by simp
  have e2 : BitVec.ofInt 64 (m : Int) = BitVec.ofNat 64 m := by simp
  have hm2 : m ≤ 255 := by
    simp only [List.mem_cons, List.not_mem_nil, or_false] at hmem
    omega
  have e3 : BitVec.ofInt 64 (255 - (m : Int)) = BitVec.ofNat 64 (255 - m) := by
    rw [show (255 : Int) - (m : Int) = ((255 - m : Nat) : Int) by omega]
    simp
  rw [e1, e2, e3]
  have z : ∀ x : BitVec 64, x.toNat = 0 ↔ x = 0#64 := fun x => ⟨fun h => BitVec.eq_of_toNat_eq (by simpa using h), fun h => by rw [h]; rfl⟩
  rw [z, z]
  constructor
  · intro h
    have hle := and_le _ _ h
    have hn : n ≤ 255 := by
      simp at hle
      omega
    exact ⟨by omega, (bits_fin ⟨n, by omega⟩ m hmem).1 h⟩
  · rintro ⟨h, h2⟩
    exact (bits_fin ⟨n, by omega⟩ m hmem).2 h2
theorem same_plain (c : Ck) : c.same c.plain = true ↔ qHas c = false := by
  obtain ⟨t, hk⟩ : ∃ k, qKind c.typ = k := ⟨_, rfl⟩
  have hk' := hk
  unfold qKind at hk'
  unfold Ck.plain Ck.same qHas
  simp only [hk]
  by_cases t0 : c.typ = 0
  · obtain rfl : t = 0 := by rw [← hk', t0]; rfl
    simp [t0]
    grind
  by_cases t1 : isInit c.typ = true
  · obtain rfl : t = 1 := by
      unfold isInit at t1
      simp only [Bool.or_eq_true, decide_eq_true_eq] at t1
      rw [← hk']
      rcases t1 with h | h <;> rw [h] <;> rfl
    simp [t0, t1]
    grind
  by_cases t3 : c.typ = 3
  · obtain rfl : t = 3 := by rw [← hk', t3]; rfl
    simp [t3]
    grind
  by_cases te : isErr c.typ = true
  · obtain rfl : t = 6 := by
      unfold isErr at te
      simp only [Bool.or_eq_true, decide_eq_true_eq] at te
      rw [← hk']
      rcases te with h | h <;> rw [h] <;> rfl
    simp [t0, t1, t3, te]
    grind
  by_cases t7 : c.typ = 7
  · obtain rfl : t = 7 := by rw [← hk', t7]; rfl
    simp [t7]
    grind
  by_cases tc : isConf c.typ = true
  · obtain rfl : t = 16 := by
      unfold isConf at tc
      simp only [Bool.or_eq_true, decide_eq_true_eq] at tc
      rw [← hk']
      rcases tc with (h | h) | h <;> rw [h] <;> rfl
    simp [t0, t1, t3, te, t7, tc]
    grind
  by_cases tr : isBare c.typ = true
  · obtain rfl : t = 8 := by
      unfold isBare at tr
      simp only [Bool.or_eq_true, decide_eq_true_eq] at tr
      rw [← hk']
      rcases tr with (h | h) | h <;> rw [h] <;> rfl
    simp [t0, t1, t3, te, t7, tc, tr]
    grind
  by_cases t15 : c.typ = 15
  · obtain rfl : t = 15 := by rw [← hk', t15]; rfl
    simp [t15]
    grind
  · have hk2 : t = 4 ∨ t = 10 ∨ t = 20 := by
      unfold isInit at t1
      unfold isErr at te
      unfold isConf at tc
      unfold isBare at tr
      simp only [Bool.or_eq_true, decide_eq_true_eq] at t1 te tc tr
      rw [← hk']
      repeat' split
      all_goals omega
    simp only [t0, t1, t3, te, t7, tc, tr, t15, if_false, Bool.false_eq_true]
    rcases hk2 with rfl | rfl | rfl
    all_goals
      simp
      grind
theorem body_le {c : Ck} (h1 : c.params.length ≤ 16) (h2 : c.causes.length ≤ 16) (h3 : c.gaps.length ≤ 16) (h4 : c.dups.length ≤ 16) (h5 : c.data.length ≤ 900) : c.body.length ≤ 65531 := by
  have e1 : (putAll c.params).length ≤ c.params.length * 1007 := flat_le Pm.put_len _
  have e2 : (putAll c.causes).length ≤ c.causes.length * 1007 := flat_le Pm.put_len _
  have e3 := gapsF_len c.gaps
  have e4 := dupsF_len c.dups
  have e5 := Pm.put_len ⟨1, c.data⟩
  unfold Ck.body gapsB
  repeat' split
  all_goals try simp only [List.length_append, be2_len, be4_len, List.length_nil]
  all_goals omega
theorem may_eq {c : Ck} (hf : c.flags < 9223372036854775808) : c.may = qMay c := by
  have hs := same_plain c
  rw [Bool.eq_iff_iff]
  unfold Ck.may qMay Ck.lists
  have hr : rising c.gaps = true → c.gaps.length ≤ 16 := fun h => by
    unfold rising at h
    simp only [Bool.and_eq_true, decide_eq_true_eq] at h
    exact h.2
  have hi : isInit c.typ = true ↔ qKind c.typ = 1 := by
    unfold isInit qKind
    simp only [Bool.or_eq_true, decide_eq_true_eq]
    repeat' split
    all_goals omega
  have hb := @body_le c
  have ho : 0 ≤ c.flags → (IntKind.i64.wrap (oddBits c.flags c.typ) = 0 ↔ c.flags ≤ 255 ∧ IntKind.i64.wrap (qOdd c.flags c.typ) = 0) := fun h => odd_iff h hf
  generalize IntKind.i64.wrap (oddBits c.flags c.typ) = o at *
  generalize IntKind.i64.wrap (qOdd c.flags c.typ) = o' at *
  generalize rising c.gaps = r at *
  generalize c.same c.plain = sp at *
  generalize qHas c = q at *
  generalize isInit c.typ = ii at *
  generalize qKind c.typ = k at *
  generalize c.body.length = bl at *
  simp only [List.all_append, Bool.and_eq_true, decide_eq_true_eq, Bool.not_eq_true', Bool.and_eq_false_iff, decide_eq_false_iff_not]
  split
  · rename_i hc
    simp only [Bool.false_eq_true, iff_false]
    intro h
    grind
  · rename_i hc
    simp only [not_or] at hc
    grind
end Go.Hl
end
section
/-! Plain law: the program's reader and the document's read the same. -/
namespace Go.Proofs.YtklbbjfbcibghaaGreat
open Go.Hl
set_option maxHeartbeats 1000000
theorem fill_mod {n m : Int} (h : (-n) % 4 = (-m) % 4) (r : RS) : r.fill n = r.fill m := by
  unfold RS.fill flE flR flN
  rw [h]
theorem _root_.Go.Hl.Sim.e {p q : RS} (h : Sim p q) : p.e = q.e := h.1
theorem _root_.Go.Hl.Sim.ite {p q p' q' : RS} {a b : Prop} [Decidable a] [Decidable b] (hab : a ↔ b) (h1 : Sim p q) (h2 : Sim p' q') : Sim (if a then p else p') (if b then q else q') := by
  by_cases h : a
  · rw [if_pos h, if_pos (hab.1 h)]
    exact h1
  · rw [if_neg h, if_neg (fun x => h (hab.2 x))]
    exact h2
theorem _root_.Go.Hl.Sim.param {p q : RS} (h : Sim p q) : (tkParam p).1 = (qParam q).2 ∧ Sim (tkParam p).2 (qParam q).1 := by
  have h2 := (h.tk 2).tk 2
  have hn := (h.tk 2).num 2
  unfold tkParam qParam
  simp only [hn, h.num 2]
  generalize (qNum 2 (qTk 2 q)) = n at *
  have h3 : Sim (if ((p.tk 2).tk 2).e = 0 ∧ ((n : Int) - 4 < 0 ∨ 1000 < (n : Int) - 4) then ((p.tk 2).tk 2).fail 3 else (p.tk 2).tk 2) (if (qTk 2 (qTk 2 q)).e = 0 ∧ ((n : Int) < 4 ∨ 1004 < (n : Int)) then qFail 3 (qTk 2 (qTk 2 q)) else qTk 2 (qTk 2 q)) := by
    refine Sim.ite ?_ (h2.fail (by decide)) h2
    rw [h2.e]
    constructor
    · rintro ⟨a, b⟩
      exact ⟨a, by omega⟩
    · rintro ⟨a, b⟩
      exact ⟨a, by omega⟩
  have hg := h3.got ((n : Int) - 4)
  have h4 := h3.tk ((n : Int) - 4)
  generalize (if ((p.tk 2).tk 2).e = 0 ∧ ((n : Int) - 4 < 0 ∨ 1000 < (n : Int) - 4) then ((p.tk 2).tk 2).fail 3 else (p.tk 2).tk 2) = r3 at *
  generalize (if (qTk 2 (qTk 2 q)).e = 0 ∧ ((n : Int) < 4 ∨ 1004 < (n : Int)) then qFail 3 (qTk 2 (qTk 2 q)) else qTk 2 (qTk 2 q)) = q3 at *
  rw [hg]
  generalize r3.tk ((n : Int) - 4) = r4 at *
  generalize qTk ((n : Int) - 4) q3 = q4 at *
  have hm : (-((n : Int) - 4)) % 4 = (-(n : Int)) % 4 := by omega
  have h5 := Sim.whole h4 (n := (n : Int)) (by omega)
  rw [hm, fill_mod hm, h4.e]
  generalize (if r4.left < -(n : Int) % 4 then r4.fail 2 else r4).fill n = r6 at *
  generalize qWhole n q4 = q6 at *
  rw [h5.e]
  by_cases c4 : q4.e = 0
  · by_cases c6 : q6.e = 0
    · simp only [c4, c6, ne_eq, not_true_eq_false, if_false]
      exact ⟨trivial, h5⟩
    · simp only [c4, c6, ne_eq, not_true_eq_false, not_false_eq_true, if_false, if_true]
      exact ⟨trivial, h5⟩
  · simp only [c4, ne_eq, not_false_eq_true, if_true]
    exact ⟨trivial, h4⟩
theorem left_pos (r : RS) : 0 < r.left ↔ r.e = 0 ∧ r.s ≠ [] := by
  unfold RS.left leftN
  by_cases h : r.e = 0
  · rw [if_pos h]
    cases hs : r.s with
    | nil => simp
    | cons a l => simp (dsimp := false) [h]
  · rw [if_neg h]
    simp (dsimp := false) [h]
theorem _root_.Go.Hl.Sim.more {p q : RS} (h : Sim p q) : 0 < p.left ↔ q.e = 0 ∧ q.s ≠ [] := by
  rw [left_pos, h.e]
  constructor
  · rintro ⟨a, b⟩
    exact ⟨a, by rw [← h.2 (by rw [h.e]; exact a)]; exact b⟩
  · rintro ⟨a, b⟩
    exact ⟨a, by rw [h.2 (by rw [h.e]; exact a)]; exact b⟩
theorem allLoop_eq : ∀ (k : Nat) (p q : RS) (out : List Pm), Sim p q → out.length ≤ 16 → 17 ≤ out.length + k →
    (if (allLoop k p out).1.e ≠ 0 then (([], (allLoop k p out).1.e) : List Pm × Int) else ((allLoop k p out).2, 0)) = qLoop k q out
  | 0, p, q, out, h, h1, h2 => by omega
  | k + 1, p, q, out, h, h1, h2 => by
    unfold allLoop qLoop
    by_cases c : q.e = 0 ∧ q.s ≠ []
    · rw [if_pos (h.more.2 c), if_pos c]
      by_cases c2 : out.length = 16
      · rw [if_pos c2, if_pos c2]
        have : (p.fail 5).e = 5 := by simp (dsimp := false) [RS.fail, failE, h.e, c.1]
        simp only [this]
        rfl
      · rw [if_neg c2, if_neg c2]
        have hp := h.param
        rw [hp.1]
        exact allLoop_eq k _ _ _ hp.2 (by simp; omega) (by simp; omega)
    · rw [if_neg (fun x => c (h.more.1 x)), if_neg c]
      simp only
      rw [h.e]
theorem allP_eq (s : Bs) : allP s = qAll s := by
  unfold allP qAll
  exact allLoop_eq 17 ⟨s, 0⟩ ⟨s, 0⟩ [] (Sim.refl _) (by simp) (by simp)
theorem _root_.Go.Hl.Sim.rest {p q : RS} (h : Sim p q) : p.rest = qGot q.s.length q := by
  unfold RS.rest qGot qBad
  rw [h.e]
  by_cases c : q.e = 0
  · rw [if_pos c, if_neg (fun x => x c), h.2 (by rw [h.e]; exact c)]
    simp
  · rw [if_neg c, if_pos c]
theorem _root_.Go.Hl.Sim.gone {p q : RS} (h : Sim p q) : Sim p.gone (qTk q.s.length q) := by
  have he := h.e
  unfold RS.gone qTk qBad
  by_cases c : q.e = 0
  · have c' : p.e = 0 := by rw [he]; exact c
    simp only [c, c', ne_eq, not_true_eq_false, if_false, if_true]
    rw [if_neg (by simp)]
    exact ⟨rfl, fun _ => by simp⟩
  · have c' : ¬ p.e = 0 := by rw [he]; exact c
    simp only [c, c', ne_eq, not_false_eq_true, if_true, if_false]
    exact Sim.bad c' he.symm
theorem _root_.Go.Hl.Sim.pars {p q : RS} (h : Sim p q) : Sim (parR p) (qPars q).1 ∧ (allP p.rest).1 = (qPars q).2 := by
  unfold parR qPars
  have hr := h.rest
  have ha : (allP (qGot q.s.length q)).2 ≠ 0 → (allP (qGot q.s.length q)).1 = [] := fun h => allP_err h
  rw [hr, allP_eq] at *
  simp only
  by_cases c : (qAll (qGot q.s.length q)).2 = 0
  · rw [if_neg (fun x => x c), if_neg (fun x => x c)]
    exact ⟨h.gone, rfl⟩
  · rw [if_pos c, if_pos c]
    exact ⟨h.gone.fail c, ha c⟩
theorem _root_.Go.Hl.Sim.gaps {p q : RS} (h : Sim p q) (k : Nat) : (gapsN k p).1 = (qGaps k q).1 ∧ Sim (gapsN k p).2 (qGaps k q).2 := by
  induction k with
  | zero => exact ⟨rfl, h⟩
  | succ k ih =>
    unfold gapsN qGaps
    simp only
    rw [ih.1, ih.2.num 2, (ih.2.tk 2).num 2]
    exact ⟨rfl, (ih.2.tk 2).tk 2⟩
theorem _root_.Go.Hl.Sim.dups {p q : RS} (h : Sim p q) (k : Nat) : (dupsN k p).1 = (qDups k q).1 ∧ Sim (dupsN k p).2 (qDups k q).2 := by
  induction k with
  | zero => exact ⟨rfl, h⟩
  | succ k ih =>
    unfold dupsN qDups
    simp only
    rw [ih.1, ih.2.num 4]
    exact ⟨rfl, ih.2.tk 4⟩
theorem _root_.Go.Hl.Sim.end {p q : RS} (h : Sim p q) : p.end.e = qEnd q := by
  unfold RS.end endE qEnd
  simp only
  by_cases c : q.e = 0
  · rw [h.e, h.2 (by rw [h.e]; exact c)]
  · rw [if_neg (fun x => c (by rw [← h.e]; exact x.1)), if_neg (fun x => c x.1), h.e]
def qLate (y : RS × Ck) : RS := if y.1.e = 0 ∧ qKind y.2.typ = 3 ∧ rising y.2.gaps = false then qFail 3 y.1 else y.1
theorem qLate_plain {y : RS × Ck} (h : y.2.typ ≠ 3) : qLate y = y.1 := by
  unfold qLate
  rw [if_neg]
  rintro ⟨-, h2, -⟩
  apply h
  unfold qKind at h2
  repeat' split at h2
  all_goals first | omega | (simp at h2)
theorem qEnd_bad {r : RS} (h : r.e ≠ 0) : qEnd r ≠ 0 := by
  unfold qEnd
  rw [if_neg (fun x => h x.1)]
  exact h
theorem _root_.Go.Hl.Sim.says {p q : RS} (h : Sim p q) (c : Ck) : (saysR p c).1.end.e = qEnd (qLate (qSays q c)) ∧ (qEnd (qLate (qSays q c)) = 0 → (saysR p c).2 = (qSays q c).2) := by
  have key : ∀ {X Y : RS × Ck}, Sim X.1 Y.1 → X.2 = Y.2 → Y.2.typ ≠ 3 → X.1.end.e = qEnd (qLate Y) ∧ (qEnd (qLate Y) = 0 → X.2 = Y.2) := fun hs he ht => by
    rw [qLate_plain ht]
    exact ⟨hs.end, fun _ => he⟩
  unfold saysR qSays
  simp only
  by_cases t0 : c.typ = 0
  · rw [if_pos t0, if_pos t0]
    have h4 := (((h.tk 4).tk 2).tk 2).tk 4
    refine key h4.gone ?_ (by simp only; omega)
    simp only [h.num 4, (h.tk 4).num 2, ((h.tk 4).tk 2).num 2, (((h.tk 4).tk 2).tk 2).num 4, h4.rest]
  rw [if_neg t0, if_neg t0]
  by_cases t1 : isInit c.typ = true
  · rw [if_pos t1, if_pos t1]
    have h5 := ((((h.tk 4).tk 4).tk 2).tk 2).tk 4
    refine key h5.pars.1 ?_ (by
      unfold isInit at t1
      simp only [Bool.or_eq_true, decide_eq_true_eq] at t1
      simp only
      omega)
    simp only [h.num 4, (h.tk 4).num 4, ((h.tk 4).tk 4).num 2, (((h.tk 4).tk 4).tk 2).num 2, ((((h.tk 4).tk 4).tk 2).tk 2).num 4, h5.pars.2]
  rw [if_neg t1, if_neg t1]
  by_cases t3 : c.typ = 3
  · rw [if_pos t3, if_pos t3]
    have h2 := (h.tk 4).tk 4
    have h4 := (h2.tk 2).tk 2
    unfold sackR qSack
    simp only [h2.num 2, (h2.tk 2).num 2, h.num 4, (h.tk 4).num 4]
    by_cases hb : 16 < qNum 2 (qTk 4 (qTk 4 q)) ∨ 16 < qNum 2 (qTk 2 (qTk 4 (qTk 4 q)))
    · rw [if_pos hb, if_pos hb]
      have hf := h4.fail (x := 5) (by decide)
      have hne : (qFail 5 (qTk 2 (qTk 2 (qTk 4 (qTk 4 q))))).e ≠ 0 := by
        unfold qFail
        split
        · decide
        · assumption
      have hl : qLate (qFail 5 (qTk 2 (qTk 2 (qTk 4 (qTk 4 q)))), c) = qFail 5 (qTk 2 (qTk 2 (qTk 4 (qTk 4 q)))) := by
        unfold qLate
        rw [if_neg (fun x => hne x.1)]
      rw [hl]
      exact ⟨hf.end, fun x => absurd x (qEnd_bad hne)⟩
    · rw [if_neg hb, if_neg hb]
      have hg := h4.gaps (qNum 2 (qTk 4 (qTk 4 q)))
      have hd := hg.2.dups (qNum 2 (qTk 2 (qTk 4 (qTk 4 q))))
      rw [hg.1, hd.1]
      refine ⟨?_, fun _ => rfl⟩
      unfold qLate
      simp only
      refine Sim.end (Sim.ite ?_ (hd.2.fail (by decide)) hd.2)
      rw [hd.2.e]
      have hk : qKind c.typ = 3 := by rw [t3]; rfl
      simp only [hk, true_and]
  rw [if_neg t3, if_neg t3]
  by_cases tb : isBeat c.typ = true
  · rw [if_pos tb, if_pos tb]
    have hp := h.param
    rw [hp.1]
    by_cases hc : (qParam q).1.e = 0 ∧ (qParam q).2.typ ≠ 1
    · rw [if_pos hc, if_pos (by rw [hp.2.e]; exact hc)]
      have hne : (qFail 3 (qParam q).1).e ≠ 0 := by
        unfold qFail
        rw [if_pos hc.1]
        decide
      rw [qLate_plain (by exact t3)]
      exact ⟨(hp.2.fail (by decide)).end, fun x => absurd x (qEnd_bad hne)⟩
    · rw [if_neg hc, if_neg (by rw [hp.2.e]; exact hc)]
      exact key hp.2 rfl (by exact t3)
  rw [if_neg tb, if_neg tb]
  by_cases te : isErr c.typ = true
  · rw [if_pos te, if_pos te]
    exact key h.pars.1 (by simp only [h.pars.2]) (by exact t3)
  rw [if_neg te, if_neg te]
  by_cases t7 : c.typ = 7
  · rw [if_pos t7, if_pos t7]
    exact key (h.tk 4) (by simp only [h.num 4]) (by exact t3)
  rw [if_neg t7, if_neg t7]
  by_cases tc : isConf c.typ = true
  · rw [if_pos tc, if_pos tc]
    exact key (h.tk 4).pars.1 (by simp only [h.num 4, (h.tk 4).pars.2]) (by exact t3)
  rw [if_neg tc, if_neg tc]
  by_cases tr : isBare c.typ = true
  · rw [if_pos tr, if_pos tr]
    exact key h rfl (by exact t3)
  rw [if_neg tr, if_neg tr]
  by_cases t15 : c.typ = 15
  · rw [if_pos t15, if_pos t15]
    have h2 := (h.tk 2).tk 2
    exact key h2.gone (by simp only [h.num 2, (h.tk 2).num 2, h2.rest]) (by exact t3)
  · rw [if_neg t15, if_neg t15]
    exact key h.gone (by simp only [h.rest]) (by exact t3)
theorem says_flags (r : RS) (c : Ck) : (saysR r c).2.flags = c.flags := by
  unfold saysR sackR
  simp only
  repeat' split
  all_goals rfl
theorem _root_.Go.Hl.Sim.chunk {p q : RS} (h : Sim p q) : (tkChunk p).2 = (qChunk q).2 ∧ Sim (tkChunk p).1 (qChunk q).1 := by
  have h2 := (h.tk 1).tk 1
  have h3 := h2.tk 2
  unfold tkChunk qChunk
  simp only [h.num 1, (h.tk 1).num 1, h2.num 2]
  generalize (qNum 2 (qTk 1 (qTk 1 q))) = n at *
  have hfl : ((qNum 1 (qTk 1 q) : Nat) : Int) < 9223372036854775808 := by
    have := qNum1_lt' (qTk 1 q)
    omega
  generalize qNum 1 (qTk 1 q) = fl at *
  generalize qNum 1 q = ty at *
  have h4 : Sim (if (((p.tk 1).tk 1).tk 2).e = 0 ∧ (n : Int) - 4 < 0 then (((p.tk 1).tk 1).tk 2).fail 3 else ((p.tk 1).tk 1).tk 2) (if (qTk 2 (qTk 1 (qTk 1 q))).e = 0 ∧ (n : Int) < 4 then qFail 3 (qTk 2 (qTk 1 (qTk 1 q))) else qTk 2 (qTk 1 (qTk 1 q))) := by
    refine Sim.ite ?_ (h3.fail (by decide)) h3
    rw [h3.e]
    constructor
    · rintro ⟨a, b⟩
      exact ⟨a, by omega⟩
    · rintro ⟨a, b⟩
      exact ⟨a, by omega⟩
  generalize (if (((p.tk 1).tk 1).tk 2).e = 0 ∧ (n : Int) - 4 < 0 then (((p.tk 1).tk 1).tk 2).fail 3 else ((p.tk 1).tk 1).tk 2) = r4 at *
  generalize (if (qTk 2 (qTk 1 (qTk 1 q))).e = 0 ∧ (n : Int) < 4 then qFail 3 (qTk 2 (qTk 1 (qTk 1 q))) else qTk 2 (qTk 1 (qTk 1 q))) = q4 at *
  have hg := h4.got ((n : Int) - 4)
  have h5 := h4.tk ((n : Int) - 4)
  rw [hg]
  generalize r4.tk ((n : Int) - 4) = r5 at *
  generalize qTk ((n : Int) - 4) q4 = q5 at *
  have hm : (-((n : Int) - 4)) % 4 = (-(n : Int)) % 4 := by omega
  have h6 := Sim.whole h5 (n := (n : Int)) (by omega)
  rw [hm, fill_mod hm, h5.e]
  generalize (if r5.left < -(n : Int) % 4 then r5.fail 2 else r5).fill n = r7 at *
  generalize qWhole n q5 = q6 at *
  have h6e := h6.e
  by_cases c5 : q5.e = 0
  · by_cases c6 : q6.e = 0
    · have c6' : r7.e = 0 := by rw [h6e]; exact c6
      have hs := (Sim.refl ⟨qGot ((n : Int) - 4) q4, 0⟩).says { ck0 with typ := (ty : Nat), flags := (fl : Nat) }
      have hmy : (saysR ⟨qGot ((n : Int) - 4) q4, 0⟩ { ck0 with typ := (ty : Nat), flags := (fl : Nat) }).2.may = qMay (saysR ⟨qGot ((n : Int) - 4) q4, 0⟩ { ck0 with typ := (ty : Nat), flags := (fl : Nat) }).2 := may_eq (by rw [says_flags]; exact hfl)
      generalize saysR ⟨qGot ((n : Int) - 4) q4, 0⟩ { ck0 with typ := (ty : Nat), flags := (fl : Nat) } = X at *
      generalize hY : qSays ⟨qGot ((n : Int) - 4) q4, 0⟩ { ck0 with typ := (ty : Nat), flags := (fl : Nat) } = Y at *
      have hl : (if Y.1.e = 0 ∧ qKind Y.2.typ = 3 ∧ rising Y.2.gaps = false then qFail 3 Y.1 else Y.1) = qLate Y := rfl
      simp only [c5, c6, c6', ne_eq, not_true_eq_false, if_false, hl, hs.1, hmy]
      by_cases c8 : qEnd (qLate Y) = 0
      · rw [hs.2 c8]
        simp only [c8, not_true_eq_false, if_false]
        by_cases c9 : qMay Y.2 = false
        · rw [if_pos c9, if_pos c9]
          exact ⟨rfl, h6.fail (by decide)⟩
        · rw [if_neg c9, if_neg c9]
          exact ⟨rfl, h6⟩
      · simp only [c8, not_false_eq_true, if_true]
        exact ⟨trivial, h6.fail c8⟩
    · have c6' : ¬ r7.e = 0 := by rw [h6e]; exact c6
      simp only [c5, c6, c6', ne_eq, not_true_eq_false, not_false_eq_true, if_false, if_true]
      exact ⟨trivial, h6⟩
  · simp only [c5, ne_eq, not_false_eq_true, if_true]
    exact ⟨trivial, h5⟩
theorem getGo_eq : ∀ (k : Nat) (p q : RS) (out : List Ck), Sim p q → (getGo k p out).2 = (qGetGo k q out).2 ∧ Sim (getGo k p out).1 (qGetGo k q out).1
  | 0, p, q, out, h => ⟨rfl, h⟩
  | k + 1, p, q, out, h => by
    unfold getGo qGetGo
    have hm : 0 < p.left ↔ q.e = 0 ∧ 0 < q.s.length := by
      rw [h.more, List.length_pos_iff]
    by_cases c : q.e = 0 ∧ 0 < q.s.length
    · rw [if_pos (hm.2 c), if_pos c]
      by_cases c2 : out.length = 20
      · rw [if_pos c2, if_pos c2]
        exact ⟨rfl, h.fail (by decide)⟩
      · rw [if_neg c2, if_neg c2]
        have hc := h.chunk
        rw [hc.1]
        exact getGo_eq k _ _ _ hc.2
    · rw [if_neg (fun x => c (hm.1 x)), if_neg c]
      exact ⟨rfl, h⟩
theorem getP_eq (s : Bs) : qGetP s = getP s := by
  unfold getP qGetP
  by_cases c1 : 1400 < s.length
  · rw [if_pos c1, if_pos c1]
  by_cases c2 : s.length < 12
  · rw [if_neg c1, if_neg c1, if_pos c2, if_pos c2]
  by_cases c3 : sealL s 8 ≠ s
  · rw [if_neg c1, if_neg c1, if_neg c2, if_neg c2, if_pos c3, if_pos c3]
  rw [if_neg c1, if_neg c1, if_neg c2, if_neg c2, if_neg c3, if_neg c3]
  have h := Sim.refl ⟨s, 0⟩
  have h2 := (h.tk 2).tk 2
  have hg := getGo_eq 21 _ _ [] ((h2.tk 4).tk 4)
  simp only [h.num 2, (h.tk 2).num 2, h2.num 4, hg.1, hg.2.e]
end Go.Proofs.YtklbbjfbcibghaaGreat
end
section
/-! Plain law: what was put down is read back. -/
namespace Go.Hl
theorem b8_nat (x : Int) : (b8 x).toNat = (x % 256).toNat := by
  unfold b8
  simp
  omega
theorem numB_1 {x : Int} (h0 : 0 ≤ x) (h1 : x < 256) : ((numB [b8 x] : Nat) : Int) = x := by
  simp only [numB, List.foldl_cons, List.foldl_nil, b8_nat]
  omega
theorem numB_be2 {x : Int} (h0 : 0 ≤ x) (h1 : x < 65536) : ((numB (be2 x) : Nat) : Int) = x := by
  simp only [numB, be2, List.foldl_cons, List.foldl_nil, b8_nat]
  omega
theorem numB_be4 {x : Int} (h0 : 0 ≤ x) (h1 : x < 4294967296) : ((numB (be4 x) : Nat) : Int) = x := by
  simp only [numB, be4, List.foldl_cons, List.foldl_nil, b8_nat]
  omega
/-- What lies ahead is taken. -/
theorem tk_app {a b : Bs} {n : Int} (h : n = (a.length : Int)) : (⟨a ++ b, 0⟩ : RS).tk n = ⟨b, 0⟩ ∧ (⟨a ++ b, 0⟩ : RS).got n = a := by
  subst h
  obtain ⟨h1, h2⟩ := tk_all (p := ⟨a ++ b, 0⟩) rfl (n := (a.length : Int)) (by omega) (by simp only [List.length_append]; omega)
  rw [h1, h2]
  simp
theorem tk2 {x : Int} {b : Bs} : (⟨be2 x ++ b, 0⟩ : RS).tk 2 = ⟨b, 0⟩ := (tk_app rfl).1
theorem tk4 {x : Int} {b : Bs} : (⟨be4 x ++ b, 0⟩ : RS).tk 4 = ⟨b, 0⟩ := (tk_app rfl).1
theorem tk1 {x : UInt8} {b : Bs} : (⟨x :: b, 0⟩ : RS).tk 1 = ⟨b, 0⟩ := (tk_app (a := [x]) rfl).1
theorem num2 {x : Int} {b : Bs} (h0 : 0 ≤ x) (h1 : x < 65536) : (((⟨be2 x ++ b, 0⟩ : RS).num 2 : Nat) : Int) = x := by
  unfold RS.num
  rw [(tk_app (a := be2 x) (b := b) (n := 2) rfl).2]
  exact numB_be2 h0 h1
theorem num4 {x : Int} {b : Bs} (h0 : 0 ≤ x) (h1 : x < 4294967296) : (((⟨be4 x ++ b, 0⟩ : RS).num 4 : Nat) : Int) = x := by
  unfold RS.num
  rw [(tk_app (a := be4 x) (b := b) (n := 4) rfl).2]
  exact numB_be4 h0 h1
theorem num1 {x : Int} {b : Bs} (h0 : 0 ≤ x) (h1 : x < 256) : (((⟨b8 x :: b, 0⟩ : RS).num 1 : Nat) : Int) = x := by
  unfold RS.num
  have := (tk_app (a := [b8 x]) (b := b) (n := 1) rfl).2
  rw [List.singleton_append] at this
  rw [this]
  exact numB_1 h0 h1
theorem fill_app {n : Int} {k : Nat} {b : Bs} (h : (k : Int) = (-n) % 4) : (⟨noughts k ++ b, 0⟩ : RS).left ≥ (-n) % 4 ∧ (⟨noughts k ++ b, 0⟩ : RS).fill n = ⟨b, 0⟩ := by
  have hl : leftN (noughts k ++ b) 0 = ((k + b.length : Nat) : Int) := by
    unfold leftN
    rw [if_pos rfl]
    simp
  have hN : flN n (noughts k ++ b) 0 = (k : Int) := by
    unfold flN
    rw [hl, ← h, if_neg (by omega)]
  obtain ⟨h1, h2⟩ := tk_app (a := noughts k) (b := b) (n := (k : Int)) (by simp)
  refine ⟨?_, ?_⟩
  · unfold RS.left
    rw [hl, ← h]
    omega
  · unfold RS.fill flR flE
    simp only [hN]
    have e1 : tkS (k : Int) (noughts k ++ b) 0 = noughts k := h2
    have e2 : tkR (k : Int) (noughts k ++ b) 0 = b := congrArg RS.s h1
    have e3 : tkE (k : Int) (noughts k ++ b) 0 = 0 := congrArg RS.e h1
    rw [e1, e2, e3]
    simp
theorem param_back {p : Pm} (h : p.may = true) (rest : Bs) : tkParam ⟨p.put ++ rest, 0⟩ = (p, ⟨rest, 0⟩) := by
  have hm := h
  unfold Pm.may at hm
  simp only [Bool.and_eq_true, decide_eq_true_eq] at hm
  have hs : p.put ++ rest = be2 p.typ ++ (be2 (p.val.length + 4) ++ (p.val ++ (noughts (padN (4 + p.val.length)) ++ rest))) := by
    have hlen : (be2 p.typ ++ be2 (p.val.length + 4) ++ p.val).length = 4 + p.val.length := by
      simp [be2_len]
      omega
    unfold Pm.put filled
    rw [if_pos h, hlen]
    simp
  rw [hs]
  unfold tkParam
  simp only [tk2, num2 (show (0 : Int) ≤ (p.val.length : Int) + 4 by omega) (show (p.val.length : Int) + 4 < 65536 by omega)]
  have e : (p.val.length : Int) + 4 - 4 = (p.val.length : Int) := by omega
  rw [e, if_neg (show ¬ (True ∧ ((p.val.length : Int) < 0 ∨ 1000 < (p.val.length : Int))) by omega)]
  obtain ⟨h1, h2⟩ := tk_app (a := p.val) (b := noughts (padN (4 + p.val.length)) ++ rest) (n := (p.val.length : Int)) rfl
  rw [h1, h2, if_neg (by simp)]
  have hk : ((padN (4 + p.val.length) : Nat) : Int) = (-(p.val.length : Int)) % 4 := by
    unfold padN
    omega
  obtain ⟨f1, f2⟩ := fill_app (b := rest) hk
  have f3 : ¬ (⟨noughts (padN (4 + p.val.length)) ++ rest, 0⟩ : RS).left < -(p.val.length : Int) % 4 := by omega
  rw [if_neg f3, f2, if_neg (by simp)]
  have ht : ((((⟨be2 p.typ ++ (be2 (p.val.length + 4) ++ (p.val ++ (noughts (padN (4 + p.val.length)) ++ rest))), 0⟩ : RS).num 2 : Nat)) : Int) = p.typ := num2 hm.1.1 hm.1.2
  rw [ht]
theorem put_pos {p : Pm} (h : p.may = true) : 0 < p.put.length := by
  unfold Pm.put
  rw [if_pos h, filled_len]
  simp [be2_len]
  omega
theorem all_back : ∀ (l : List Pm) (k : Nat) (out : List Pm), l.all Pm.may = true → out.length + l.length ≤ 16 → l.length < k → allLoop k ⟨putAll l, 0⟩ out = (⟨[], 0⟩, out ++ l)
  | [], k + 1, out, _, _, _ => by
    unfold allLoop
    rw [if_neg (by simp [RS.left, leftN, putAll])]
    simp [putAll]
  | p :: l, k + 1, out, h, h1, h2 => by
    simp only [List.all_cons, Bool.and_eq_true] at h
    have hs : putAll (p :: l) = p.put ++ putAll l := by simp [putAll]
    have hpos := put_pos h.1
    have hb := param_back h.1 (putAll l)
    unfold allLoop
    rw [hs, if_pos (by simp only [RS.left, leftN, if_true, List.length_append]; omega), if_neg (by simp only [List.length_cons] at h1; omega), hb]
    simp only
    rw [all_back l k (out ++ [p]) h.2 (by simp only [List.length_append, List.length_cons, List.length_nil] at h1 ⊢; omega) (by simp only [List.length_cons] at h2; omega)]
    simp
  | _, 0, _, _, _, h => by omega
theorem allP_back {l : List Pm} (h : l.all Pm.may = true) (h1 : l.length ≤ 16) : allP (putAll l) = (l, 0) := by
  unfold allP
  rw [all_back l 17 [] h (by simpa using h1) (by omega)]
  simp
end Go.Hl
end
section
/-! Hl: what is handed in: slices become blocks that are read only. -/
namespace Go.Hl
variable {X : Type} {enc : TypeId × Value → X} {P : Program} {W : World}

def H.lay (h : H) (cells : List V) : H := ⟨h.blks ++ [⟨cells, 0, 0, true⟩], h.esc⟩
theorem lay_get {h : H} {cells : List V} {b : Nat} {k : Blk} : (h.lay cells).blks[b]? = some k ↔ h.blks[b]? = some k ∨ (b = h.size ∧ k = ⟨cells, 0, 0, true⟩) := by
  unfold H.lay H.size
  simp only
  rcases Nat.lt_trichotomy b h.blks.length with hb | hb | hb
  · rw [List.getElem?_append_left hb]
    constructor
    · exact .inl
    · rintro (h1 | ⟨h1, _⟩)
      · exact h1
      · omega
  · subst hb
    simp only [List.getElem?_concat_length, Option.some.injEq]
    constructor
    · exact fun h1 => .inr ⟨by simp, h1.symm⟩
    · rintro (h1 | ⟨_, h1⟩)
      · simp at h1
      · exact h1.symm
  · rw [List.getElem?_eq_none (by simp; omega)]
    constructor
    · intro h1
      cases h1
    · rintro (h1 | ⟨h1, _⟩)
      · have := (List.getElem?_eq_some_iff.1 h1).1
        omega
      · omega
theorem lay_ok {ι : Map} {base : Nat} {h : H} {w : World} (hr : Rel ι base h w) {cells : List V} {C : Array Value} {e : TypeId} {fz : Nat × Nat} {blk r cend : Nat}
    (hw : w.heap[blk]? = some (.cells C e fz)) (hb : blk < base) (hc : RelVs ι h cells ((C.toList.drop r).take cells.length)) :
    Rel (ι.set h.size 0 ⟨blk, r, 0, cells.length, cend⟩) base (h.lay cells) w ∧ Agree ι h (ι.set h.size 0 ⟨blk, r, 0, cells.length, cend⟩) (h.lay cells) := by
  have ha : Agree ι h (ι.set h.size 0 ⟨blk, r, 0, cells.length, cend⟩) (h.lay cells) := fun b k hk =>
    ⟨⟨k, lay_get.2 (.inl hk), Nat.le_refl _, rfl⟩, fun g _ => Map.set_ne ι _ (.inl (Nat.ne_of_lt (H.lt_size hk)))⟩
  generalize hL : (⟨blk, r, 0, cells.length, cend⟩ : Loc) = L at *
  have hLb : L.blk = blk := by rw [← hL]
  refine ⟨⟨fun b k hk => ?_, ?_, hr.base, ?_⟩, ha⟩
  · rcases lay_get.1 hk with hk | ⟨rfl, rfl⟩
    · obtain ⟨h1, h2, h3, h4, h5, h6, h7⟩ := hr.blk b k hk
      have hi : ∀ g, (ι.set h.size 0 L) b g = ι b g := fun g => Map.set_ne ι L (.inl (Nat.ne_of_lt (H.lt_size hk)))
      refine ⟨by rw [hi]; exact h1, h2, fun g hg => by rw [hi]; exact h3 g hg, fun g hg => by rw [hi]; exact h4 g hg, fun g g' hg hg' => by rw [hi, hi]; exact h5 g g' hg hg', fun g hg => by rw [hi]; exact h6 g hg, fun g hg hg' => ?_⟩
      rw [hi]
      obtain ⟨c, e', fz', hc', r', hj⟩ := h7 g hg hg'
      refine ⟨c, e', fz', hc', r', fun j a b => ?_⟩
      obtain ⟨u, v, a1, a2, a3⟩ := hj j a b
      exact ⟨u, v, a1, a2, a3.step ha⟩
    · have hi : (ι.set h.size 0 L) h.size 0 = L := Map.set_self ι _ _ L
      have g0 : ∀ g, g ≤ 0 → g = 0 := fun g hg => Nat.le_zero.1 hg
      refine ⟨by rw [hi, ← hL], Nat.le_refl _, fun g hg => ?_, fun g hg => ?_, fun g g' hg hg' => ?_, fun g hg => ?_, fun g _ hg => ?_⟩
      · rw [g0 g hg, hi, hLb]
        exact Nat.lt_of_lt_of_le hb hr.base
      · rw [g0 g hg, hi, hLb]
        exact ⟨fun _ => hb, fun h => (by cases h)⟩
      · rw [g0 g' hg', g0 g (by simp at hg'; omega)]
        exact ⟨Nat.le_refl _, fun _ => ⟨rfl, rfl⟩⟩
      · rw [g0 g hg, hi, ← hL]
        exact ⟨Nat.zero_le _, fun h => (by cases h)⟩
      · rw [g0 g hg, hi]
        refine ⟨C, e, fz, by rw [hLb]; exact hw, fun h => (by cases h), fun j _ hj => ?_⟩
        rw [← hL] at hj ⊢
        simp only [Nat.sub_zero] at hj ⊢
        obtain ⟨v, hv, hrv⟩ := hc.get (List.getElem?_eq_getElem hj)
        rw [List.getElem?_take, if_pos hj, List.getElem?_drop] at hv
        exact ⟨cells[j], v, List.getElem?_eq_getElem hj, by simpa using hv, hrv.step (hL ▸ ha)⟩
  · intro b b' k k' hk hk' hne hro hro' g g' hg hg'
    rcases lay_get.1 hk with hk | ⟨rfl, rfl⟩
    · rcases lay_get.1 hk' with hk' | ⟨rfl, rfl⟩
      · rw [Map.set_ne ι L (.inl (Nat.ne_of_lt (H.lt_size hk))), Map.set_ne ι L (.inl (Nat.ne_of_lt (H.lt_size hk')))]
        exact hr.disj b b' k k' hk hk' hne hro hro' g g' hg hg'
      · cases hro'
    · cases hro
  · intro b k hk u hu
    have hs : h.size ≤ (h.lay cells).size := by simp [H.lay, H.size]
    rcases lay_get.1 hk with hk | ⟨rfl, rfl⟩
    · exact under_mono hs (hr.wf b k hk u hu)
    · exact under_mono hs (unders_mem hc.unders u hu)

theorem cell_add {w : World} {a : Addr} {p k : Nat} {v : Value} (h : w.cell? ((a.add p).add k) = some v) : w.cell? ⟨a.block, a.off + (p + k), none⟩ = some v ∧ (p + k = 0 → a.spot = none) := by
  obtain ⟨b, o, s⟩ := a
  unfold Addr.add at h
  by_cases hp : p = 0
  · by_cases hk : k = 0
    · rw [if_pos hk, if_pos hp] at h
      have hs : s = none := by
        unfold World.cell? at h
        split at h
        · split at h
          · cases h
          · rename_i hn
            simpa using hn
        · cases h
      subst hs hp hk
      exact ⟨h, fun _ => rfl⟩
    · rw [if_neg hk, if_pos hp] at h
      subst hp
      exact ⟨by simpa using h, fun h => by omega⟩
  · by_cases hk : k = 0
    · rw [if_pos hk, if_neg hp] at h
      subst hk
      exact ⟨by simpa using h, fun h => by omega⟩
    · rw [if_neg hk, if_neg hp] at h
      exact ⟨by simpa [Nat.add_assoc] using h, fun h => by omega⟩

/-- What is read of a type is so much in Hl's memory. -/
def OpensTo (enc : TypeId × Value → X) (P : Program) (W : World) (t : TypeId) {α : Type} (f : α → List V) (ok : H → α → Prop) : Prop :=
  ∀ fuel cs x (ι : Map) (l : List Blk), Rel ι W.heap.size ⟨l, []⟩ W → DataW.trod enc P W 0 (fun _ => true) true fuel t cs = some x →
    ∃ a ι' m, Rel ι' W.heap.size ⟨l ++ m, []⟩ W ∧ Agree ι ⟨l, []⟩ ι' ⟨l ++ m, []⟩ ∧ RelVs ι' ⟨l ++ m, []⟩ (f a) cs ∧ ok ⟨l ++ m, []⟩ a

theorem opens_row {e : TypeId} {z : Nat} {α : Type} {f : α → List V} {ok : H → α → Prop} (hz : 0 < z) (hf : ∀ a, (f a).length = z) (hok : ∀ l m a, ok ⟨l, []⟩ a → ok ⟨l ++ m, []⟩ a) (hE : OpensTo enc P W e f ok) {a : Addr} {fuel : Nat} :
    ∀ (n : Nat) (ι : Map) (l : List Blk), Rel ι W.heap.size ⟨l, []⟩ W → (∀ i, i < n → ∃ cs x, W.cells? 0 (a.add (i * z)) z = some cs ∧ DataW.trod enc P W 0 (fun _ => true) true fuel e cs = some x) →
    ∃ (L : List α) (vals : List Value) (ι' : Map) (m : List Blk), L.length = n ∧ Rel ι' W.heap.size ⟨l ++ m, []⟩ W ∧ Agree ι ⟨l, []⟩ ι' ⟨l ++ m, []⟩ ∧ RelVs ι' ⟨l ++ m, []⟩ (L.flatMap f) vals ∧ (∀ a ∈ L, ok ⟨l ++ m, []⟩ a) ∧
      vals.length = n * z ∧ (∀ j, j < n * z → W.cell? ⟨a.block, a.off + j, none⟩ = vals[j]?) ∧ (0 < n → a.spot = none)
  | 0, ι, l, hr, _ => ⟨[], [], ι, [], rfl, by simpa using hr, by simpa using Agree.refl ι ⟨l, []⟩, by simp [RelVs], by simp, by simp, by simp, by simp⟩
  | n + 1, ι, l, hr, hrow => by
    obtain ⟨L, vals, ι1, m1, h1, h2, h3, h4, h5, h6, h7, h8⟩ := opens_row hz hf hok hE n ι l hr (fun i hi => hrow i (by omega))
    obtain ⟨cs, x, hcs, htr⟩ := hrow n (by omega)
    obtain ⟨b, ι2, m2, g1, g2, g3, g4⟩ := hE fuel cs x ι1 _ h2 htr
    rw [List.append_assoc] at g1 g2 g3 g4
    obtain ⟨-, hl, hcell⟩ := World.cells?_some hcs
    have hcell' : ∀ k, k < z → W.cell? ⟨a.block, a.off + (n * z + k), none⟩ = cs[k]? ∧ (n * z + k = 0 → a.spot = none) := fun k hk => by
      have h := hcell k hk
      rw [List.getElem?_eq_getElem (by omega)] at h ⊢
      exact cell_add h
    refine ⟨L ++ [b], vals ++ cs, ι2, m1 ++ m2, by simp [h1], g1, h3.trans g2, ?_, ?_, ?_, ?_, ?_⟩
    · rw [List.flatMap_append, List.flatMap_singleton]
      exact RelVs.append (RelVs.step g2 h4) g3
    · intro y hy
      rcases List.mem_append.1 hy with hy | hy
      · rw [← List.append_assoc]
        exact hok _ _ _ (h5 y hy)
      · rw [List.mem_singleton.1 hy]
        exact g4
    · rw [List.length_append, h6, hl, Nat.add_mul, Nat.one_mul]
    · intro j hj
      by_cases hjn : j < n * z
      · rw [List.getElem?_append_left (by omega)]
        exact h7 j hjn
      · rw [List.getElem?_append_right (by omega), h6]
        have := (hcell' (j - n * z) (by rw [Nat.add_mul] at hj; omega)).1
        rw [show n * z + (j - n * z) = j by omega] at this
        exact this
    · intro _
      rcases Nat.eq_zero_or_pos n with rfl | hn
      · exact (hcell' 0 hz).2 (by simp)
      · exact h8 hn

/-- A slice that may be cut: its end is not its last place for good. -/
def FreeS (v : V) : Prop := ∀ b off n ver z, v = .sl b off n ver z true → n = 0
theorem FreeS.nils : FreeS .nils := fun _ _ _ _ _ h => by cases h
theorem heap_of_cell {w : World} {b o : Nat} {v : Value} (h : w.cell? ⟨b, o, none⟩ = some v) : ∃ C e fz, w.heap[b]? = some (.cells C e fz) ∧ C[o]? = some v := by
  unfold World.cell? at h
  split at h
  · rename_i c e fz hc
    simp only [Option.isSome_none, Bool.false_eq_true, if_false] at h
    exact ⟨c, e, fz, hc, h⟩
  · cases h

/-- A slice. -/
theorem opens_slice {t e : TypeId} {z : Nat} {α : Type} {f : α → List V} {ok : H → α → Prop} (ht : P.underlying t = some (.slice e)) (hc : P.cellsOf e = z) (hz : 0 < z) (hf : ∀ a, (f a).length = z) (hok : ∀ l m a, ok ⟨l, []⟩ a → ok ⟨l ++ m, []⟩ a)
    (hE : OpensTo enc P W e f ok) (hd : ∃ (b : Nat) (C : Array Value) (e' : TypeId) (fz : Nat × Nat), W.heap[b]? = some (Obj.cells C e' fz)) {fuel : Nat} {v : Value} {x : DataW X × List MemPlace} {ι : Map} {l : List Blk} (hr : Rel ι W.heap.size ⟨l, []⟩ W)
    (h : DataW.trod enc P W 0 (fun _ => true) true fuel t [v] = some x) :
    ∃ (L : List α) (u : V) (ι' : Map) (m : List Blk), Rel ι' W.heap.size ⟨l ++ m, []⟩ W ∧ Agree ι ⟨l, []⟩ ι' ⟨l ++ m, []⟩ ∧ RelV ι' ⟨l ++ m, []⟩ u v ∧ Sl ⟨l ++ m, []⟩ z L.length (L.flatMap f) u ∧ (∀ a ∈ L, ok ⟨l ++ m, []⟩ a) ∧ L.length ≤ maxLen ∧ FreeS u := by
  rcases DataW.trod_slice ht h with ⟨h0, -⟩ | ⟨a, len, cap, elems, rest, n, _, hv, -, hb, hlc, hm, hlen, hel, hsp, -⟩
  · simp only [List.cons.injEq, and_true] at h0
    subst h0
    exact ⟨[], .nils, ι, [], by simpa using hr, by simpa using Agree.refl ι ⟨l, []⟩, by simp [RelV], Sl.nil _ z, by simp, by simp, FreeS.nils⟩
  · simp only [List.cons.injEq, and_true] at hv
    subst hv
    rw [hc] at hel hsp
    obtain ⟨L, vals, ι1, m1, h1, h2, h3, h4, h5, h6, h7, h8⟩ := opens_row (a := a) (fuel := n) hz hf hok hE len ι l hr (fun i hi => by
      have := hel i hi
      rw [List.getElem?_eq_getElem (by omega), Option.bind_eq_some_iff] at this
      obtain ⟨cs, h1, h2⟩ := this
      exact ⟨cs, _, h1, h2⟩)
    have hfl : (L.flatMap f).length = len * z := by rw [flat_len hf, h1]
    by_cases hcap : cap = 0
    · subst hcap
      obtain rfl : len = 0 := by omega
      obtain rfl : L = [] := List.length_eq_zero_iff.1 h1
      obtain ⟨b, C, e', fz, hd⟩ := hd
      have hblt : b < W.heap.size := (Array.getElem?_eq_some_iff.1 hd).1
      obtain ⟨k1, k2⟩ := lay_ok (cells := []) (r := 0) (cend := 0) h2 hd hblt (by simp [RelVs])
      refine ⟨[], .sl (l ++ m1).length 0 0 0 z true, _, m1 ++ [⟨[], 0, 0, true⟩], by rw [← List.append_assoc]; exact k1, by rw [← List.append_assoc]; exact h3.trans k2, ?_, ?_, by simp, by simp, fun _ _ _ _ _ h => by injection h with _ _ h; exact h.symm⟩
      · simp only [RelV]
        refine ⟨a, 0, rfl, ⟨[], 0, 0, true⟩, by rw [← List.append_assoc]; simp, Nat.le_refl _, hz, Nat.le_refl _, fun _ => rfl, ?_, ?_, fun h => absurd rfl h, fun h => by cases h⟩
        all_goals rw [show (l ++ m1).length = (⟨l ++ m1, []⟩ : H).size from rfl, Map.set_self]
        · exact Nat.le_refl _
        · simp
      · exact .inr ⟨_, _, _, _, ⟨[], 0, 0, true⟩, rfl, by rw [← List.append_assoc]; simp, Nat.le_refl _, Nat.le_refl _, by simp, by simp⟩
    · have hblk : a.spot = none ∧ ∃ C e fz, W.heap[a.block]? = some (.cells C e fz) := by
        rcases Nat.eq_zero_or_pos len with h0 | h0
        · obtain ⟨hrl, hrr⟩ := hsp rfl
          have := hrr 0 (by omega)
          rw [List.getElem?_eq_getElem (by omega), Option.bind_eq_some_iff] at this
          obtain ⟨cs, h1, -⟩ := this
          obtain ⟨-, hl, hcell⟩ := World.cells?_some h1
          have h := hcell 0 hz
          rw [List.getElem?_eq_getElem (by omega)] at h
          have := cell_add h
          obtain ⟨C, e', fz, hC, -⟩ := heap_of_cell this.1
          exact ⟨this.2 (by simp [h0]), C, e', fz, hC⟩
        · have h := h7 0 (Nat.mul_pos h0 hz)
          rw [List.getElem?_eq_getElem (by rw [h6]; exact Nat.mul_pos h0 hz)] at h
          obtain ⟨C, e', fz, hC, -⟩ := heap_of_cell h
          exact ⟨h8 h0, C, e', fz, hC⟩
      obtain ⟨hspot, C, e', fz, hC⟩ := hblk
      have hblt : a.block < W.heap.size := (Array.getElem?_eq_some_iff.1 hC).1
      have hvals : (C.toList.drop a.off).take (L.flatMap f).length = vals := by
        refine List.ext_getElem? fun j => ?_
        rw [hfl, List.getElem?_take]
        split
        · rename_i hj
          rw [← h7 j hj, List.getElem?_drop]
          unfold World.cell?
          rw [hC]
          simp
        · rename_i hj
          rw [List.getElem?_eq_none (by omega)]
      obtain ⟨k1, k2⟩ := lay_ok (cells := L.flatMap f) (r := a.off) (cend := cap * z) h2 hC hblt (by rw [hvals]; exact h4)
      have hsz : (⟨l ++ m1, []⟩ : H).size = (l ++ m1).length := rfl
      refine ⟨L, .sl (l ++ m1).length 0 len 0 z false, _, m1 ++ [⟨L.flatMap f, 0, 0, true⟩], by rw [← List.append_assoc]; exact k1, by rw [← List.append_assoc]; exact h3.trans k2, ?_, ?_, fun y hy => by rw [← List.append_assoc]; exact hok _ _ _ (h5 y hy), by omega, fun _ _ _ _ _ h => by cases h⟩
      · simp only [RelV]
        refine ⟨a, cap, rfl, ⟨L.flatMap f, 0, 0, true⟩, by rw [← List.append_assoc]; simp, Nat.le_refl _, hz, hlc, (fun h => by cases h), ?_, ?_, fun _ => ?_, fun _ => ?_⟩
        all_goals rw [← hsz, Map.set_self]
        · exact Nat.le_refl _
        · simp only [Nat.zero_add]
          omega
        · obtain ⟨b, o, s⟩ := a
          simp only at hspot
          simp [hspot]
        · simp
      · exact .inr ⟨_, _, _, _, ⟨L.flatMap f, 0, 0, true⟩, by rw [h1], by rw [← List.append_assoc]; simp, Nat.le_refl _, Nat.le_refl _, by simp only [List.drop_zero]; rw [List.take_of_length_le (by rw [hfl, h1]; exact Nat.le_refl _)], by rw [hfl, h1]⟩
/-- A slice that is not in the blocks from n to k. -/
def Beyond (n k : Nat) (v : V) : Prop := ∀ b off len ver z lim, v = .sl b off len ver z lim → b < n ∨ k ≤ b
theorem Beyond.nils {n k : Nat} : Beyond n k .nils := fun _ _ _ _ _ _ h => by cases h
theorem Beyond.of_under {n k : Nat} {v : V} (h : V.under n v = true) : Beyond n k v := fun _ _ _ _ _ _ hv => by
  subst hv
  simp [V.under] at h
  exact .inl h
theorem Beyond.of_hi {n k : Nat} {v : V} (h : Hi k v) : Beyond n k v := fun _ _ _ _ _ _ hv => .inr (h _ _ _ _ _ _ hv)
theorem mid_swap {A mid mid' m : List Blk} {es es' : List (Nat × Nat)} {z n : Nat} {cs : List V} {v : V} (hl : mid'.length = mid.length) (hs : Sl ⟨A ++ (mid ++ m), es⟩ z n cs v) (ho : Beyond A.length (A.length + mid.length) v) : Sl ⟨A ++ (mid' ++ m), es'⟩ z n cs v := by
  rcases hs with hs | ⟨b, off, ver, lim, k, rfl, hk, h3⟩
  · exact .inl hs
  · refine .inr ⟨b, off, ver, lim, k, rfl, ?_, h3⟩
    simp only at hk ⊢
    rcases ho _ _ _ _ _ _ rfl with hb | hb
    · rw [List.getElem?_append_left hb] at hk ⊢
      exact hk
    · rw [List.getElem?_append_right (by omega), List.getElem?_append_right (by omega)] at hk ⊢
      rw [hl]
      exact hk
/-- A slice, cut. -/
theorem Sl.cut {h : H} {z n : Nat} {cs : List V} {v : V} (hs : Sl h z n cs v) (hf : FreeS v) {k : Nat} (hk : k ≤ n) :
    ∃ v', (∀ s b m zz et eb, sliceV ⟨s, b, m, zz, .slice et z eb⟩ v none (some (.int .i64 (k : Int))) = some v') ∧ Sl h z k (cs.take (k * z)) v' ∧ ∀ n k, Beyond n k v → Beyond n k v' := by
  rcases hs with ⟨rfl, rfl, rfl⟩ | ⟨b, off, ver, lim, x, rfl, hb, h1, h2, rfl, h4⟩
  · obtain rfl : k = 0 := by omega
    refine ⟨.nils, fun s b m zz et eb => ?_, by simpa using Sl.nil h z, fun _ _ h => h⟩
    simp [sliceV, optIdx, idx]
  · refine ⟨.sl b off k ver z lim, fun s b' m zz et eb => ?_, .inr ⟨b, off, ver, lim, x, rfl, hb, h1, h2, ?_, ?_⟩, fun _ _ h _ _ _ _ _ _ hv => by
      injection hv with hv
      subst hv
      exact h _ _ _ _ _ _ rfl⟩
    · have hl : ¬ (lim = true ∧ k < n) := fun ⟨h, h'⟩ => by
        subst h
        have := hf _ _ _ _ _ rfl
        omega
      have e1 : idx n (.int .i64 (k : Int)) = some k := by
        simp [idx]
        omega
      simp [sliceV, e1, optIdx, hl]
    · rw [List.take_take, Nat.min_eq_left (Nat.mul_le_mul_right z hk)]
    · rw [List.length_take, h4, Nat.min_eq_left (Nat.mul_le_mul_right z hk)]
/-- A struct's field: its type, where it lies, how many cells. -/
def fld (P : Program) (t : TypeId) (i : Nat) : Option (TypeId × Nat × Nat) := match P.underlying t with
  | some (.struct fs) => (fs[i]?).map fun f => (f.type, f.offset, P.cellsOf f.type)
  | _ => none
theorem trod_flds {t : TypeId} {fuel : Nat} {cs : List Value} {x : DataW X × List MemPlace} (hs : (fld P t 0).isSome = true) (h : DataW.trod enc P W 0 (fun _ => true) true fuel t cs = some x) :
    cs.length = P.cellsOf t ∧ ∃ n, ∀ i ty off c, fld P t i = some (ty, off, c) → ∃ y, DataW.trod enc P W 0 (fun _ => true) true n ty ((cs.drop off).take c) = some y := by
  have : ∃ fs, P.underlying t = some (.struct fs) := by
    unfold fld at hs
    split at hs
    · exact ⟨_, by assumption⟩
    · cases hs
  obtain ⟨fs, ht⟩ := this
  obtain ⟨xs, n, -, -, hl, hxl, hf⟩ := DataW.trod_struct ht h
  refine ⟨hl, n, fun i ty off c hi => ?_⟩
  unfold fld at hi
  rw [ht] at hi
  simp only [Option.map_eq_some_iff] at hi
  obtain ⟨f, hfi, he⟩ := hi
  simp only [Prod.mk.injEq] at he
  obtain ⟨rfl, rfl, rfl⟩ := he
  have hlt : i < xs.length := by
    rw [hxl]
    exact (Array.getElem?_eq_some_iff.1 hfi).1
  exact ⟨xs[i], by rw [hf i f hfi, List.getElem?_eq_getElem hlt]⟩
theorem take_one {cs : List Value} {i : Nat} {v : Value} (h : (cs.drop i).take 1 = [v]) : cs[i]? = some v := by
  have h2 : ((cs.drop i).take 1)[0]? = some v := by rw [h]; rfl
  rw [List.getElem?_take, if_pos (by decide), List.getElem?_drop] at h2
  simpa using h2
theorem int_leaf {t : TypeId} {k : IntKind} {fuel : Nat} {cs : List Value} {i : Nat} {x : DataW X × List MemPlace} (ht : P.underlying t = some (.int k)) (h : DataW.trod enc P W 0 (fun _ => true) true fuel t ((cs.drop i).take 1) = some x) : ∃ n, cs[i]? = some (.int k n) ∧ (Lit.int k n).wf = true := by
  obtain ⟨n, hcs, -, hw⟩ := DataW.trod_int ht h
  exact ⟨n, take_one hcs, hw⟩
theorem str_leaf {t : TypeId} {fuel : Nat} {cs : List Value} {i : Nat} {x : DataW X × List MemPlace} (ht : P.underlying t = some .string) (h : DataW.trod enc P W 0 (fun _ => true) true fuel t ((cs.drop i).take 1) = some x) : ∃ s : Bs, cs[i]? = some (.string ⟨s.toArray⟩) ∧ s.length ≤ maxLen := by
  obtain ⟨s, hcs, -, hw⟩ := DataW.trod_string ht h
  exact ⟨s.data.toList, take_one hcs, by simpa using hw⟩
structure Pm.Wide (p : Pm) : Prop where
  t : (Lit.int .i64 p.typ).wf = true
  v : p.val.length ≤ maxLen
/-- What is handed in for a chunk. -/
structure Ck.Wide (c : Ck) : Prop where
  i : ∀ x ∈ [c.typ, c.flags, c.stream, c.ssn, c.out, c.inn], (Lit.int .i64 x).wf = true
  u : ∀ x ∈ [c.tsn, c.proto, c.tag, c.rwnd], (Lit.int .u32 x).wf = true
  d : c.data.length ≤ maxLen
  p : ∀ x ∈ c.params, x.Wide
  k : ∀ x ∈ c.causes, x.Wide
  g : ∀ x ∈ c.gaps, (Lit.int .i64 x.1).wf = true ∧ (Lit.int .i64 x.2).wf = true
  n : ∀ x ∈ c.dups, (Lit.int .u32 x).wf = true
  lp : c.params.length ≤ maxLen
  lk : c.causes.length ≤ maxLen
  lg : c.gaps.length ≤ maxLen
  ln : c.dups.length ≤ maxLen
theorem opens_pm {t ti ts : TypeId} (h0 : fld P t 0 = some (ti, 0, 1)) (h1 : fld P t 1 = some (ts, 1, 1)) (hi : P.underlying ti = some (.int .i64)) (hs : P.underlying ts = some .string) (hc : P.cellsOf t = 2) :
    OpensTo enc P W t Pm.cells (fun _ p => p.Wide) := by
  intro fuel cs x ι l hr h
  obtain ⟨hl, n, hf⟩ := trod_flds (by rw [h0]; rfl) h
  rw [hc] at hl
  obtain ⟨_, y0⟩ := hf 0 _ _ _ h0
  obtain ⟨_, y1⟩ := hf 1 _ _ _ h1
  obtain ⟨a, ha, wa⟩ := int_leaf hi y0
  obtain ⟨s, hs, ws⟩ := str_leaf hs y1
  match cs, hl with
  | [u, v], _ =>
    simp only [List.getElem?_cons_zero, List.getElem?_cons_succ, Option.some.injEq] at ha hs
    subst ha hs
    exact ⟨⟨a, s⟩, ι, [], by simpa using hr, by simpa using Agree.refl ι ⟨l, []⟩, by simp [RelVs, RelV, Pm.cells], wa, ws⟩
theorem opens_gap {t ti : TypeId} (h0 : fld P t 0 = some (ti, 0, 1)) (h1 : fld P t 1 = some (ti, 1, 1)) (hi : P.underlying ti = some (.int .i64)) (hc : P.cellsOf t = 2) :
    OpensTo enc P W t gapCells (fun _ g => (Lit.int .i64 g.1).wf = true ∧ (Lit.int .i64 g.2).wf = true) := by
  intro fuel cs x ι l hr h
  obtain ⟨hl, n, hf⟩ := trod_flds (by rw [h0]; rfl) h
  rw [hc] at hl
  obtain ⟨_, y0⟩ := hf 0 _ _ _ h0
  obtain ⟨_, y1⟩ := hf 1 _ _ _ h1
  obtain ⟨a, ha, wa⟩ := int_leaf hi y0
  obtain ⟨b, hb, wb⟩ := int_leaf hi y1
  match cs, hl with
  | [u, v], _ =>
    simp only [List.getElem?_cons_zero, List.getElem?_cons_succ, Option.some.injEq] at ha hb
    subst ha hb
    exact ⟨⟨a, b⟩, ι, [], by simpa using hr, by simpa using Agree.refl ι ⟨l, []⟩, by simp [RelVs, RelV, gapCells], wa, wb⟩
theorem opens_u32 {t : TypeId} (hi : P.underlying t = some (.int .u32)) : OpensTo enc P W t dupCells (fun _ n => (Lit.int .u32 n).wf = true) := by
  intro fuel cs x ι l hr h
  obtain ⟨n, rfl, -, hw⟩ := DataW.trod_int hi h
  exact ⟨n, ι, [], by simpa using hr, by simpa using Agree.refl ι ⟨l, []⟩, by simp [RelVs, RelV, dupCells], hw⟩
theorem list15 {cs : List Value} (h : cs.length = 15) : ∃ a b c d e f g i j k l m n o p, cs = [a, b, c, d, e, f, g, i, j, k, l, m, n, o, p] := by
  match cs, h with
  | [a, b, c, d, e, f, g, i, j, k, l, m, n, o, p], _ => exact ⟨a, b, c, d, e, f, g, i, j, k, l, m, n, o, p, rfl⟩
open Go.RowKit in
theorem walk_open {C : CallT} (hmix : P.follows .mixedOrders = true) (hC : CallsOk C P) (hG : ∀ f args h v h', C f args h = some (v, h') → Grows h h') {f : FuncId} {args : List V} {h h' : H} (hc : Does P C f args h = some (.bool true, h')) {ι : Map} (w : World) (args' : List Value)
    (hrel : Rel ι w.heap.size h w) (hargs : RelVs ι h args args') : Calls P f args'.toArray w fun e w' => e = .returned (.bool true) ∧ Below w.heap.size w w' := by
  refine ((Does_ok hmix hC hG f args _ _ _ hc).2 _ _ w args' hargs hrel).mono ?_
  rintro e w' ⟨v', ι', rfl, hv, _, _, hb⟩
  simp only [RelV] at hv
  exact ⟨by rw [hv], hb⟩
end Go.Hl
end
section
namespace Go.Proofs.YtklbbjfbcibghaaGreat
open Go.Hl
set_option maxHeartbeats 4000000
variable {X : Type} {enc : TypeId × Value → X} {W : World}
def El.okW (h : H) (e : El) : Prop := e.ok h ∧ e.c.Wide ∧ FreeS e.vg ∧ FreeS e.vd
theorem opens_chunk (hd : ∃ (b : Nat) (C : Array Value) (e' : TypeId) (fz : Nat × Nat), W.heap[b]? = some (Obj.cells C e' fz)) : OpensTo enc Tryz.prog W 32 El.cells El.okW := by
  intro fuel cs x ι l hr h
  obtain ⟨hl, n, hf⟩ := trod_flds (by kernel_rfl) h
  rw [show Tryz.prog.cellsOf 32 = 15 by kernel_rfl] at hl
  obtain ⟨_, y0⟩ := hf 0 3 0 1 (by kernel_rfl)
  obtain ⟨_, y1⟩ := hf 1 3 1 1 (by kernel_rfl)
  obtain ⟨_, y2⟩ := hf 2 22 2 1 (by kernel_rfl)
  obtain ⟨_, y3⟩ := hf 3 3 3 1 (by kernel_rfl)
  obtain ⟨_, y4⟩ := hf 4 3 4 1 (by kernel_rfl)
  obtain ⟨_, y5⟩ := hf 5 22 5 1 (by kernel_rfl)
  obtain ⟨_, y6⟩ := hf 6 9 6 1 (by kernel_rfl)
  obtain ⟨_, y7⟩ := hf 7 22 7 1 (by kernel_rfl)
  obtain ⟨_, y8⟩ := hf 8 22 8 1 (by kernel_rfl)
  obtain ⟨_, y9⟩ := hf 9 3 9 1 (by kernel_rfl)
  obtain ⟨_, y10⟩ := hf 10 3 10 1 (by kernel_rfl)
  obtain ⟨_, y11⟩ := hf 11 27 11 1 (by kernel_rfl)
  obtain ⟨_, y12⟩ := hf 12 28 12 1 (by kernel_rfl)
  obtain ⟨_, y13⟩ := hf 13 29 13 1 (by kernel_rfl)
  obtain ⟨_, y14⟩ := hf 14 30 14 1 (by kernel_rfl)
  obtain ⟨a0, e0, w0⟩ := int_leaf Tryz.underlying3 y0
  obtain ⟨a1, e1, w1⟩ := int_leaf Tryz.underlying3 y1
  obtain ⟨a2, e2, w2⟩ := int_leaf Tryz.underlying22 y2
  obtain ⟨a3, e3, w3⟩ := int_leaf Tryz.underlying3 y3
  obtain ⟨a4, e4, w4⟩ := int_leaf Tryz.underlying3 y4
  obtain ⟨a5, e5, w5⟩ := int_leaf Tryz.underlying22 y5
  obtain ⟨a6, e6, w6⟩ := str_leaf Tryz.underlying9 y6
  obtain ⟨a7, e7, w7⟩ := int_leaf Tryz.underlying22 y7
  obtain ⟨a8, e8, w8⟩ := int_leaf Tryz.underlying22 y8
  obtain ⟨a9, e9, w9⟩ := int_leaf Tryz.underlying3 y9
  obtain ⟨a10, e10, w10⟩ := int_leaf Tryz.underlying3 y10
  clear y0 y1 y2 y3 y4 y5 y6 y7 y8 y9 y10 hf h
  obtain ⟨v0, v1, v2, v3, v4, v5, v6, v7, v8, v9, v10, v11, v12, v13, v14, rfl⟩ := list15 hl
  simp only [List.getElem?_cons_zero, List.getElem?_cons_succ, Option.some.injEq] at e0 e1 e2 e3 e4 e5 e6 e7 e8 e9 e10
  subst e0 e1 e2 e3 e4 e5 e6 e7 e8 e9 e10
  simp only [List.drop_succ_cons, List.drop_zero, List.take_succ_cons, List.take_zero] at y11 y12 y13 y14
  have c95 : Tryz.prog.cellsOf 47 = 2 := by kernel_rfl
  have c97 : Tryz.prog.cellsOf 44 = 2 := by kernel_rfl
  have c99 : Tryz.prog.cellsOf 143 = 2 := by kernel_rfl
  have c23 : Tryz.prog.cellsOf 22 = 1 := by kernel_rfl
  obtain ⟨L1, u1, ι1, m1, r1, g1, q1, s1, o1, n1, z1⟩ := opens_slice Tryz.underlying27 c95 (by decide) Pm.cells_len (fun _ _ _ h => h) (opens_pm (ti := 3) (ts := 9) (by kernel_rfl) (by kernel_rfl) Tryz.underlying3 Tryz.underlying9 c95) hd hr y11
  obtain ⟨L2, u2, ι2, m2, r2, g2, q2, s2, o2, n2, z2⟩ := opens_slice Tryz.underlying28 c97 (by decide) Pm.cells_len (fun _ _ _ h => h) (opens_pm (ti := 3) (ts := 9) (by kernel_rfl) (by kernel_rfl) Tryz.underlying3 Tryz.underlying9 c97) hd r1 y12
  obtain ⟨L3, u3, ι3, m3, r3, g3, q3, s3, o3, n3, z3⟩ := opens_slice Tryz.underlying29 c99 (by decide) gapCells_len (fun _ _ _ h => h) (opens_gap (ti := 3) (by kernel_rfl) (by kernel_rfl) Tryz.underlying3 c99) hd r2 y13
  obtain ⟨L4, u4, ι4, m4, r4, g4, q4, s4, o4, n4, z4⟩ := opens_slice Tryz.underlying30 c23 (by decide) dupCells_len (fun _ _ _ h => h) (opens_u32 Tryz.underlying22) hd r3 y14
  refine ⟨⟨⟨a0, a1, a2, a3, a4, a5, a6, a7, a8, a9, a10, L1, L2, L3, L4⟩, u1, u2, u3, u4⟩, ι4, m1 ++ (m2 ++ (m3 ++ m4)), by simpa only [List.append_assoc] using r4, ?_, ?_, ?_⟩
  · have := ((g1.trans g2).trans g3).trans g4
    simpa only [List.append_assoc] using this
  · have p1 := RelV.step g4 (RelV.step g3 (RelV.step g2 q1))
    have p2 := RelV.step g4 (RelV.step g3 q2)
    have p3 := RelV.step g4 q3
    simp only [List.append_assoc] at p1 p2 p3 q4
    simp (dsimp := false) [El.cells, Ck.cells, RelVs, RelV, p1, p2, p3, q4]
  · have t1 := Sl.app (es' := []) (m := m2 ++ (m3 ++ m4)) s1
    have t2 := Sl.app (es' := []) (m := m3 ++ m4) s2
    have t3 := Sl.app (es' := []) (m := m4) s3
    simp only [List.append_assoc] at t1 t2 t3 s4
    refine ⟨⟨t1, t2, t3, s4⟩, ⟨?_, ?_, w6, o1, o2, o3, o4, n1, n2, n3, n4⟩, z3, z4⟩
    · simp only [List.mem_cons, List.not_mem_nil, or_false]
      rintro x (rfl | rfl | rfl | rfl | rfl | rfl) <;> assumption
    · simp only [List.mem_cons, List.not_mem_nil, or_false]
      rintro x (rfl | rfl | rfl | rfl) <;> assumption
theorem block_of {P : Program} {t e : TypeId} {r : Reach} {base : Nat} {v : Value} (ht : P.underlying t = some (.slice e)) (h : Cell.okWide P W r base t v) : v = .slice none 0 0 ∨ ∃ (b : Nat) (C : Array Value) (e' : TypeId) (fz : Nat × Nat), W.heap[b]? = some (Obj.cells C e' fz) := by
  unfold Cell.okWide at h
  rw [ht] at h
  simp only at h
  unfold Cell.ok at h
  rw [ht] at h
  split at h
  all_goals first | (rename_i h0; cases h0; done) | skip
  · exact .inl rfl
  · obtain ⟨-, -, -, -, row, cells, hs, -⟩ := h
    right
    unfold World.shape? at hs
    split at hs
    · rename_i c e' fz hc
      exact ⟨_, c, e', fz, hc⟩
    · cases hs
  · cases h
theorem agg_of {P : Program} {t : TypeId} {r : Reach} {base : Nat} {v : Value} (hs : (fld P t 0).isSome = true) (h : Value.okWide P W r base t v) : ∃ cs, v = .agg cs ∧ cs.size = P.cellsOf t ∧ Row.okWide P W r base t cs := by
  unfold fld at hs
  split at hs
  · rename_i fs ht
    unfold Value.okWide at h
    rw [ht] at h
    exact h
  · cases hs
theorem list4 {cs : List Value} (h : cs.length = 4) : ∃ a b c d, cs = [a, b, c, d] := by
  match cs, h with
  | [a, b, c, d], _ => exact ⟨a, b, c, d, rfl⟩
theorem rel0 (w : World) : Rel (fun _ _ => ⟨0, 0, 0, 0, 0⟩) w.heap.size ⟨[], []⟩ w :=
  ⟨fun b k hk => by simp at hk, fun b b' k k' hk => by simp at hk, Nat.le_refl _, fun b k hk => by simp at hk⟩
set_option maxRecDepth 100000 in
theorem open_packet {r : Reach} {base : Nat} {v : Value} {d : DataW X} {ps : List MemPlace} (hval : Value.okWide Tryz.prog W r base 35 v) (h : DataW.Trod enc Tryz.prog W 0 (fun _ => true) true 35 v d ps) :
    ∃ (f t tag : Int) (L : List El) (u : V) (ι : Map) (m : List Blk), Rel ι W.heap.size ⟨m, []⟩ W ∧ RelV ι ⟨m, []⟩ (.agg [.int .i64 f, .int .i64 t, .int .u32 tag, u]) v ∧ CksIs ⟨m, []⟩ L u ∧ (∀ e ∈ L, e.c.Wide ∧ FreeS e.vg ∧ FreeS e.vd) ∧ L.length ≤ maxLen ∧
      (Lit.int .i64 f).wf = true ∧ (Lit.int .i64 t).wf = true ∧ (Lit.int .u32 tag).wf = true := by
  obtain ⟨cs, rfl, hsz, ts, hts, -, hcell⟩ := agg_of (P := Tryz.prog) (t := 35) (by kernel_rfl) hval
  obtain ⟨fuel, h⟩ := h
  have hl4 : cs.toList.length = 4 := by
    rw [Array.length_toList, hsz]
    kernel_rfl
  have hct : Tryz.prog.cellTypes Tryz.prog.depth 35 = some [3, 3, 22, 33] := by kernel_rfl
  obtain rfl : [3, 3, 22, 33] = ts := Option.some.inj (hct.symm.trans hts)
  obtain ⟨hl, n, hf⟩ := trod_flds (by kernel_rfl) h
  obtain ⟨_, y0⟩ := hf 0 3 0 1 (by kernel_rfl)
  obtain ⟨_, y1⟩ := hf 1 3 1 1 (by kernel_rfl)
  obtain ⟨_, y2⟩ := hf 2 22 2 1 (by kernel_rfl)
  obtain ⟨_, y3⟩ := hf 3 33 3 1 (by kernel_rfl)
  have hcl : (Value.agg cs).cells.toList = cs.toList := rfl
  rw [hcl] at y0 y1 y2 y3
  obtain ⟨a0, e0, w0⟩ := int_leaf Tryz.underlying3 y0
  obtain ⟨a1, e1, w1⟩ := int_leaf Tryz.underlying3 y1
  obtain ⟨a2, e2, w2⟩ := int_leaf Tryz.underlying22 y2
  obtain ⟨v0, v1, v2, v3, hv⟩ := list4 hl4
  have hcs : cs = #[v0, v1, v2, v3] := by rw [← @Array.toArray_toList _ cs, hv]
  subst hcs
  simp only [List.getElem?_cons_zero, List.getElem?_cons_succ, Option.some.injEq] at e0 e1 e2
  subst e0 e1 e2
  simp only [List.drop_succ_cons, List.drop_zero, List.take_succ_cons, List.take_zero] at y3
  obtain ⟨u, hu, hok⟩ := hcell 3 v3 rfl
  simp only [List.length_cons, List.length_nil] at hu
  obtain rfl : 33 = u := Option.some.inj hu
  rcases block_of Tryz.underlying33 hok with rfl | hd
  · exact ⟨a0, a1, a2, [], .nils, _, [], rel0 W, by simp (dsimp := false) [RelV, RelVs], ⟨Sl.nil _ 15, by simp⟩, by simp, by simp, w0, w1, w2⟩
  · obtain ⟨L, u, ι, m, h1, -, h3, h4, h5, h6, -⟩ := opens_slice Tryz.underlying33 (by kernel_rfl) (by decide) El.cells_len (fun l m a h => ⟨CkIs.app h.1 m, h.2⟩) (opens_chunk hd) hd (rel0 W) y3
    rw [List.nil_append] at h1 h3 h4 h5
    exact ⟨a0, a1, a2, L, u, ι, m, h1, by simp (dsimp := false) [RelV, RelVs, h3], ⟨h4, fun e he => (h5 e he).1⟩, fun e he => (h5 e he).2, h6, w0, w1, w2⟩
end Go.Proofs.YtklbbjfbcibghaaGreat
end
section
namespace Go.Proofs.YtklbbjfbcibghaaGreat
open Go.Hl
set_option maxHeartbeats 4000000
def cutPm (p : Pm) : Pm := ⟨p.typ, p.val.take 60⟩
def cutCk (c : Ck) : Ck := { c with data := c.data.take 950, params := (c.params.take 18).map cutPm, causes := (c.causes.take 18).map cutPm, gaps := c.gaps.take 18, dups := c.dups.take 18 }
variable {C : CallT} {h : H}
/-- What a cut chunk is. -/
def CutPost (h : H) (c : Ck) (ug ud : V) (x : V × H) : Prop := ∃ vp vc vg vd, x.1 = .agg ((cutCk c).cells vp vc vg vd) ∧ Ext h x.2 ∧ CkIs x.2 (cutCk c) vp vc vg vd ∧ Hi h.blks.length vp ∧ Hi h.blks.length vc ∧ (∀ n k, Beyond n k ug → Beyond n k vg) ∧ ∀ n k, Beyond n k ud → Beyond n k vd
theorem sl_at {l : List Blk} {es : List (Nat × Nat)} {z b k : Nat} {cs : List V} (hb : l[b]? = some ⟨cs, k, 0, false⟩) (hc : cs.length = k * z) : Sl ⟨l, es⟩ z k cs (.sl b 0 k k z false) :=
  .inr ⟨b, 0, k, false, ⟨cs, k, 0, false⟩, rfl, hb, Nat.zero_le _, Nat.le_refl _, by simp only [List.drop_zero]; rw [List.take_of_length_le (Nat.le_of_eq hc)], hc⟩
theorem flat_cut {α : Type} {f : α → List V} {z : Nat} (hf : ∀ a, (f a).length = z) {l : List α} {k : Nat} : (l.take k).flatMap f = (l.flatMap f).take (k * z) := by
  induction l generalizing k with
  | nil => simp
  | cons a l ih =>
    cases k with
    | zero => simp
    | succ k =>
      have h1 : (f a).take ((k + 1) * z) = f a := List.take_of_length_le (by rw [hf a]; exact Nat.le_mul_of_pos_left _ (by omega))
      have h2 : (k + 1) * z - (f a).length = k * z := by
        rw [hf a, Nat.add_mul]
        omega
      rw [List.take_succ_cons, List.flatMap_cons, List.flatMap_cons, List.take_append, h1, h2, ih]
theorem take_min {α : Type} (k : Nat) (l : List α) : l.take (min k l.length) = l.take k := by
  rw [← List.take_take, List.take_length]
theorem cut_min {K : Int} (k n : Nat) (hK : K = (k : Int)) : ∃ d : Nat, (if K < (n : Int) then K else (n : Int)) = (d : Int) ∧ (((d : Int) ≤ (n : Int)) = True) ∧ d = min k n :=
  ⟨min k n, by split <;> omega, eq_true (by omega), rfl⟩
set_option maxRecDepth 100000 in
theorem cut06 {c : Ck} {vp vc vg vd : V} (hc : CkIs h c vp vc vg vd) (_hw : c.Wide) (fg : FreeS vg) (fd : FreeS vd) : Ok (Does Tryz.prog C 86 [.agg (c.cells vp vc vg vd)] h) (CutPost h c vg vd) := by
  have hf := hc.facts
  have l1 := hc.sp.len Tryz.underlying27
  have l2 := hc.sc.len Tryz.underlying28
  have l3 := hc.sg.len Tryz.underlying29
  have l4 := hc.sd.len Tryz.underlying30
  obtain ⟨nd, hnd, hnd1, hnd2⟩ := cut_min (K := 950) 950 c.data.length rfl
  obtain ⟨np, hnp⟩ : ∃ n, n = min 18 c.params.length := ⟨_, rfl⟩
  obtain ⟨nc, hnc⟩ : ∃ n, n = min 18 c.causes.length := ⟨_, rfl⟩
  obtain ⟨pp1, pp2, hp1, -, hp3, hp4⟩ := (hc.sp.blks (h' := ⟨h.blks, []⟩) rfl).atF Pm.cells_len
  obtain ⟨pk1, pk2, hk1, -, hk3, hk4⟩ := (hc.sc.blks (h' := ⟨h.blks, []⟩) rfl).atF Pm.cells_len
  obtain ⟨ng, hng, hng1, hng2⟩ := cut_min (K := 18) 18 c.gaps.length rfl
  obtain ⟨nu, hnu, hnu1, hnu2⟩ := cut_min (K := 18) 18 c.dups.length rfl
  obtain ⟨vg', hvg, hsg, hog⟩ := Sl.cut hc.sg fg (k := ng) (by omega)
  obtain ⟨vd', hvd, hsd, hod⟩ := Sl.cut hc.sd fd (k := nu) (by omega)
  have hfg := hsg.facts
  have hfd := hsd.facts
  unfold Ck.cells at *
  refine Does_wp (n := 112) (rs := [.cell 2 32]) Tryz.func86 (by kernel_rfl) rfl rfl rfl (by simp) fun σ hg => ?_
  simp (dsimp := false) [hg, hf, splice, hnd, hnd1]
  refine W_loopM (fun k σ h' => ∃ i : Nat, ∃ m es0, k = np - i ∧ i ≤ np ∧ h' = ⟨h.blks ++ (⟨[.int .i64 c.typ, .int .i64 c.flags, .int .u32 c.tsn, .int .i64 c.stream, .int .i64 c.ssn, .int .u32 c.proto, .str c.data, .int .u32 c.tag, .int .u32 c.rwnd, .int .i64 c.out, .int .i64 c.inn, vp, vc, vg, vd], 0, 0, false⟩ :: ⟨ck0.cells .nils .nils .nils .nils, 0, 0, false⟩ :: ⟨[.int .i64 c.typ, .int .i64 c.flags, .int .u32 c.tsn, .int .i64 c.stream, .int .i64 c.ssn, .int .u32 c.proto, .str (c.data.take nd), .int .u32 c.tag, .int .u32 c.rwnd, .int .i64 c.out, .int .i64 c.inn, .sl (h.blks.length + 3) 0 i i 2 false, .sl (h.blks.length + 4) 0 0 0 2 false, vg, vd], 0, 0, false⟩ :: ⟨((c.params.take i).map cutPm).flatMap Pm.cells, i, 0, false⟩ :: ⟨((c.causes.take 0).map cutPm).flatMap Pm.cells, 0, 0, false⟩ :: m), es0⟩ ∧ σ 1 = .ptr h.blks.length 0 0 15 ∧ σ 2 = .ptr (h.blks.length + 1) 0 0 15 ∧ σ 3 = .ptr (h.blks.length + 2) 0 0 15 ∧ σ 4 = .int .i64 i ∧ (∀ y ∈ es0, h.blks.length ≤ y.1)) ?_ np _ _ ?_
  · rintro _ σ _ ⟨i, m, es0, rfl, hi, rfl, h1, h2, h3, h4, he⟩
    have hE : ∀ m, Ext ⟨h.blks, []⟩ ⟨h.blks ++ m, es0⟩ := fun m => ⟨m, es0, by simp, he⟩
    by_cases hlt : i < np
    · have hli : i < c.params.length := by omega
      have d1 := eq_true (show i < c.params.length by omega)
      have d2 := eq_true (show (i : Int) < 18 by omega)
      obtain ⟨nv, hnv, hnv1, hnv2⟩ := cut_min (K := 60) 60 c.params[i].val.length rfl
      have hnt : c.params[i].val.take nv = c.params[i].val.take 60 := by rw [hnv2, take_min]
      have hx := fun m => hp4 i hli 0 (by decide) _ (hE m)
      have hy := fun m => hp4 i hli 1 (by decide) _ (hE m)
      have hia := hp1 i hli
      have hfa := hp3 i hli
      simp only [Pm.cells] at hx hy
      simp at hx hy
      have ha := append_at (es := es0) (l := h.blks ++ (⟨[.int .i64 c.typ, .int .i64 c.flags, .int .u32 c.tsn, .int .i64 c.stream, .int .i64 c.ssn, .int .u32 c.proto, .str c.data, .int .u32 c.tag, .int .u32 c.rwnd, .int .i64 c.out, .int .i64 c.inn, vp, vc, vg, vd], 0, 0, false⟩ :: ⟨ck0.cells .nils .nils .nils .nils, 0, 0, false⟩ :: ⟨[.int .i64 c.typ, .int .i64 c.flags, .int .u32 c.tsn, .int .i64 c.stream, .int .i64 c.ssn, .int .u32 c.proto, .str (c.data.take nd), .int .u32 c.tag, .int .u32 c.rwnd, .int .i64 c.out, .int .i64 c.inn, .sl (h.blks.length + 3) 0 i i 2 false, .sl (h.blks.length + 4) 0 0 0 2 false, vg, vd], 0, 0, false⟩ :: ⟨((c.params.take i).map cutPm).flatMap Pm.cells, i, 0, false⟩ :: ⟨((c.causes.take 0).map cutPm).flatMap Pm.cells, 0, 0, false⟩ :: (m ++ [⟨(cutPm c.params[i]).cells, 0, 0, false⟩]))) (cs := ((c.params.take i).map cutPm).flatMap Pm.cells) (ys := (cutPm c.params[i]).cells) (k := i) (esz := 2) (eb := 24) (b := h.blks.length + 3) (j := h.blks.length + (m.length + 1 + 1 + 1 + 1 + 1)) (by simp) (by simp)
        (by rw [flat_len Pm.cells_len]; simp; omega) rfl (by decide) (by simp (dsimp := false) [Pm.cells]) (Nat.le_trans (Nat.mul_le_mul_right 24 (show i + 1 ≤ 18 by omega)) (by decide)) (Nat.le_trans (show i + 1 ≤ 18 by omega) (by decide))
      simp (dsimp := false) [Pm.cells, cutPm, ck0, Ck.cells] at ha
      simp (dsimp := false) [-run_groupK, run_join, h1, h4, l1, d1, d2, ck0, Ck.cells]
      refine (W_anyF (F := [(1, 24)]) (by kernel_rfl)).2 ?_
      simp (dsimp := false) [-run_groupK, h1, h2, h3, h4, hia, hfa, hx, hy, hnv, hnv1, hnt, splice, ha, ck0, Ck.cells]
      have hfl : ((c.params.map cutPm).take i).flatMap Pm.cells ++ [.int .i64 c.params[i].typ, .str (c.params[i].val.take 60)] = ((c.params.map cutPm).take (i + 1)).flatMap Pm.cells := by
        rw [flat_take (show i < (c.params.map cutPm).length by simpa using hli)]
        simp (dsimp := false) [cutPm, Pm.cells]
      refine ⟨np - (i + 1), by omega, i + 1, rfl, by omega, _, _, ⟨⟨rfl, ⟨hfl, rfl⟩, rfl⟩, rfl⟩, by rw [wrap_succ hlt (by omega)], ?_⟩
      intro a b hab
      rcases List.mem_append.1 hab with hab | hab
      · exact he _ hab
      · simp only [List.mem_singleton, Prod.mk.injEq] at hab
        omega
    · have d1 := eq_false (show ¬ (i < c.params.length ∧ (i : Int) < 18) by omega)
      obtain rfl : np = i := by omega
      simp (dsimp := false) [-run_groupK, run_join, h1, h4, l1, d1]
      refine W_loopM (fun k σ h' => ∃ i : Nat, ∃ m es0, k = nc - i ∧ i ≤ nc ∧ h' = ⟨h.blks ++ (⟨[.int .i64 c.typ, .int .i64 c.flags, .int .u32 c.tsn, .int .i64 c.stream, .int .i64 c.ssn, .int .u32 c.proto, .str c.data, .int .u32 c.tag, .int .u32 c.rwnd, .int .i64 c.out, .int .i64 c.inn, vp, vc, vg, vd], 0, 0, false⟩ :: ⟨ck0.cells .nils .nils .nils .nils, 0, 0, false⟩ :: ⟨[.int .i64 c.typ, .int .i64 c.flags, .int .u32 c.tsn, .int .i64 c.stream, .int .i64 c.ssn, .int .u32 c.proto, .str (c.data.take nd), .int .u32 c.tag, .int .u32 c.rwnd, .int .i64 c.out, .int .i64 c.inn, .sl (h.blks.length + 3) 0 np np 2 false, .sl (h.blks.length + 4) 0 i i 2 false, vg, vd], 0, 0, false⟩ :: ⟨((c.params.take np).map cutPm).flatMap Pm.cells, np, 0, false⟩ :: ⟨((c.causes.take i).map cutPm).flatMap Pm.cells, i, 0, false⟩ :: m), es0⟩ ∧ σ 1 = .ptr h.blks.length 0 0 15 ∧ σ 2 = .ptr (h.blks.length + 1) 0 0 15 ∧ σ 3 = .ptr (h.blks.length + 2) 0 0 15 ∧ σ 5 = .int .i64 i ∧ (∀ y ∈ es0, h.blks.length ≤ y.1)) ?_ nc _ _ ?_
      · rintro _ σ _ ⟨i, m, es0, rfl, hi, rfl, h1, h2, h3, h4, he⟩
        have hE : ∀ m, Ext ⟨h.blks, []⟩ ⟨h.blks ++ m, es0⟩ := fun m => ⟨m, es0, by simp, he⟩
        by_cases hlt : i < nc
        · have hli : i < c.causes.length := by omega
          have d1 := eq_true (show i < c.causes.length by omega)
          have d2 := eq_true (show (i : Int) < 18 by omega)
          obtain ⟨nv, hnv, hnv1, hnv2⟩ := cut_min (K := 60) 60 c.causes[i].val.length rfl
          have hnt : c.causes[i].val.take nv = c.causes[i].val.take 60 := by rw [hnv2, take_min]
          have hx := fun m => hk4 i hli 0 (by decide) _ (hE m)
          have hy := fun m => hk4 i hli 1 (by decide) _ (hE m)
          have hia := hk1 i hli
          have hfa := hk3 i hli
          simp only [Pm.cells] at hx hy
          simp at hx hy
          have ha := append_at (es := es0) (l := h.blks ++ (⟨[.int .i64 c.typ, .int .i64 c.flags, .int .u32 c.tsn, .int .i64 c.stream, .int .i64 c.ssn, .int .u32 c.proto, .str c.data, .int .u32 c.tag, .int .u32 c.rwnd, .int .i64 c.out, .int .i64 c.inn, vp, vc, vg, vd], 0, 0, false⟩ :: ⟨ck0.cells .nils .nils .nils .nils, 0, 0, false⟩ :: ⟨[.int .i64 c.typ, .int .i64 c.flags, .int .u32 c.tsn, .int .i64 c.stream, .int .i64 c.ssn, .int .u32 c.proto, .str (c.data.take nd), .int .u32 c.tag, .int .u32 c.rwnd, .int .i64 c.out, .int .i64 c.inn, .sl (h.blks.length + 3) 0 np np 2 false, .sl (h.blks.length + 4) 0 i i 2 false, vg, vd], 0, 0, false⟩ :: ⟨((c.params.take np).map cutPm).flatMap Pm.cells, np, 0, false⟩ :: ⟨((c.causes.take i).map cutPm).flatMap Pm.cells, i, 0, false⟩ :: (m ++ [⟨(cutPm c.causes[i]).cells, 0, 0, false⟩]))) (cs := ((c.causes.take i).map cutPm).flatMap Pm.cells) (ys := (cutPm c.causes[i]).cells) (k := i) (esz := 2) (eb := 24) (b := h.blks.length + 4) (j := h.blks.length + (m.length + 1 + 1 + 1 + 1 + 1)) (by simp) (by simp)
            (by rw [flat_len Pm.cells_len]; simp; omega) rfl (by decide) (by simp (dsimp := false) [Pm.cells]) (Nat.le_trans (Nat.mul_le_mul_right 24 (show i + 1 ≤ 18 by omega)) (by decide)) (Nat.le_trans (show i + 1 ≤ 18 by omega) (by decide))
          simp (dsimp := false) [Pm.cells, cutPm, ck0, Ck.cells] at ha
          simp (dsimp := false) [-run_groupK, run_join, h1, h4, l2, d1, d2, ck0, Ck.cells]
          refine (W_anyF (F := [(1, 24)]) (by kernel_rfl)).2 ?_
          simp (dsimp := false) [-run_groupK, h1, h2, h3, h4, hia, hfa, hx, hy, hnv, hnv1, hnt, splice, ha, ck0, Ck.cells]
          have hfl : ((c.causes.map cutPm).take i).flatMap Pm.cells ++ [.int .i64 c.causes[i].typ, .str (c.causes[i].val.take 60)] = ((c.causes.map cutPm).take (i + 1)).flatMap Pm.cells := by
            rw [flat_take (show i < (c.causes.map cutPm).length by simpa using hli)]
            simp (dsimp := false) [cutPm, Pm.cells]
          refine ⟨nc - (i + 1), by omega, i + 1, rfl, by omega, _, _, ⟨⟨rfl, ⟨hfl, rfl⟩, rfl⟩, rfl⟩, by rw [wrap_succ hlt (by omega)], ?_⟩
          intro a b hab
          rcases List.mem_append.1 hab with hab | hab
          · exact he _ hab
          · simp only [List.mem_singleton, Prod.mk.injEq] at hab
            omega
        · have d1 := eq_false (show ¬ (i < c.causes.length ∧ (i : Int) < 18) by omega)
          obtain rfl : nc = i := by omega
          simp (dsimp := false) [-run_groupK, run_join, h1, h4, l2, d1]
          refine (W_anyF (F := [(8, 15), (10, 15)]) (by kernel_rfl)).2 ?_
          simp (dsimp := false) [h1, h2, h3, l3, l4, hng, hnu, hvg, hvd, hfg, hfd, splice, ck0, Ck.cells]

          rw [show c.data.take nd = c.data.take 950 by rw [hnd2, take_min]]
          have ep : (cutCk c).params = (c.params.map cutPm).take np := by
            have := take_min 18 (c.params.map cutPm)
            rw [List.length_map, ← hnp] at this
            rw [this]
            simp (dsimp := false) [cutCk, List.map_take]
          have ek : (cutCk c).causes = (c.causes.map cutPm).take nc := by
            have := take_min 18 (c.causes.map cutPm)
            rw [List.length_map, ← hnc] at this
            rw [this]
            simp (dsimp := false) [cutCk, List.map_take]
          have eg : (cutCk c).gaps = c.gaps.take ng := by rw [hng2, take_min]; rfl
          have eu : (cutCk c).dups = c.dups.take nu := by rw [hnu2, take_min]; rfl
          have lp : ((c.params.map cutPm).take np).length = np := by simp; omega
          have lk : ((c.causes.map cutPm).take nc).length = nc := by simp; omega
          have lg : (c.gaps.take ng).length = ng := by simp; omega
          have lu : (c.dups.take nu).length = nu := by simp; omega
          refine ⟨.sl (h.blks.length + 3) 0 np np 2 false, .sl (h.blks.length + 4) 0 nc nc 2 false, vg', vd', rfl, leave_ext ?_, ⟨leave_sl ?_ ?_, leave_sl ?_ ?_, leave_sl ?_ ?_, leave_sl ?_ ?_⟩, ?_, ?_, hog, hod⟩
          · intro y hy
            simp only [List.mem_append, List.mem_cons, List.not_mem_nil, or_false] at hy
            rcases hy with hy | rfl | rfl
            · exact he y hy
            all_goals (show h.blks.length ≤ _; simp only; omega)
          · rw [ep, lp]
            exact sl_at (by simp) (by rw [flat_len Pm.cells_len, lp])
          · intro hh
            simp at hh
            omega
          · rw [ek, lk]
            exact sl_at (by simp) (by rw [flat_len Pm.cells_len, lk])
          · intro hh
            simp at hh
            omega
          · rw [eg, lg, flat_cut gapCells_len]
            exact (hsg.blks (h' := ⟨h.blks, []⟩) rfl).app
          · exact fun _ => hfg.2.2.2.1
          · rw [eu, lu, flat_cut dupCells_len]
            exact (hsd.blks (h' := ⟨h.blks, []⟩) rfl).app
          · exact fun _ => hfd.2.2.2.1
          · exact fun _ _ _ _ _ _ h => by injection h; omega
          · exact fun _ _ _ _ _ _ h => by injection h; omega
      · exact ⟨0, m, es0, by simp (dsimp := false) [h1, h2, h3]; exact fun a b hab => he _ hab⟩
  · exact ⟨0, [], [(h.blks.length + 2, h.blks.length + 3), (h.blks.length + 2, h.blks.length + 4)], by simp (dsimp := false) [ck0, Ck.cells, Nat.le_add_right]⟩
end Go.Proofs.YtklbbjfbcibghaaGreat
end
section
namespace Go.Proofs.YtklbbjfbcibghaaGreat
open Go.Hl
set_option maxHeartbeats 4000000
structure CksO (n k : Nat) (h : H) (l : List El) (v : V) : Prop where
  is : CksIs h l v
  own : OwnF k h 15 l.length v
  el : ∀ e ∈ l, ∀ u ∈ [e.vp, e.vc, e.vg, e.vd], Beyond n k u
theorem CkIs.mid {A mid mid' m : List Blk} {es es' : List (Nat × Nat)} {c : Ck} {vp vc vg vd : V} (hl : mid'.length = mid.length) (hs : CkIs ⟨A ++ (mid ++ m), es⟩ c vp vc vg vd) (ho : ∀ u ∈ [vp, vc, vg, vd], Beyond A.length (A.length + mid.length) u) : CkIs ⟨A ++ (mid' ++ m), es'⟩ c vp vc vg vd :=
  ⟨mid_swap hl hs.sp (ho _ (by simp)), mid_swap hl hs.sc (ho _ (by simp)), mid_swap hl hs.sg (ho _ (by simp)), mid_swap hl hs.sd (ho _ (by simp))⟩
theorem CksO.mid {A mid mid' m : List Blk} {es es' : List (Nat × Nat)} {l : List El} {v : V} (hl : mid'.length = mid.length) (hS : CksO A.length (A.length + mid.length) ⟨A ++ (mid ++ m), es⟩ l v) : CksO A.length (A.length + mid.length) ⟨A ++ (mid' ++ m), es'⟩ l v := by
  have h1 := hS.is.sl
  have h2 := hS.own
  rw [← List.append_assoc] at h1 h2
  rw [← List.length_append] at h2
  obtain ⟨h3, h4⟩ := SlOwn_swap (p' := A ++ mid') (es' := es') (by simp (dsimp := false) [hl]) h1 h2
  rw [List.append_assoc] at h3 h4
  rw [List.length_append, hl] at h4
  exact ⟨⟨h3, fun e he => CkIs.mid hl (hS.is.el e he) (hS.el e he)⟩, h4, hS.el⟩
theorem CksO.app {n k : Nat} {l : List Blk} {es es' : List (Nat × Nat)} {L : List El} {v : V} (s : CksO n k ⟨l, es⟩ L v) (m : List Blk) : CksO n k ⟨l ++ m, es'⟩ L v := ⟨s.is.app m, s.own.app, s.el⟩
theorem CksO.nil (n k : Nat) (h : H) : CksO n k h [] .nils := ⟨⟨Sl.nil h 15, by simp⟩, OwnF.nil k h 15, by simp⟩
theorem CksO.snoc {n : Nat} {pre m : List Blk} {es : List (Nat × Nat)} {l : List El} {v : V} {e : El} (hS : CksO n pre.length ⟨pre ++ m, es⟩ l v) (he : e.ok ⟨pre ++ m, es⟩) (hH : ∀ u ∈ [e.vp, e.vc, e.vg, e.vd], Beyond n pre.length u) (hl : l.length ≤ 1000) (j : Nat) (hj : j = pre.length + m.length) :
    ∃ v' m' es', appendV 15 184 ⟨pre ++ (m ++ [⟨e.cells, 0, 0, false⟩]), es⟩ v (.sl j 0 1 0 15 false) = some (v', ⟨pre ++ m', es ++ es'⟩) ∧ (∀ x ∈ es', pre.length ≤ x.1) ∧ CksO n pre.length ⟨pre ++ m', es ++ es'⟩ (l ++ [e]) v' ∧ v' ≠ .nils := by
  have hok : e.cells.all V.cellOk = true := by
    have := CkIs.facts he
    simp (dsimp := false) [El.cells, Ck.cells, this]
  obtain ⟨v', m', es', h1, h2, h3, h4, h5, -, h7⟩ := append_new (eb := 184) (ys := e.cells) hS.is.sl hS.own rfl (by decide) hok (by omega) (by omega) j hj
  refine ⟨v', m', es', h1, h4, ⟨⟨?_, ?_⟩, ?_, ?_⟩, h7⟩
  · rw [List.length_append, List.flatMap_append, List.flatMap_singleton]
    exact h2
  · intro x hx
    rcases List.mem_append.1 hx with hx | hx
    · exact CkIs.keep (hS.is.el x hx) h5
    · rw [List.mem_singleton.1 hx]
      exact CkIs.keep he h5
  · rw [List.length_append]
    exact h3
  · intro x hx
    rcases List.mem_append.1 hx with hx | hx
    · exact hS.el x hx
    · rw [List.mem_singleton.1 hx]
      exact hH
def cutL (l : List Ck) : List Ck := (l.take 22).map cutCk
variable {C : CallT} {h : H}
/-- What a cut packet is. -/
def PkPost (h : H) (f t tag : Int) (l : List Ck) (x : V × H) : Prop := ∃ L v, x.1 = .agg [.int .i64 f, .int .i64 t, .int .u32 tag, v] ∧ Ext h x.2 ∧ CksIs x.2 L v ∧ L.map El.c = cutL l
set_option maxRecDepth 100000 in
theorem cut07 {l : List El} {v : V} {f t tag : Int} (hs : CksIs h l v) (hw : ∀ e ∈ l, e.c.Wide ∧ FreeS e.vg ∧ FreeS e.vd) : Ok (Does Tryz.prog C 51 [.agg [.int .i64 f, .int .i64 t, .int .u32 tag, v]] h) (PkPost h f t tag (l.map El.c)) := by
  have hlen := hs.sl.len Tryz.underlying33
  have hf := hs.sl.facts
  have hs' := hs.blks (h' := ⟨h.blks, []⟩) rfl
  obtain ⟨p, hia, hrd, -⟩ := hs'.sl.at El.cells_len
  obtain ⟨N, hN⟩ : ∃ n, n = min 22 l.length := ⟨_, rfl⟩
  refine Does_wp (n := 35) (rs := [.cell 2 35]) Tryz.func51 (by kernel_rfl) rfl rfl rfl (by simp) fun σ hg => ?_
  simp (dsimp := false) [hg, hf, splice]
  refine W_loopM (fun k σ h' => ∃ i L u m es, k = N - i ∧ i ≤ N ∧ L.length = i ∧ h' = ⟨h.blks ++ (⟨[.int .i64 f, .int .i64 t, .int .u32 tag, v], 0, 0, false⟩ :: ⟨[.int .i64 0, .int .i64 0, .int .u32 0, .nils], 0, 0, false⟩ :: ⟨[.int .i64 f, .int .i64 t, .int .u32 tag, u], 0, 0, false⟩ :: m), es⟩ ∧
    σ 1 = .ptr h.blks.length 0 0 4 ∧ σ 2 = .ptr (h.blks.length + 1) 0 0 4 ∧ σ 3 = .ptr (h.blks.length + 2) 0 0 4 ∧ σ 4 = .int .i64 i ∧ CksO h.blks.length (h.blks.length + 3) h' L u ∧ (∀ y ∈ es, h.blks.length ≤ y.1) ∧ L.map El.c = ((l.map El.c).take i).map cutCk) ?_ N _ _ ?_
  · rintro _ σ _ ⟨i, L, u, m, es, rfl, hi, hLi, rfl, h1, h2, h3, h4, hC, he, hL⟩
    have hE : ∀ m, Ext ⟨h.blks, []⟩ ⟨h.blks ++ m, es⟩ := fun m => ⟨m, es, by simp, he⟩
    have hu := hC.is.sl.facts
    simp at hu
    by_cases hlt : i < N
    · have hli : i < l.length := by omega
      have d1 := eq_true hli
      have d2 := eq_true (show (i : Int) < 22 by omega)
      have hmem := List.getElem_mem hli
      have hok := hs'.el l[i] hmem
      have hef := hok.facts
      have hr0 := fun m => hrd i hli _ (hE m)
      have hia := hia i hli
      obtain ⟨⟨x1, x2⟩, hx, vp, vc, vg, vd, hv, ⟨m', es', he2, hes'⟩, hS, hp1, hp2, hog, hod⟩ := cut06 (C := C) (c := l[i].c) (h := ⟨h.blks ++ (⟨[.int .i64 f, .int .i64 t, .int .u32 tag, v], 0, 0, false⟩ :: ⟨[.int .i64 0, .int .i64 0, .int .u32 0, .nils], 0, 0, false⟩ :: ⟨[.int .i64 f, .int .i64 t, .int .u32 tag, u], 0, 0, false⟩ :: m), es⟩) (CkIs.app hok _) (hw _ hmem).1 (hw _ hmem).2.1 (hw _ hmem).2.2
      simp only at hv he2 hS
      subst hv he2
      simp at hx hS hes' hp1 hp2
      have hf2 := hS.facts
      simp at hf2
      simp only [El.cells, Ck.cells] at hr0
      unfold Ck.cells at hx
      have hpre : (h.blks ++ [⟨[.int .i64 f, .int .i64 t, .int .u32 tag, v], 0, 0, false⟩, ⟨[.int .i64 0, .int .i64 0, .int .u32 0, .nils], 0, 0, false⟩, (⟨[.int .i64 f, .int .i64 t, .int .u32 tag, u], 0, 0, false⟩ : Blk)]).length = h.blks.length + 3 := by simp
      have hC' : CksO h.blks.length (h.blks ++ [⟨[.int .i64 f, .int .i64 t, .int .u32 tag, v], 0, 0, false⟩, ⟨[.int .i64 0, .int .i64 0, .int .u32 0, .nils], 0, 0, false⟩, (⟨[.int .i64 f, .int .i64 t, .int .u32 tag, u], 0, 0, false⟩ : Blk)]).length ⟨(h.blks ++ [⟨[.int .i64 f, .int .i64 t, .int .u32 tag, v], 0, 0, false⟩, ⟨[.int .i64 0, .int .i64 0, .int .u32 0, .nils], 0, 0, false⟩, (⟨[.int .i64 f, .int .i64 t, .int .u32 tag, u], 0, 0, false⟩ : Blk)]) ++ (m ++ m'), es ++ es'⟩ L u := by
        have h1 := CksO.app (es' := es ++ es') hC m'
        rw [hpre]
        simpa using h1
      obtain ⟨u', m'', es'', ha, he'', hC'', hne⟩ := CksO.snoc (e := ⟨cutCk l[i].c, vp, vc, vg, vd⟩) hC'
        (by simpa [El.ok] using hS)
        (by
          intro w hw
          simp only [List.mem_cons, List.not_mem_nil, or_false] at hw
          rw [hpre]
          rcases hw with rfl | rfl | rfl | rfl
          · exact Beyond.of_hi (hp1.le (by omega))
          · exact Beyond.of_hi (hp2.le (by omega))
          · exact hog _ _ (Beyond.of_under hef.2.2.1.2.2.2.1)
          · exact hod _ _ (Beyond.of_under hef.2.2.2.2.2.2.1)) (by omega) (h.blks.length + (m.length + m'.length + 1 + 1 + 1)) (by simp; omega)
      simp (dsimp := false) [El.cells, Ck.cells] at ha
      have hv' := hC''.is.sl.facts
      simp at hv'
      simp (dsimp := false) [-run_groupK, run_join, h1, h4, hlen, d1, d2]
      refine (W_anyF (F := [(1, 7), (1, 8)]) (by kernel_rfl)).2 ?_
      simp (dsimp := false) [h1, h2, h3, h4, hia, hr0, hx, hf2, splice, ha, hv']
      refine ⟨N - (i + 1), by omega, i + 1, rfl, by omega, L ++ [⟨cutCk l[i].c, vp, vc, vg, vd⟩], by simp (dsimp := false) [hLi], u', m'', _, ⟨⟨rfl, rfl⟩, rfl⟩, by rw [wrap_succ hlt (by omega)], ?_, ?_, ?_⟩
      · rw [hpre] at hC''
        have h5 := CksO.mid (A := h.blks) (mid := [⟨[.int .i64 f, .int .i64 t, .int .u32 tag, v], 0, 0, false⟩, ⟨[.int .i64 0, .int .i64 0, .int .u32 0, .nils], 0, 0, false⟩, ⟨[.int .i64 f, .int .i64 t, .int .u32 tag, u], 0, 0, false⟩]) (mid' := [⟨[.int .i64 f, .int .i64 t, .int .u32 tag, v], 0, 0, false⟩, ⟨[.int .i64 0, .int .i64 0, .int .u32 0, .nils], 0, 0, false⟩, ⟨[.int .i64 f, .int .i64 t, .int .u32 tag, u'], 0, 0, false⟩]) (m := m'') (es := es ++ es' ++ es'') (es' := es ++ (es' ++ (es'' ++ List.map (fun r => (h.blks.length + 2, r)) (V.upto (h.blks.length + 2) u')))) rfl (by simpa using hC'')
        simpa using h5
      · intro a b hab
        simp only [List.mem_append, List.mem_map] at hab
        rcases hab with hab | hab | hab | ⟨_, -, hab⟩
        · exact he _ hab
        · have := hes' a b hab
          omega
        · have := he'' _ hab
          rw [hpre] at this
          simp only at this
          omega
        · injection hab with h1 h2
          omega
      · rw [List.map_append, hL, List.take_succ_eq_append_getElem (by simpa using hli)]
        simp
    · have d1 := eq_false (show ¬ (i < l.length ∧ (i : Int) < 22) by omega)
      obtain rfl : N = i := by omega
      simp (dsimp := false) [-run_groupK, run_join, h1, h2, h3, h4, hlen, d1, hu, splice]
      have hC2 := CksO.mid (A := h.blks) (mid := [⟨[.int .i64 f, .int .i64 t, .int .u32 tag, v], 0, 0, false⟩, ⟨[.int .i64 0, .int .i64 0, .int .u32 0, .nils], 0, 0, false⟩, ⟨[.int .i64 f, .int .i64 t, .int .u32 tag, u], 0, 0, false⟩]) (mid' := [⟨[.int .i64 f, .int .i64 t, .int .u32 tag, v], 0, 0, false⟩, ⟨[.int .i64 f, .int .i64 t, .int .u32 tag, u], 0, 0, false⟩, ⟨[.int .i64 f, .int .i64 t, .int .u32 tag, u], 0, 0, false⟩]) (m := m) (es := es) (es' := es ++ List.map (fun r => (h.blks.length + 1, r)) (V.upto (h.blks.length + 1) u)) rfl (by simpa using hC)
      refine ⟨L, u, rfl, leave_ext ?_, cks_leave (by simpa using hC2.is) (hC.own.hi.le (by omega)) (fun h => by simpa using h), ?_⟩
      · intro y hy
        simp only [List.mem_append, List.mem_map] at hy
        rcases hy with hy | ⟨_, -, rfl⟩
        · exact he y hy
        · show h.blks.length ≤ _
          simp only
          omega
      · rw [hL, cutL, hN]
        have := take_min 22 (l.map El.c)
        rw [List.length_map] at this
        rw [this]
  · exact ⟨0, [], .nils, [], [], by simp (dsimp := false) [CksO.nil]⟩
end Go.Proofs.YtklbbjfbcibghaaGreat
end
section
namespace Go.Proofs.YtklbbjfbcibghaaGreat
open Go.Hl
set_option maxHeartbeats 4000000
def c11 : Ck := { ck0 with typ := 11 }
def b11 : Bs := [0, 1, 0, 2, 0, 0, 0, 5, 0, 0, 0, 0, 11, 0, 0, 4]
theorem awake_put : ∃ s, putP 1 2 5 [c11] = s ∧ getP s = (⟨1, 2, 5, [c11]⟩, 0) ∧ s.length = 16 := ⟨_, rfl, by kernel_rfl, by kernel_rfl⟩
variable {C : CallT} {h : H}
def pkSame (f t tag : Int) (l : List Ck) (f' t' tag' : Int) (l' : List Ck) : Bool := decide (f = f' ∧ t = t' ∧ tag = tag' ∧ l = l')
end Go.Proofs.YtklbbjfbcibghaaGreat
end
section
namespace Go.Proofs.YtklbbjfbcibghaaGreat
open Go.Hl
set_option maxHeartbeats 4000000
theorem cut_small (c : Ck) : CkSmall (cutCk c) :=
  ⟨by simp (dsimp := false) [cutCk]; omega, by simp (dsimp := false) [cutCk]; omega, by simp (dsimp := false) [cutCk]; omega, by simp (dsimp := false) [cutCk]; omega, by simp (dsimp := false) [cutCk]; omega⟩
theorem cutL_small {l : List Ck} {L : List El} (h : L.map El.c = cutL l) : (∀ e ∈ L, CkSmall e.c) ∧ L.length ≤ 22 := by
  refine ⟨fun e he => ?_, ?_⟩
  · have : e.c ∈ cutL l := by rw [← h]; exact List.mem_map_of_mem he
    obtain ⟨c, -, hc⟩ := List.mem_map.1 this
    rw [← hc]
    exact cut_small c
  · have := congrArg List.length h
    simp (dsimp := false) [cutL] at this
    omega
theorem el0_ok (h : H) : el0.ok h := ⟨Sl.nil _ 2, Sl.nil _ 2, Sl.nil _ 2, Sl.nil _ 1⟩
theorem el0_small : CkSmall el0.c := ⟨by decide, by decide, by decide, by decide, by decide⟩
theorem firstE_of {p : El → Prop} {L : List El} (h : ∀ e ∈ L, p e) (h0 : p el0) (t : Int) : p (firstE L t) := by
  induction L with
  | nil => exact h0
  | cons e L ih =>
    unfold firstE
    split
    · exact h e (List.mem_cons_self ..)
    · exact ih fun e he => h e (List.mem_cons_of_mem _ he)
variable {h : H}
end Go.Proofs.YtklbbjfbcibghaaGreat
end
section
/-! Hl: a turned bit changes the check. -/
namespace Go.Hl
theorem xor_cancel {a b p : Nat} (h : a ^^^ p = b ^^^ p) : a = b := by
  have h2 : (a ^^^ p) ^^^ p = (b ^^^ p) ^^^ p := by rw [h]
  rwa [Nat.xor_assoc, Nat.xor_assoc, Nat.xor_self, Nat.xor_zero, Nat.xor_zero] at h2
theorem bitStep_inj {a b : Nat} (ha : a < 4294967296) (hb : b < 4294967296) (h : bitStep a = bitStep b) : a = b := by
  have top : ∀ x y : Nat, x < 4294967296 → y < 4294967296 → x / 2 ^^^ 2197175160 ≠ y / 2 := fun x y hx hy hxy => by
    have t1 : (x / 2).testBit 31 = false := Nat.testBit_lt_two_pow (by omega)
    have t2 : (y / 2).testBit 31 = false := Nat.testBit_lt_two_pow (by omega)
    have t3 : (x / 2 ^^^ 2197175160).testBit 31 = (y / 2).testBit 31 := by rw [hxy]
    have t4 : Nat.testBit 2197175160 31 = true := by decide
    rw [Nat.testBit_xor, t1, t2, t4] at t3
    cases t3
  by_cases a2 : a % 2 = 1
  · by_cases b2 : b % 2 = 1
    · rw [step_odd a2, step_odd b2] at h
      have := xor_cancel h
      omega
    · rw [step_odd a2, step_even b2] at h
      exact absurd h (top a b ha hb)
  · by_cases b2 : b % 2 = 1
    · rw [step_even a2, step_odd b2] at h
      exact absurd h.symm (top b a hb ha)
    · rw [step_even a2, step_even b2] at h
      omega
theorem steps_inj : ∀ n {a b : Nat}, a < 4294967296 → b < 4294967296 → steps n a = steps n b → a = b
  | 0, _, _, _, _, h => h
  | n + 1, _a, _b, ha, hb, h => bitStep_inj ha hb (steps_inj n (bitStep_lt ha) (bitStep_lt hb) h)
theorem eat_inj {c d b : Nat} (hc : c < 4294967296) (hd : d < 4294967296) (hb : b < 256) (h : eat c b = eat d b) : c = d :=
  xor_cancel (steps_inj 8 (xor_lt hc (by omega)) (xor_lt hd (by omega)) h)
theorem eat_inj' {c b b' : Nat} (hc : c < 4294967296) (hb : b < 256) (hb' : b' < 256) (h : eat c b = eat c b') : b = b' := by
  have h1 := steps_inj 8 (xor_lt hc (by omega)) (xor_lt hc (by omega)) h
  rw [Nat.xor_comm c b, Nat.xor_comm c b'] at h1
  exact xor_cancel h1
theorem crcFrom_inj : ∀ (l : List UInt8) {c d : Nat}, c < 4294967296 → d < 4294967296 → crcFrom c l = crcFrom d l → c = d
  | [], _, _, _, _, h => h
  | b :: l, _, _, hc, hd, h => eat_inj hc hd b.toNat_lt (crcFrom_inj l (eat_lt hc b.toNat_lt) (eat_lt hd b.toNat_lt) h)
theorem crcFrom_append : ∀ (l m : List UInt8) (c : Nat), crcFrom c (l ++ m) = crcFrom (crcFrom c l) m
  | [], _, _ => rfl
  | _ :: l, m, _ => crcFrom_append l m _
/-- One byte that differs, and nothing else. -/
theorem crcL_byte {l m : List UInt8} {b b' : UInt8} (h : crcL (l ++ b :: m) = crcL (l ++ b' :: m)) : b = b' := by
  have h1 := xor_cancel h
  rw [crcFrom_append, crcFrom_append] at h1
  have hc := crcFrom_lt l (c := 4294967295) (by omega)
  have h2 := crcFrom_inj m (eat_lt hc b.toNat_lt) (eat_lt hc b'.toNat_lt) h1
  exact UInt8.toNat_inj.1 (eat_inj' hc b.toNat_lt b'.toNat_lt h2)
theorem crcL_set {l : List UInt8} {j : Nat} {b : UInt8} (hj : j < l.length) (h : crcL (l.set j b) = crcL l) : b = l[j] := by
  rw [List.set_eq_take_append_cons_drop, if_pos hj] at h
  have e : l = l.take j ++ l[j] :: l.drop (j + 1) := by
    rw [List.getElem_cons_drop hj, List.take_append_drop]
  have h' : crcL (l.take j ++ b :: l.drop (j + 1)) = crcL (l.take j ++ l[j] :: l.drop (j + 1)) := by rw [h, ← e]
  exact crcL_byte h'
end Go.Hl
end
section
namespace Go.Proofs.YtklbbjfbcibghaaGreat
open Go.Hl
set_option maxHeartbeats 4000000
/-! ### What is put down: the program's and the document's -/
theorem put_eq {c : Ck} (hf : c.flags < 9223372036854775808) : qPut c = c.put := by
  unfold qPut Ck.put
  rw [may_eq hf]
  simp
theorem qPutGo_len : ∀ (l : List Ck) (s : Bs), match qPutGo s l with | some r => s.length ≤ r.length | none => True
  | [], s => Nat.le_refl _
  | c :: l, s => by
    unfold qPutGo
    by_cases h : qPut c = []
    · rw [if_pos h]
      trivial
    · rw [if_neg h]
      have := qPutGo_len l (s ++ qPut c)
      split
      · rename_i r hr
        rw [hr] at this
        simp only [List.length_append] at this
        omega
      · trivial
theorem putGo_eq : ∀ (l : List Ck) (s : Bs), (∀ c ∈ l, c.flags < 9223372036854775808) → s.length ≤ 1400 → putGo s l = match qPutGo s l with | some r => if 1400 < r.length then none else some r | none => none
  | [], s, _, hs => by
    simp only [putGo, qPutGo]
    rw [if_neg (by omega)]
  | c :: l, s, hf, hs => by
    have hq := put_eq (hf c (List.mem_cons_self ..))
    unfold putGo qPutGo
    rw [hq]
    by_cases h : c.put = []
    · rw [if_pos (.inl h), if_pos h]
    · rw [if_neg h]
      by_cases h2 : 1400 - (s.length : Int) < c.put.length
      · rw [if_pos (.inr h2)]
        have := qPutGo_len l (s ++ c.put)
        split
        · rename_i r hr
          rw [hr] at this
          simp only [List.length_append] at this
          rw [if_pos (by omega)]
        · rfl
      · rw [if_neg (fun hh => hh.elim h h2)]
        exact putGo_eq l (s ++ c.put) (fun c hc => hf c (List.mem_cons_of_mem _ hc)) (by rw [List.length_append]; omega)
theorem headB_len (f t tag : Int) : (headB f t tag).length ≤ 1400 := show 12 ≤ 1400 by decide
theorem putP_eq {f t tag : Int} {l : List Ck} (hf : ∀ c ∈ l, c.flags < 9223372036854775808) : qPutP f t tag l = putP f t tag l := by
  unfold qPutP putP
  split
  · rfl
  · rw [putGo_eq l _ hf (headB_len f t tag)]
    cases qPutGo (headB f t tag) l with
    | none => rfl
    | some s =>
      simp only
      split <;> rfl
theorem putGo_len : ∀ (l : List Ck) (s r : Bs), s.length ≤ 1400 → putGo s l = some r → s.length ≤ r.length ∧ r.length ≤ 1400
  | [], s, r, hs, h => by
    injection h with h
    subst h
    exact ⟨Nat.le_refl _, hs⟩
  | c :: l, s, r, hs, h => by
    unfold putGo at h
    split at h
    · cases h
    · rename_i hc
      simp only [not_or] at hc
      have := putGo_len l (s ++ c.put) r (by rw [List.length_append]; omega) h
      rw [List.length_append] at this
      omega
theorem putP_cases (f t tag : Int) (l : List Ck) : putP f t tag l = [] ∨ ∃ s : Bs, 12 ≤ s.length ∧ s.length ≤ 1400 ∧ putP f t tag l = sealL s 8 := by
  unfold putP
  split
  · exact .inl rfl
  · split
    · rename_i s hs
      have := putGo_len l _ _ (headB_len f t tag) hs
      exact .inr ⟨s, this.1, this.2, rfl⟩
    · exact .inl rfl
/-! ### A turned bit -/
theorem zed_seal {s : List UInt8} {k : Nat} (hk : k + 4 ≤ s.length) : zed (sealL s k) k = zed s k := by
  unfold zed
  have h1 : (sealL s k).take k = s.take k := by
    unfold sealL
    rw [List.append_assoc, List.take_left' (by simp; omega)]
  have h2 : (sealL s k).drop (k + 4) = s.drop (k + 4) := by
    unfold sealL
    rw [List.drop_left' (by simp (dsimp := false) [le4_len]; omega)]
  rw [h1, h2]
theorem seal_seal {s : List UInt8} {k : Nat} (hk : k + 4 ≤ s.length) : sealL (sealL s k) k = sealL s k := by
  have hz := zed_seal hk
  have h1 : (sealL s k).take k = s.take k := by
    unfold sealL
    rw [List.append_assoc, List.take_left' (by simp; omega)]
  have h2 : (sealL s k).drop (k + 4) = s.drop (k + 4) := by
    unfold sealL
    rw [List.drop_left' (by simp (dsimp := false) [le4_len]; omega)]
  rw [sealL, hz, h1, h2]
  rfl
theorem le4_inj {c d : Nat} (hc : c < 4294967296) (hd : d < 4294967296) (h : le4 c = le4 d) : c = d := by
  simp only [le4, List.cons.injEq, and_true] at h
  obtain ⟨h1, h2, h3, h4⟩ := h
  have f : ∀ a b : Nat, UInt8.ofNat a = UInt8.ofNat b → a % 256 = b % 256 := fun a b hab => by
    have := congrArg UInt8.toNat hab
    simpa using this
  have h1 := f _ _ h1
  have h2 := f _ _ h2
  have h3 := f _ _ h3
  have h4 := f _ _ h4
  omega
theorem field_seal {s : List UInt8} {k : Nat} (hk : k + 4 ≤ s.length) : ((sealL s k).drop k).take 4 = le4 (crcL (zed s k)) := by
  unfold sealL
  rw [List.append_assoc, List.drop_left' (by simp; omega), List.take_left' (le4_len _)]
/-- Sealed bytes of which one is another are not sealed. -/
theorem seal_byte {t : List UInt8} {k j : Nat} (hk : k + 4 ≤ t.length) (hj : j < t.length) (y : UInt8) (hy : (sealL t k)[j]? ≠ some y) : sealL ((sealL t k).set j y) k ≠ (sealL t k).set j y := by
  have hl := sealL_len hk
  have hj' : j < (sealL t k).length := by omega
  intro h
  have hz := zed_seal hk
  generalize hb : sealL t k = b at *
  have hk' : k + 4 ≤ (b.set j y).length := by simp; omega
  by_cases hin : k ≤ j ∧ j < k + 4
  · -- in the field: with noughts there all is as it was
    have e1 : (b.set j y).take k = b.take k := by rw [List.take_set_of_le hin.1]
    have e2 : (b.set j y).drop (k + 4) = b.drop (k + 4) := by rw [List.drop_set_of_lt hin.2]
    have e3 : zed (b.set j y) k = zed b k := by unfold zed; rw [e1, e2]
    have e4 : sealL (b.set j y) k = sealL b k := by unfold sealL; rw [e1, e2, e3]
    have e5 : sealL b k = b := by rw [← hb]; exact seal_seal hk
    rw [e4, e5] at h
    have h2 : b[j]? = (b.set j y)[j]? := by rw [← h]
    rw [List.getElem?_set_self hj'] at h2
    exact hy h2
  · have f1 := field_seal hk'
    rw [h] at f1
    have f2 : ((b.set j y).drop k).take 4 = (b.drop k).take 4 := by
      apply List.ext_getElem?
      intro i
      simp only [List.getElem?_take, List.getElem?_drop]
      split
      · rw [List.getElem?_set_ne (by omega)]
      · rfl
    have f3 := field_seal hk
    rw [hb] at f3
    rw [f2, f3, ← hz] at f1
    have f4 := le4_inj (crcL_lt _) (crcL_lt _) f1
    have f5 : zed (b.set j y) k = (zed b k).set j y := by
      apply List.ext_getElem?
      intro i
      have zl : (zed b k).length = b.length := zed_len (by omega)
      have zl' : (zed (b.set j y) k).length = b.length := by rw [zed_len hk']; simp
      by_cases hi : i = j
      · subst hi
        rw [List.getElem?_set_self (by omega)]
        unfold zed
        by_cases hik : i < k
        · rw [List.append_assoc, List.getElem?_append_left (by simp; omega), List.getElem?_take, if_pos hik, List.getElem?_set_self hj']
        · rw [List.getElem?_append_right (by simp; omega), List.getElem?_drop]
          simp only [List.length_append, List.length_take, List.length_set, List.length_cons, List.length_nil]
          rw [show k + 4 + (i - (min k b.length + (0 + 1 + 1 + 1 + 1))) = i by omega, List.getElem?_set_self hj']
      · rw [List.getElem?_set_ne (Ne.symm hi)]
        unfold zed
        by_cases hik : i < k
        · rw [List.append_assoc, List.append_assoc, List.getElem?_append_left (by simp; omega), List.getElem?_append_left (by simp; omega), List.getElem?_take, List.getElem?_take, List.getElem?_set_ne (Ne.symm hi)]
        · by_cases hik4 : i < k + 4
          · rw [List.getElem?_append_left (l₁ := (b.set j y).take k ++ [0, 0, 0, 0]) (by simp; omega), List.getElem?_append_left (l₁ := b.take k ++ [0, 0, 0, 0]) (by simp; omega),
              List.getElem?_append_right (l₁ := (b.set j y).take k) (by simp; omega), List.getElem?_append_right (l₁ := b.take k) (by simp; omega)]
            simp
          · rw [List.getElem?_append_right (by simp; omega), List.getElem?_append_right (by simp; omega), List.getElem?_drop, List.getElem?_drop]
            simp only [List.length_append, List.length_take, List.length_set]
            rw [List.getElem?_set_ne (by simp; omega)]
    rw [f5] at f4
    have zl : (zed b k).length = b.length := zed_len (by omega)
    have f6 := crcL_set (by omega) f4.symm
    have f7 : (zed b k)[j]? = b[j]? := by
      unfold zed
      by_cases hik : j < k
      · rw [List.append_assoc, List.getElem?_append_left (by simp; omega), List.getElem?_take, if_pos hik]
      · rw [List.getElem?_append_right (by simp; omega), List.getElem?_drop]
        simp only [List.length_append, List.length_take, List.length_cons, List.length_nil]
        rw [show k + 4 + (j - (min k b.length + (0 + 1 + 1 + 1 + 1))) = j by omega]
    rw [List.getElem?_eq_getElem (by omega), ← f6] at f7
    exact hy f7.symm
theorem around (x : Int) (m : Nat) (hm : 0 < m) : ∃ k : Nat, k < m ∧ (x.tmod m + m).tmod m = (k : Int) := by
  have h1 := Int.lt_tmod_of_pos x (show (0 : Int) < m by omega)
  have h2 := Int.tmod_lt_of_pos (x.tmod m + m) (show (0 : Int) < m by omega)
  have h3 := Int.tmod_nonneg (m : Int) (show 0 ≤ x.tmod m + m by omega)
  exact ⟨((x.tmod m + m).tmod m).toNat, by omega, by omega⟩
theorem head_take (l : List V) (j : Nat) : ((l.drop j).take 1).head? = l[j]? := by
  cases h : l.drop j with
  | nil =>
    have : l.length ≤ j := by simpa using h
    simp (dsimp := false) [List.getElem?_eq_none this]
  | cons a m =>
    have := congrArg (fun l => l[0]?) h
    simp at this
    simp (dsimp := false) [this]
theorem byteCells_at (l : List UInt8) (j : Nat) (h : j < l.length) : (byteCells l)[j]? = some (.int .u8 (l[j].toNat : Nat)) := by
  simp (dsimp := false) [byteCells, h]
theorem byteCells_get (l : List UInt8) (j : Nat) (h : j < (byteCells l).length) : (byteCells l)[j] = .int .u8 ((l[j]'(by simpa [byteCells] using h)).toNat : Nat) := by
  simp (dsimp := false) [byteCells]
theorem byteCells_len (l : List UInt8) : (byteCells l).length = l.length := by simp (dsimp := false) [byteCells]
theorem shl_one : ∀ r : Nat, r < 8 → shiftOp .shl .u8 1 ((r : Nat) : Int) = some (.int .u8 ((2 ^ r : Nat) : Int)) := fun r hr => by
  obtain rfl | rfl | rfl | rfl | rfl | rfl | rfl | rfl := (by omega : r = 0 ∨ r = 1 ∨ r = 2 ∨ r = 3 ∨ r = 4 ∨ r = 5 ∨ r = 6 ∨ r = 7) <;> rfl
theorem pow_small : ∀ r : Nat, r < 8 → 2 ^ r < 256 ∧ 0 < 2 ^ r := fun r hr => by
  obtain rfl | rfl | rfl | rfl | rfl | rfl | rfl | rfl := (by omega : r = 0 ∨ r = 1 ∨ r = 2 ∨ r = 3 ∨ r = 4 ∨ r = 5 ∨ r = 6 ∨ r = 7) <;> decide
theorem splice_bytes (l : List UInt8) (j v : Nat) (hv : v < 256) (h : j < l.length) : splice (byteCells l) j [.int .u8 (v : Int)] = byteCells (l.set j (UInt8.ofNat v)) := by
  apply List.ext_getElem?
  intro i
  rw [splice_get _ _ _ (by simp (dsimp := false) [byteCells_len]; omega)]
  simp only [byteCells, List.getElem?_map, List.length_cons, List.length_nil]
  by_cases hi : j ≤ i ∧ i < j + (0 + 1)
  · have : i = j := by omega
    subst this
    rw [if_pos hi, List.getElem?_set_self h]
    simp
    omega
  · rw [if_neg hi, List.getElem?_set_ne (by omega)]
theorem cutL_flags {l : List Ck} (h : ∀ c ∈ l, c.flags < 9223372036854775808) : ∀ c ∈ cutL l, c.flags < 9223372036854775808 := by
  intro c hc
  obtain ⟨d, hd, rfl⟩ := List.mem_map.1 hc
  exact h d (List.mem_of_mem_take hd)
theorem cutL_gaps {l : List Ck} {L : List El} (hL : L.map El.c = cutL l) (h : ∀ c ∈ l, c.Wide) : ∀ e ∈ L, ∀ g ∈ e.c.gaps, g.1 ≤ 9223372036854775807 := by
  intro e he g hg
  have : e.c ∈ cutL l := by rw [← hL]; exact List.mem_map_of_mem he
  obtain ⟨c, hc, hce⟩ := List.mem_map.1 this
  rw [← hce] at hg
  have := ((h c (List.mem_of_mem_take hc)).g g (List.mem_of_mem_take hg)).1
  simp (dsimp := false) [Lit.wf, IntKind.min, IntKind.max, IntKind.bits, IntKind.signed] at this
  omega
end Go.Proofs.YtklbbjfbcibghaaGreat
end
section
/-! Plain law: a packet that was put down is read back. -/
namespace Go.Proofs.YtklbbjfbcibghaaGreat
open Go.Hl
set_option maxHeartbeats 1000000
theorem snoc_ind {α : Type} {P : List α → Prop} (h0 : P []) (h1 : ∀ l a, P l → P (l ++ [a])) (l : List α) : P l := by
  have key : ∀ m : List α, P m.reverse := fun m => by
    induction m with
    | nil => exact h0
    | cons a m ih =>
      rw [List.reverse_cons]
      exact h1 _ _ ih
  have := key l.reverse
  rwa [List.reverse_reverse] at this
theorem gaps_back : ∀ (l : List (Int × Int)) (rest : Bs), (∀ g ∈ l, 0 ≤ g.1 ∧ g.1 < 65536 ∧ 0 ≤ g.2 ∧ g.2 < 65536) → gapsN l.length ⟨gapsF l ++ rest, 0⟩ = (l, ⟨rest, 0⟩) := by
  intro l
  refine snoc_ind (P := fun l => ∀ rest : Bs, (∀ g ∈ l, 0 ≤ g.1 ∧ g.1 < 65536 ∧ 0 ≤ g.2 ∧ g.2 < 65536) → gapsN l.length ⟨gapsF l ++ rest, 0⟩ = (l, ⟨rest, 0⟩)) (fun rest _ => rfl) (fun l g ih rest h => ?_) l
  · have hg := h g (by simp)
    have hs : gapsF (l ++ [g]) ++ rest = gapsF l ++ (be2 g.1 ++ (be2 g.2 ++ rest)) := by simp (dsimp := false) [gapsF]
    rw [List.length_append, List.length_singleton, gapsN, hs, ih _ (fun x hx => h x (List.mem_append_left _ hx))]
    simp only [tk2, num2 hg.1 hg.2.1, num2 hg.2.2.1 hg.2.2.2]
theorem dups_back : ∀ (l : List Int) (rest : Bs), (∀ g ∈ l, 0 ≤ g ∧ g < 4294967296) → dupsN l.length ⟨dupsF l ++ rest, 0⟩ = (l, ⟨rest, 0⟩) := by
  intro l
  refine snoc_ind (P := fun l => ∀ rest : Bs, (∀ g ∈ l, 0 ≤ g ∧ g < 4294967296) → dupsN l.length ⟨dupsF l ++ rest, 0⟩ = (l, ⟨rest, 0⟩)) (fun rest _ => rfl) (fun l g ih rest h => ?_) l
  · have hg := h g (by simp)
    have hs : dupsF (l ++ [g]) ++ rest = dupsF l ++ (be4 g ++ rest) := by simp (dsimp := false) [dupsF]
    rw [List.length_append, List.length_singleton, dupsN, hs, ih _ (fun x hx => h x (List.mem_append_left _ hx))]
    simp only [tk4, num4 hg.1 hg.2]
theorem rising_mem : ∀ (l : List (Int × Int)) (last : Int), -1 ≤ last → risingL last l = true → ∀ g ∈ l, 0 ≤ g.1 ∧ g.1 < 65536 ∧ 0 ≤ g.2 ∧ g.2 < 65536
  | [], _, _, _, g, hg => by simp at hg
  | x :: l, last, h0, h, g, hg => by
    unfold risingL at h
    split at h
    · cases h
    · rename_i hc
      simp only [not_or] at hc
      rcases List.mem_cons.1 hg with rfl | hg
      · omega
      · exact rising_mem l x.2 (by omega) h g hg
/-- The numbers of 32 bits are such. -/
def Ck.U32 (c : Ck) : Prop := (∀ x ∈ [c.tsn, c.proto, c.tag, c.rwnd], 0 ≤ x ∧ x < 4294967296) ∧ ∀ x ∈ c.dups, 0 ≤ x ∧ x < 4294967296
theorem gone_nil (s : Bs) : (⟨s, 0⟩ : RS).gone = ⟨[], 0⟩ := by simp (dsimp := false) [RS.gone]
theorem rest_all (s : Bs) : (⟨s, 0⟩ : RS).rest = s := by simp (dsimp := false) [RS.rest]
theorem pars_back {l : List Pm} (h : l.all Pm.may = true) (h1 : l.length ≤ 16) : parR ⟨putAll l, 0⟩ = ⟨[], 0⟩ ∧ (allP (⟨putAll l, 0⟩ : RS).rest).1 = l := by
  unfold parR
  rw [rest_all, allP_back h h1, gone_nil]
  simp
theorem ck_ext {a b : Ck} (h1 : a.typ = b.typ) (h2 : a.flags = b.flags) (h3 : a.tsn = b.tsn ∧ a.stream = b.stream ∧ a.ssn = b.ssn ∧ a.proto = b.proto ∧ a.data = b.data ∧ a.tag = b.tag ∧ a.rwnd = b.rwnd ∧ a.out = b.out ∧ a.inn = b.inn)
    (h4 : a.params = b.params) (h5 : a.causes = b.causes) (h6 : a.gaps = b.gaps) (h7 : a.dups = b.dups) : a = b := by
  obtain ⟨e1, e2, e3, e4, e5, e6, e7, e8, e9⟩ := h3
  cases a
  cases b
  simp only at *
  subst h1 h2 e1 e2 e3 e4 e5 e6 e7 e8 e9 h4 h5 h6 h7
  rfl
theorem plain_lists (c : Ck) : c.plain.typ = c.typ ∧ c.plain.flags = c.flags ∧ (c.plain.params = c.params ∨ c.plain.params = []) ∧ (c.plain.causes = c.causes ∨ c.plain.causes = []) ∧ (c.plain.gaps = c.gaps ∨ c.plain.gaps = []) ∧ (c.plain.dups = c.dups ∨ c.plain.dups = []) := by
  unfold Ck.plain
  simp only
  repeat' split
  all_goals simp
theorem same_eq {c : Ck} (h : c.same c.plain = true) : c = c.plain := by
  unfold Ck.same at h
  rw [decide_eq_true_eq] at h
  obtain ⟨e1, e2, e3, e4, e5, e6, e7, e8, e9, l1, l2, l3, l4⟩ := h
  obtain ⟨t, f, p1, p2, p3, p4⟩ := plain_lists c
  have key : ∀ {α : Type} {a b : List α}, (b = a ∨ b = []) → a.length = b.length → a = b := fun h hl => by
    rcases h with h | h
    · exact h.symm
    · subst h
      exact List.length_eq_zero_iff.1 hl
  exact ck_ext t.symm f.symm ⟨e1, e2, e3, e4, e5, e6, e7, e8, e9⟩ (key p1 l1) (key p2 l2) (key p3 l3) (key p4 l4)
theorem says_back {c : Ck} (h : c.may = true) (hu : Ck.U32 c) : saysR ⟨c.body, 0⟩ { ck0 with typ := c.typ, flags := c.flags } = (⟨[], 0⟩, c) := by
  have hm := h
  unfold Ck.may Ck.lists word at hm
  simp only [Bool.and_eq_true, decide_eq_true_eq, Bool.not_eq_true', Bool.and_eq_false_iff, decide_eq_false_iff_not] at hm
  obtain ⟨⟨⟨⟨⟨⟨⟨⟨m1, m2⟩, m3⟩, m4⟩, ⟨⟨⟨p1, p2⟩, p3⟩, p4⟩⟩, ⟨⟨⟨⟨⟨⟨w1, w2⟩, w3⟩, w4⟩, w5⟩, w6⟩, w7⟩⟩, m5⟩, m6⟩, ms⟩ := hm
  have hp := same_eq ms
  have u1 := hu.1 c.tsn (by simp)
  have u2 := hu.1 c.proto (by simp)
  have u3 := hu.1 c.tag (by simp)
  have u4 := hu.1 c.rwnd (by simp)
  unfold Ck.plain at hp
  unfold saysR Ck.body
  simp only at hp ⊢
  by_cases t0 : c.typ = 0
  · rw [if_pos t0] at hp ⊢
    rw [if_pos t0]
    simp only [List.append_assoc, tk4, tk2, num4 u1.1 u1.2, num4 u2.1 u2.2, num2 w1.1 w1.2, num2 w2.1 w2.2, gone_nil, rest_all]
    exact Prod.ext rfl hp.symm
  rw [if_neg t0] at hp ⊢
  rw [if_neg t0]
  by_cases t1 : isInit c.typ = true
  · rw [if_pos t1] at hp ⊢
    rw [if_pos t1]
    obtain ⟨b1, b2⟩ := pars_back p1 p3
    simp only [List.append_assoc, tk4, tk2, num4 u1.1 u1.2, num4 u3.1 u3.2, num4 u4.1 u4.2, num2 w3.1 w3.2, num2 w4.1 w4.2, b1, b2]
    exact Prod.ext rfl hp.symm
  rw [if_neg t1] at hp ⊢
  rw [if_neg t1]
  by_cases t3 : c.typ = 3
  · rw [if_pos t3] at hp ⊢
    rw [if_pos t3]
    have hr : c.gaps.length ≤ 16 := by
      unfold rising at w6
      simp only [Bool.and_eq_true, decide_eq_true_eq] at w6
      exact w6.2
    have hrm := rising_mem c.gaps 0 (by decide) (by
      unfold rising at w6
      simp only [Bool.and_eq_true] at w6
      exact w6.1)
    have n1 : ∀ b, (⟨be2 c.gaps.length ++ b, 0⟩ : RS).num 2 = c.gaps.length := fun b => by
      have := num2 (x := (c.gaps.length : Int)) (b := b) (by omega) (by omega)
      omega
    have n2 : ∀ b, (⟨be2 c.dups.length ++ b, 0⟩ : RS).num 2 = c.dups.length := fun b => by
      have := num2 (x := (c.dups.length : Int)) (b := b) (by omega) (by omega)
      omega
    have hb : be4 c.tsn ++ be4 c.rwnd ++ gapsB c = be4 c.tsn ++ (be4 c.rwnd ++ (be2 c.gaps.length ++ (be2 c.dups.length ++ (gapsF c.gaps ++ (dupsF c.dups ++ []))))) := by simp (dsimp := false) [gapsB]
    rw [hb]
    unfold sackR
    simp only [tk4, tk2, n1, n2, num4 u1.1 u1.2, num4 u4.1 u4.2]
    rw [if_neg (by omega), gaps_back c.gaps _ hrm]
    simp only
    rw [dups_back c.dups _ hu.2]
    simp only [w6]
    refine Prod.ext ?_ hp.symm
    simp
  rw [if_neg t3] at hp ⊢
  rw [if_neg t3]
  by_cases tb : isBeat c.typ = true
  · have q1 : ¬ isErr c.typ = true ∧ ¬ c.typ = 7 ∧ ¬ isConf c.typ = true ∧ ¬ isBare c.typ = true ∧ ¬ c.typ = 15 := by
      unfold isBeat at tb
      unfold isErr isConf isBare
      simp only [Bool.or_eq_true, decide_eq_true_eq] at tb ⊢
      omega
    rw [if_neg q1.1, if_neg q1.2.1, if_neg q1.2.2.1, if_neg q1.2.2.2.1, if_neg q1.2.2.2.2] at hp
    rw [if_pos tb, if_pos tb]
    have hpm : Pm.may ⟨1, c.data⟩ = true := by
      unfold Pm.may
      simp only [Bool.and_eq_true, decide_eq_true_eq]
      omega
    have hb := param_back hpm []
    rw [List.append_nil] at hb
    rw [hb]
    simp only [ne_eq, not_true_eq_false, and_false, if_false]
    exact Prod.ext rfl hp.symm
  rw [if_neg tb, if_neg tb]
  by_cases te : isErr c.typ = true
  · rw [if_pos te] at hp ⊢
    rw [if_pos te]
    obtain ⟨b1, b2⟩ := pars_back p2 p4
    rw [b1, b2]
    exact Prod.ext rfl hp.symm
  rw [if_neg te] at hp ⊢
  rw [if_neg te]
  by_cases t7 : c.typ = 7
  · rw [if_pos t7] at hp ⊢
    rw [if_pos t7]
    have e4 : be4 c.tsn = be4 c.tsn ++ [] := by simp
    rw [e4]
    simp only [tk4, num4 u1.1 u1.2]
    exact Prod.ext rfl hp.symm
  rw [if_neg t7] at hp ⊢
  rw [if_neg t7]
  by_cases tc : isConf c.typ = true
  · rw [if_pos tc] at hp ⊢
    rw [if_pos tc]
    obtain ⟨b1, b2⟩ := pars_back p1 p3
    simp only [tk4, num4 u1.1 u1.2, b1, b2]
    exact Prod.ext rfl hp.symm
  rw [if_neg tc] at hp ⊢
  rw [if_neg tc]
  by_cases tr : isBare c.typ = true
  · rw [if_pos tr] at hp ⊢
    rw [if_pos tr]
    exact Prod.ext rfl hp.symm
  rw [if_neg tr] at hp ⊢
  rw [if_neg tr]
  by_cases t15 : c.typ = 15
  · rw [if_pos t15] at hp ⊢
    rw [if_pos t15]
    simp only [List.append_assoc, tk2, num2 w1.1 w1.2, num2 w2.1 w2.2, gone_nil, rest_all]
    exact Prod.ext rfl hp.symm
  · rw [if_neg t15] at hp ⊢
    rw [if_neg t15]
    simp only [gone_nil, rest_all]
    exact Prod.ext rfl hp.symm
end Go.Proofs.YtklbbjfbcibghaaGreat
end
section
/-! Plain law: a packet that was put down is read back. -/
namespace Go.Proofs.YtklbbjfbcibghaaGreat
open Go.Hl
set_option maxHeartbeats 1000000
theorem may_flags {c : Ck} (h : c.may = true) (hf : c.flags < 9223372036854775808) : 0 ≤ c.typ ∧ c.typ < 256 ∧ 0 ≤ c.flags ∧ c.flags < 256 ∧ c.body.length ≤ 65531 := by
  unfold Ck.may at h
  simp only [Bool.and_eq_true, decide_eq_true_eq] at h
  obtain ⟨⟨⟨⟨⟨⟨⟨⟨m1, m2⟩, m3⟩, m4⟩, -⟩, -⟩, -⟩, m6⟩, -⟩ := h
  have := (odd_iff m3 hf).1 m4
  omega
theorem chunk_back {c : Ck} (h : c.may = true) (hf : c.flags < 9223372036854775808) (hu : Ck.U32 c) (rest : Bs) : tkChunk ⟨c.put ++ rest, 0⟩ = (⟨rest, 0⟩, c) := by
  obtain ⟨m1, m2, m3, m4, m5⟩ := may_flags h hf
  have hs : c.put ++ rest = b8 c.typ :: (b8 c.flags :: (be2 (c.body.length + 4) ++ (c.body ++ (noughts (padN (4 + c.body.length)) ++ rest)))) := by
    have hlen : ([b8 c.typ, b8 c.flags] ++ be2 (c.body.length + 4) ++ c.body).length = 4 + c.body.length := by
      simp (dsimp := false) [be2_len]
      omega
    unfold Ck.put filled
    rw [if_pos h, hlen]
    simp
  rw [hs]
  unfold tkChunk
  simp only [tk1, tk2, num1 m1 m2, num1 m3 m4, num2 (show (0 : Int) ≤ (c.body.length : Int) + 4 by omega) (show (c.body.length : Int) + 4 < 65536 by omega)]
  have e : (c.body.length : Int) + 4 - 4 = (c.body.length : Int) := by omega
  rw [e, if_neg (show ¬ (True ∧ (c.body.length : Int) < 0) by omega)]
  obtain ⟨h1, h2⟩ := tk_app (a := c.body) (b := noughts (padN (4 + c.body.length)) ++ rest) (n := (c.body.length : Int)) rfl
  rw [h1, h2, if_neg (by simp)]
  have hk : ((padN (4 + c.body.length) : Nat) : Int) = (-(c.body.length : Int)) % 4 := by
    unfold padN
    omega
  obtain ⟨f1, f2⟩ := fill_app (b := rest) hk
  have f3 : ¬ (⟨noughts (padN (4 + c.body.length)) ++ rest, 0⟩ : RS).left < -(c.body.length : Int) % 4 := by omega
  rw [if_neg f3, f2, if_neg (by simp), says_back h hu]
  simp (dsimp := false) [RS.end, endE, h]
theorem put_ne {c : Ck} (h : c.put ≠ []) : c.may = true := by
  unfold Ck.put at h
  split at h
  · assumption
  · exact absurd rfl h
theorem getGo_back : ∀ (l : List Ck) (k : Nat) (out : List Ck), (∀ c ∈ l, c.put ≠ [] ∧ c.flags < 9223372036854775808 ∧ Ck.U32 c) → out.length + l.length ≤ 20 → l.length < k → getGo k ⟨l.flatMap Ck.put, 0⟩ out = (⟨[], 0⟩, out ++ l)
  | [], k + 1, out, _, _, _ => by
    unfold getGo
    rw [if_neg (by simp (dsimp := false) [RS.left, leftN])]
    simp
  | c :: l, k + 1, out, h, h1, h2 => by
    obtain ⟨hp, hf, hu⟩ := h c (List.mem_cons_self ..)
    have hpos : 0 < c.put.length := List.length_pos_iff.2 hp
    have hb := chunk_back (put_ne hp) hf hu (l.flatMap Ck.put)
    unfold getGo
    rw [List.flatMap_cons, if_pos (by simp only [RS.left, leftN, if_true, List.length_append]; omega), if_neg (by simp only [List.length_cons] at h1; omega), hb]
    simp only
    rw [getGo_back l k (out ++ [c]) (fun x hx => h x (List.mem_cons_of_mem _ hx)) (by simp only [List.length_append, List.length_cons, List.length_nil] at h1 ⊢; omega) (by simp only [List.length_cons] at h2; omega)]
    simp
  | _, 0, _, _, _, h => by omega
theorem putGo_all : ∀ (l : List Ck) (s r : Bs), putGo s l = some r → r = s ++ l.flatMap Ck.put ∧ ∀ c ∈ l, c.put ≠ []
  | [], s, r, h => by
    injection h with h
    subst h
    simp
  | c :: l, s, r, h => by
    unfold putGo at h
    split at h
    · cases h
    · rename_i hc
      simp only [not_or] at hc
      obtain ⟨h1, h2⟩ := putGo_all l _ _ h
      refine ⟨by rw [h1]; simp, fun x hx => ?_⟩
      rcases List.mem_cons.1 hx with rfl | hx
      · exact hc.1
      · exact h2 x hx
/-- What was put down is read back. -/
theorem putP_back {f t tag : Int} {l : List Ck} (hl : ∀ c ∈ l, c.flags < 9223372036854775808 ∧ Ck.U32 c) (htag : 0 ≤ tag ∧ tag < 4294967296) (hp : putP f t tag l ≠ []) : getP (putP f t tag l) = (⟨f, t, tag, l⟩, 0) := by
  unfold putP at hp ⊢
  split at hp
  · exact absurd rfl hp
  rename_i hto
  rw [if_neg hto]
  split at hp
  · rename_i s hs
    have hlen := putGo_len l _ _ (headB_len f t tag) hs
    obtain ⟨hsf, hne⟩ := putGo_all l _ _ hs
    have h12 : 12 ≤ s.length := hlen.1
    have hsl := sealL_len (s := s) (k := 8) (by omega)
    have hss := seal_seal (s := s) (k := 8) (by omega)
    have hto' := hto
    unfold togetherP at hto'
    rw [Bool.not_eq_false] at hto
    have hb : sealL s 8 = be2 f ++ (be2 t ++ (be4 tag ++ (le4 (crcL (zed s 8)) ++ l.flatMap Ck.put))) := by
      have h1 : s.take 8 = be2 f ++ (be2 t ++ be4 tag) := by
        rw [hsf]
        rfl
      have h2 : s.drop 12 = l.flatMap Ck.put := by
        rw [hsf]
        rfl
      unfold sealL
      rw [h1, h2]
      simp
    have hft : (1 ≤ f ∧ f < 65536) ∧ (1 ≤ t ∧ t < 65536) ∧ l.length ≤ 20 := by
      split at hto'
      · simp at hto'
      · rename_i hc
        omega
    unfold getP
    rw [if_neg (by omega), if_neg (by omega), if_neg (fun x => x hss), hb]
    have hle : ∀ x : Bs, (⟨le4 (crcL (zed s 8)) ++ x, 0⟩ : RS).tk 4 = ⟨x, 0⟩ := fun x => (tk_app (a := le4 (crcL (zed s 8))) (n := 4) rfl).1
    simp only [tk2, tk4, hle, num2 (show 0 ≤ f by omega) hft.1.2, num2 (show 0 ≤ t by omega) hft.2.1.2, num4 htag.1 htag.2]
    rw [getGo_back l 21 [] (fun c hc => ⟨hne c hc, hl c hc⟩) (by simpa using hft.2.2) (by omega)]
    have hok : (⟨f, t, tag, l⟩ : Pk).ok = true := hto
    simp (dsimp := false) [hok]
  · exact absurd rfl hp
end Go.Proofs.YtklbbjfbcibghaaGreat
end
section
namespace Go.Proofs.YtklbbjfbcibghaaGreat
open Go.Hl
set_option maxHeartbeats 4000000
variable {C : CallT} {h : H} {l l' l2 m : List Blk} {es es2 : List (Nat × Nat)} {bb bt : Nat} {o most : Int} {L : List En} {lb lb' lb2 : Option Nat}
/-- One between in memory: its block, its table's, and its entries'. -/
structure BoxIs (l : List Blk) (bb bt : Nat) (o most : Int) (L : List En) (lb : Option Nat) : Prop where
  box : l[bb]? = some ⟨[.int .u32 o, .ptr bt 0 0 2], 0, 0, false⟩
  ne : bb ≠ bt
  nl : lb ≠ some bb
  tab : Tab l bt most L lb
theorem Tab.lt (hT : Tab l bt most L lb) : bt < l.length := by
  obtain ⟨v, hv, -⟩ := hT.lv
  exact lt_of_some hv
theorem Tab.llt (hT : Tab l bt most L lb) {b : Nat} (hb : lb = some b) : b < l.length := by
  subst hb
  obtain ⟨-, g, va, -, -, h2⟩ := hT
  exact lt_of_some h2
theorem Tab.lne (hT : Tab l bt most L lb) : lb ≠ some bt := by
  intro hb
  subst hb
  exact hT.1 rfl
/-- Only its own blocks matter. -/
theorem Tab.of_eq (hT : Tab l bt most L lb) (h1 : l'[bt]? = l[bt]?) (h2 : ∀ b, lb = some b → l'[b]? = l[b]?) : Tab l' bt most L lb := by
  cases lb with
  | none => exact ⟨by rw [h1]; exact hT.1, hT.2⟩
  | some b =>
    obtain ⟨h0, g, va, h3, h4, h5⟩ := hT
    exact ⟨h0, g, va, h3, by rw [h1]; exact h4, by rw [h2 b rfl]; exact h5⟩
theorem Tab.app (hT : Tab l bt most L lb) (m : List Blk) : Tab (l ++ m) bt most L lb :=
  hT.of_eq (List.getElem?_append_left hT.lt) (fun _ hb => List.getElem?_append_left (hT.llt hb))
theorem Tab.set (hT : Tab l bt most L lb) {i : Nat} {X : Blk} (h1 : i ≠ bt) (h2 : lb ≠ some i) : Tab (l.set i X) bt most L lb :=
  hT.of_eq (List.getElem?_set_ne h1) (fun b hb => List.getElem?_set_ne (fun h => h2 (by rw [h]; exact hb)))
theorem BoxIs.app (hB : BoxIs l bb bt o most L lb) (m : List Blk) : BoxIs (l ++ m) bb bt o most L lb := ⟨at_old hB.box, hB.ne, hB.nl, hB.tab.app m⟩
theorem BoxIs.set (hB : BoxIs l bb bt o most L lb) {i : Nat} {X : Blk} (h0 : i ≠ bb) (h1 : i ≠ bt) (h2 : lb ≠ some i) : BoxIs (l.set i X) bb bt o most L lb :=
  ⟨by rw [List.getElem?_set_ne h0]; exact hB.box, hB.ne, hB.nl, hB.tab.set h1 h2⟩
theorem Kept.app : Kept l (l ++ m) bt lb lb := ⟨by simp, fun b hb _ _ => List.getElem?_append_left hb, .inl rfl⟩
theorem Kept.trans (h1 : Kept l l' bt lb lb') (h2 : Kept l' l2 bt lb' lb2) : Kept l l2 bt lb lb2 := by
  obtain ⟨a1, a2, a3⟩ := h1
  obtain ⟨b1, b2, b3⟩ := h2
  refine ⟨by omega, fun b hb hbt hlb => ?_, ?_⟩
  · rw [b2 b (by omega) hbt ?_, a2 b hb hbt hlb]
    rcases a3 with a3 | ⟨c, a3, a4⟩
    · rw [a3]
      exact hlb
    · rw [a3]
      intro h
      injection h with h
      omega
  · rcases b3 with b3 | ⟨c, b3, b4⟩
    · rw [b3]
      exact a3
    · exact .inr ⟨c, b3, by omega⟩
theorem Kept.box (hB : BoxIs l bb bt o most L lb) {L' : List En} (hK : Kept l l' bt lb lb') (hT : Tab l' bt most L' lb') : BoxIs l' bb bt o most L' lb' := by
  have hbb := lt_of_some hB.box
  refine ⟨by rw [hK.2.1 bb hbb hB.ne hB.nl]; exact hB.box, hB.ne, ?_, hT⟩
  rcases hK.2.2 with h | ⟨b, h, hb⟩
  · rw [h]
    exact hB.nl
  · rw [h]
    intro h
    injection h with h
    omega
/-- When a call is over, the box is as it was left. -/
theorem leave_box {L' : List En} {v : V} (hbb : bb < l.length) (hbt : bt < l.length) (hB : BoxIs l2 bb bt o most L' lb2) (hK : Kept l l2 bt lb lb2) (hE : ∀ b, lb2 = some b → b < l.length ∨ (bt, b) ∈ es2) :
    ∃ l' es', leave ⟨l, es⟩ ⟨l2, es2⟩ v = ⟨l', es ++ es'⟩ ∧ BoxIs l' bb bt o most L' lb2 ∧ Kept l l' bt lb lb2 ∧ ∀ b, lb2 = some b → b < l.length ∨ (bt, b) ∈ es' := by
  unfold leave
  split
  · rename_i hc
    rw [Bool.and_eq_true, List.all_eq_true] at hc
    have hin : ∀ b, lb2 = some b → b < l.length := fun b hb => by
      rcases hE b hb with h | h
      · exact h
      · have := hc.2 _ h
        simp only [H.size, Bool.or_eq_true] at this
        rcases this with h3 | h3
        · have := of_decide_eq_true h3
          omega
        · exact of_decide_eq_true h3
    have ht : ∀ b, b < l.length → (l2.take l.length)[b]? = l2[b]? := fun b hb => List.getElem?_take_of_lt hb
    refine ⟨l2.take l.length, _, rfl, ⟨by rw [ht bb hbb]; exact hB.box, hB.ne, hB.nl, hB.tab.of_eq (ht bt hbt) (fun b hb => ht b (hin b hb))⟩, ⟨?_, fun b hb h1 h2 => ?_, hK.2.2⟩, fun b hb => .inl (hin b hb)⟩
    · have := hK.1
      simp
      omega
    · rw [ht b hb]
      exact hK.2.1 b hb h1 h2
  · exact ⟨l2, es2, rfl, hB, hK, hE⟩
def findP (typ : Int) : List Pm → Option Pm
  | [] => none
  | p :: l => if p.typ = typ then some p else findP typ l
theorem findP_at {typ : Int} {l : List Pm} {i : Nat} (hi : i < l.length) : findP typ (l.drop i) = if l[i].typ = typ then some l[i] else findP typ (l.drop (i + 1)) := by
  rw [List.drop_eq_getElem_cons hi, findP]
theorem param_Find {l : List Pm} {v : V} {typ : Int} (hs : Sl h 2 l.length (l.flatMap Pm.cells) v) (hl : l.length ≤ 1000000) :
    Does Tryz.prog C 35 [v, .int .i64 typ] h = some (.tup [.agg ((findP typ l).getD ⟨0, []⟩).cells, .bool (findP typ l).isSome], h) := by
  have hlen := hs.len Tryz.underlying27
  obtain ⟨q, hia, hrd, -⟩ := (hs.blks (h' := ⟨h.blks, []⟩) rfl).at Pm.cells_len
  refine Does_eq (n := 21) (rs := [.cell 4 47, .tmp 5]) Tryz.func35 (by kernel_rfl) rfl rfl rfl (by simp) fun σ hg => ?_
  simp (dsimp := false) [hg, hlen]
  refine W_loopM (fun n σ h' => ∃ i m, n = l.length - i ∧ i ≤ l.length ∧ h' = ⟨h.blks ++ (⟨[.int .i64 0, .str []], 0, 0, false⟩ :: m), []⟩ ∧ σ 1 = .int .i64 typ ∧ σ 4 = .ptr h.blks.length 0 0 2 ∧ σ 8 = v ∧ σ 9 = .int .i64 l.length ∧ σ 10 = .int .i64 i ∧ findP typ l = findP typ (l.drop i)) ?_ l.length _ _ ?_
  · rintro _ σ _ ⟨i, m, rfl, hi, rfl, g1, g4, g8, g9, g10, hf⟩
    by_cases hlt : i < l.length
    · have d1 := eq_true hlt
      have hia := hia i hlt
      have hrd := hrd i hlt _ (Ext.app (m := ⟨[.int .i64 0, .str []], 0, 0, false⟩ :: m))
      have hwi : IntKind.i64.wrap ((i : Int) + 1) = (i : Int) + 1 := wrap_i64 (by omega) (by omega)
      rw [findP_at hlt] at hf
      unfold Pm.cells at hrd
      by_cases hp : l[i].typ = typ
      · rw [if_pos hp] at hf
        rw [hf]
        simp (dsimp := false) [g1, g4, g8, g9, g10, d1, hia, hrd, splice, hp, Pm.cells]
      · rw [if_neg hp] at hf
        simp (dsimp := false) [g1, g4, g8, g9, g10, d1, hia, hrd, splice, hp, hwi]
        exact ⟨_, by omega, i + 1, rfl, by omega, by omega, hf⟩
    · obtain rfl : i = l.length := by omega
      rw [List.drop_length, findP] at hf
      rw [hf]
      simp (dsimp := false) [g4, g9, g10, splice, Pm.cells]
  · exact ⟨0, [], by simp, by simp, rfl, by simp (dsimp := false) [hg], by simp, by simp (dsimp := false), by simp, by simp, by simp⟩
end Go.Proofs.YtklbbjfbcibghaaGreat
end
section
namespace Go.Proofs.YtklbbjfbcibghaaGreat
open Go.Hl
set_option maxHeartbeats 8000000
variable {C : CallT} {h : H} {l l' l2 m : List Blk} {es es2 : List (Nat × Nat)} {bb bt : Nat} {o most : Int} {L : List En} {lb lb' lb2 : Option Nat}
theorem natbox_New {o n : Int} (h0 : 0 ≤ n) (h1 : n ≤ 256) : Does Tryz.prog C 7 [.int .u32 o, .int .i64 n] h = some (.ptr (h.blks.length + 1) 0 0 2, ⟨h.blks ++ [⟨[.int .i64 n, .nils], 0, 0, false⟩, ⟨[.int .u32 o, .ptr h.blks.length 0 0 2], 0, 0, false⟩], h.esc⟩) := by
  have hN := nattab_New (C := C) (h := ⟨h.blks, []⟩) (m := n)
  have e1 : ¬ n < 0 := by omega
  have e2 : ¬ 256 < n := by omega
  rw [if_neg e1, if_neg e2] at hN
  refine Does_eq (n := 10) (rs := [.tmp 4]) Tryz.func7 (by kernel_rfl) rfl rfl rfl (by simp) fun σ hg => ?_
  simp (dsimp := false) [hg, hN, splice]
theorem natbox_entry {k : List El} {w : V} {a b f t tag now : Int} {s : Bs} (hs : CksIs h k w) : Does Tryz.prog C 38 [.agg [.int .u32 a, .int .u32 b, .str s], .agg [.int .i64 f, .int .i64 t, .int .u32 tag, w], .int .i64 now] h = some (.agg (⟨a, f, b, t, 0, 0, now⟩ : En).cells, h) := by
  have hf := hs.sl.facts
  have hf1 := (CksIs.app (es' := []) (hs.blks (h' := ⟨h.blks, []⟩) rfl) [default]).sl.facts
  simp at hf1
  refine Does_eq (n := 17) (rs := [.cell 6 56]) Tryz.func38 (by kernel_rfl) rfl rfl rfl (by simp) fun σ hg => ?_
  simp (dsimp := false) [hg, hf, splice, En.cells]
theorem natbox_pass {a b : Int} {s : Bs} (hB : l[bb]? = some ⟨[.int .u32 o, .ptr bt 0 0 2], 0, 0, false⟩) : Does Tryz.prog C 42 [.ptr bb 0 0 2, .agg [.int .u32 a, .int .u32 b, .str s]] ⟨l, es⟩ = some (.tup [.int .i64 1, .agg [.int .u32 o, .int .u32 b, .str s]], ⟨l, es⟩) := by
  have hr := fun m => at_old (m := m) hB
  refine Does_eq (n := 15) (rs := [.tmp 4, .cell 5 37]) Tryz.func42 (by kernel_rfl) rfl rfl rfl (by simp) fun σ hg => ?_
  simp (dsimp := false) [hg]
  refine (W_anyF (F := []) (by kernel_rfl)).2 ?_
  simp (dsimp := false) [hg, hr, splice]
/-- What a box did: what becomes of the packet, the datagram, the table then. -/
def BoxPost (l : List Blk) (es : List (Nat × Nat)) (bb bt : Nat) (o most : Int) (lb : Option Nat) (what a b : Int) (s : Bs) (L' : List En) (x : V × H) : Prop :=
  ∃ l' es' lb', x = (.tup [.int .i64 what, .agg [.int .u32 a, .int .u32 b, .str s]], ⟨l', es ++ es'⟩) ∧ BoxIs l' bb bt o most L' lb' ∧ Kept l l' bt lb lb' ∧ ∀ c, lb' = some c → c < l.length ∨ (bt, c) ∈ es'
/-- A call that wrote into a block of its own is over. -/
theorem box_done {L' : List En} {es' : List (Nat × Nat)} {i : Nat} {X : Blk} {what a b : Int} {s : Bs} {v : V} (hbb : bb < l.length) (hbt : bt < l.length) (hB : BoxIs l' bb bt o most L' lb') (hK : Kept (l ++ m) l' bt lb lb') (hE : ∀ c, lb' = some c → c < (l ++ m).length ∨ (bt, c) ∈ es')
    (hi : l.length ≤ i) (him : i < (l ++ m).length) (hlb : ∀ c, lb = some c → c < l.length) :
    BoxPost l es bb bt o most lb what a b s L' (.tup [.int .i64 what, .agg [.int .u32 a, .int .u32 b, .str s]], leave ⟨l, es⟩ ⟨l'.set i X, es'⟩ v) := by
  have hK2 : Kept l l' bt lb lb' := Kept.trans Kept.app hK
  have hne : lb' ≠ some i := by
    rcases hK.2.2 with h | ⟨c, h, hc⟩
    · rw [h]
      intro h
      have := hlb i h
      omega
    · rw [h]
      intro h
      injection h with h
      omega
  obtain ⟨l3, es3, h1, h2, h3, h4⟩ := leave_box (es := es) (es2 := es') (v := v) hbb hbt (hB.set (X := X) (by omega) (by omega) hne) ⟨by simpa using hK2.1, fun c hc h1 h2 => by rw [List.getElem?_set_ne (by omega)]; exact hK2.2.1 c hc h1 h2, hK2.2.2⟩ (fun c hc => by
    rcases hE c hc with h | h
    · rcases hK.2.2 with h5 | ⟨d, h5, h6⟩
      · rw [h5] at hc
        exact .inl (hlb c hc)
      · rw [h5] at hc
        injection hc with hc
        omega
    · exact .inr h)
  rw [h1]
  exact ⟨l3, es3, lb', rfl, h2, h3, h4⟩
set_option maxRecDepth 100000 in
theorem natbox_first {e0 : El} {k : List El} {w : V} {a b f t tag now : Int} {s : Bs} (hB : BoxIs l bb bt o most L lb) (hl : L.length ≤ 100000) (hm : most ≤ 100000) (hs : CksIs ⟨l, es⟩ (e0 :: k) w) (hp : e0.c.params.length ≤ 1000000) (hr : (findP 49159 e0.c.params).isSome = true) (ha : (addN L most ⟨a, f, b, t, e0.c.tag, 0, now⟩).1 = 0) :
    Ok (Does Tryz.prog C 33 [.ptr bb 0 0 2, .agg [.int .u32 a, .int .u32 b, .str s], .agg [.int .i64 f, .int .i64 t, .int .u32 tag, w], .int .i64 now] ⟨l, es⟩) (BoxPost l es bb bt o most lb 1 o b s (addN L most ⟨a, f, b, t, e0.c.tag, 0, now⟩).2) := by
  have hs0 := hs.blks (h' := ⟨l, []⟩) rfl
  have hf := hs0.sl.facts
  have hf1 := (CksIs.app (es' := []) hs0 [default]).sl.facts
  have hbb := lt_of_some hB.box
  have hbt := hB.tab.lt
  obtain ⟨p, pf, hia, -, hfa, hrf⟩ := hs0.sl.atF El.cells_len
  have hia := hia 0 (by simp)
  have hfa := hfa 0 (by simp)
  have hr7 := fun m => hrf 0 (by simp) 7 (by decide) _ (Ext.app (l := l) (m := m))
  have hr11 := fun m => hrf 0 (by simp) 11 (by decide) _ (Ext.app (l := l) (m := m))
  simp only [List.getElem_cons_zero, El.cells, Ck.cells] at hr7 hr11
  have hE := natbox_entry (C := C) (a := a) (b := b) (f := f) (t := t) (tag := tag) (now := now) (s := s) (CksIs.app (es' := []) hs0 [⟨[.int .u32 a, .int .u32 b, .str s], 0, 0, false⟩, ⟨[.int .i64 f, .int .i64 t, .int .u32 tag, w], 0, 0, false⟩, ⟨[.int .u32 0, .int .u32 0, .str []], 0, 0, false⟩])
  have hsp := (hs0.el e0 (by simp)).sp
  have hF := fun m => param_Find (C := C) (typ := 49159) (Sl.app (es' := []) (m := m) hsp) hp
  obtain ⟨q, hq⟩ := Option.isSome_iff_exists.1 hr
  rw [hq] at hF
  simp (dsimp := false) [En.cells] at hE
  simp at hf1 hia hr7 hr11 hF
  refine Does_wp (n := 78) (rs := [.tmp 8, .cell 9 37]) Tryz.func33 (by kernel_rfl) rfl rfl rfl (by simp) fun σ hg => ?_
  simp (dsimp := false) [hg, hf, hia, hfa, hr7, hr11, hE, hF, splice, Pm.cells]
  have hb := fun m => at_old (m := m) hB.box
  have hlb : lb ≠ some l.length ∧ lb ≠ some (l.length + 2) := ⟨fun h => Nat.lt_irrefl _ (hB.tab.llt h), fun h => by have := hB.tab.llt h; omega⟩
  obtain ⟨⟨x1, x2⟩, hx, l1, es1, lb1, heq, hT1, hK1, hE1⟩ := nattab_Add (C := C) (e := ⟨a, f, b, t, e0.c.tag, 0, now⟩) (es := []) (hB.tab.app [⟨[.int .u32 a, .int .u32 b, .str s], 0, 0, false⟩, ⟨[.int .i64 f, .int .i64 t, .int .u32 tag, w], 0, 0, false⟩, ⟨[.int .u32 0, .int .u32 0, .str []], 0, 0, false⟩, ⟨(⟨a, f, b, t, e0.c.tag, 0, now⟩ : En).cells, 0, 0, false⟩, ⟨q.cells, 0, 0, false⟩]) hl hm
  have hB1 := Kept.box (hB.app _) hK1 hT1
  have hK2 := Kept.trans Kept.app hK1
  rw [ha] at heq
  obtain ⟨rfl, rfl⟩ := Prod.mk.inj heq
  have gD : l1[l.length]? = some ⟨[.int .u32 a, .int .u32 b, .str s], 0, 0, false⟩ := by
    rw [hK1.2.1 l.length (by simp) (by omega) hlb.1]
    simp
  have gR : l1[l.length + 2]? = some ⟨[.int .u32 0, .int .u32 0, .str []], 0, 0, false⟩ := by
    rw [hK1.2.1 (l.length + 2) (by simp) (by omega) hlb.2]
    simp
  have gl := lt_of_some gR
  have gS : ∀ X, (l1.set (l.length + 2) X)[l.length + 2]? = some X := fun X => List.getElem?_set_self gl
  have hP := natbox_pass (C := C) (es := es1) (a := a) (b := b) (s := s) hB1.box
  unfold En.cells Pm.cells at hx
  simp at hx
  refine (W_anyF (F := []) (by kernel_rfl)).2 ?_
  simp (dsimp := false)
  refine (W_anyF (F := []) (by kernel_rfl)).2 ?_
  simp (dsimp := false) [hg, hb, hx, gD, gR, gS, hP, splice]
  exact box_done hbb hbt hB1 hK1 hE1 (by omega) (by simp) (fun c hc => hB.tab.llt hc)
end Go.Proofs.YtklbbjfbcibghaaGreat
end
section
namespace Go.Proofs.YtklbbjfbcibghaaGreat
open Go.Hl
set_option maxHeartbeats 8000000
variable {C : CallT} {h : H} {l l' l2 m : List Blk} {es es2 : List (Nat × Nat)} {bb bt : Nat} {o most : Int} {L : List En} {lb lb' lb2 : Option Nat}
set_option maxRecDepth 100000 in
theorem natbox_Out {a b now : Int} {s : Bs} {p : Pk} {c : Ck} {cl : List Ck} (hB : BoxIs l bb bt o most L lb) (hl : L.length ≤ 100000) (hm : most ≤ 100000) (hs : s.length ≤ 2000) (hG : getP s = (p, 0)) (hc : p.l = c :: cl) (ht : c.typ = 1) (hp : c.params.length ≤ 1000000) (hr : (findP 49159 c.params).isSome = true) (ha : (addN L most ⟨a, p.f, b, p.t, c.tag, 0, now⟩).1 = 0) :
    Ok (Does Tryz.prog C 9 [.ptr bb 0 0 2, .agg [.int .u32 a, .int .u32 b, .str s], .int .i64 now] ⟨l, es⟩) (BoxPost l es bb bt o most lb 1 o b s (addN L most ⟨a, p.f, b, p.t, c.tag, 0, now⟩).2) := by
  have hbb := lt_of_some hB.box
  have hbt := hB.tab.lt
  obtain ⟨⟨z1, z2⟩, hz, u, hu, ⟨m5, es5, he5, hes5⟩, w, l3, hw, hl3, hlc⟩ := packet_Get (C := C) (h := ⟨l ++ [⟨[.int .u32 a, .int .u32 b, .str s], 0, 0, false⟩, ⟨[.int .u32 0, .int .u32 0, .str []], 0, 0, false⟩], []⟩) s (by omega)
  rw [hG] at hu hw hlc
  simp only at hu he5 hl3
  subst hu he5 hw
  rw [hc] at hlc
  obtain ⟨e0, k, rfl⟩ : ∃ e0 k, l3 = e0 :: k := by
    cases l3 with
    | nil => simp at hlc
    | cons e0 k => exact ⟨e0, k, rfl⟩
  simp only [List.map_cons, List.cons.injEq] at hlc
  obtain ⟨rfl, -⟩ := hlc
  have hS := CksIs.app (es' := es5) hl3 [⟨[.int .i64 p.f, .int .i64 p.t, .int .u32 p.tag, w], 0, 0, false⟩]
  have hf := hl3.sl.facts
  obtain ⟨q, qf, hia, -, hfa, hrf⟩ := hS.sl.atF El.cells_len
  have hia := hia 0 (by simp)
  have hfa := hfa 0 (by simp)
  have hr0 := hrf 0 (by simp) 0 (by decide) _ (Ext.refl _)
  simp only [List.getElem_cons_zero, El.cells, Ck.cells, ht] at hr0
  obtain ⟨⟨x1, x2⟩, hx, l1, es1, lb1, heq, hB1, hK1, hE1⟩ := natbox_first (C := C) (a := a) (b := b) (f := p.f) (t := p.t) (tag := p.tag) (now := now) (s := s) (hB.app ([⟨[.int .u32 a, .int .u32 b, .str s], 0, 0, false⟩, ⟨[.int .u32 0, .int .u32 0, .str []], 0, 0, false⟩] ++ (m5 ++ [⟨[.int .i64 p.f, .int .i64 p.t, .int .u32 p.tag, w], 0, 0, false⟩]))) hl hm (es := es5) (w := w) (by simpa using hS) hp hr ha
  obtain ⟨rfl, rfl⟩ := Prod.mk.inj heq
  have hlb : lb ≠ some (l.length + 1) := fun h => by have := hB.tab.llt h; omega
  have gR : l1[l.length + 1]? = some ⟨[.int .u32 0, .int .u32 0, .str []], 0, 0, false⟩ := by
    rw [hK1.2.1 (l.length + 1) (by simp) (by omega) hlb]
    simp
  have gl := lt_of_some gR
  have gS : ∀ X, (l1.set (l.length + 1) X)[l.length + 1]? = some X := fun X => List.getElem?_set_self gl
  simp at hz hf hia hr0 hx
  refine Does_wp (n := 122) (rs := [.tmp 6, .cell 7 37]) Tryz.func9 (by kernel_rfl) rfl rfl rfl (by simp) fun σ hg => ?_
  simp (dsimp := false) [hg, hz, hf, hia, hfa, hr0, hx, gR, gS, splice]
  exact box_done hbb hbt hB1 hK1 (fun c hc => by
    rcases hE1 c hc with h | h
    · exact .inl h
    · exact .inr (List.mem_append_right _ h)) (by omega) (by simp) (fun c hc => hB.tab.llt hc)
end Go.Proofs.YtklbbjfbcibghaaGreat
end
section
namespace Go.Proofs.YtklbbjfbcibghaaGreat
open Go.Hl
set_option maxHeartbeats 8000000
variable {C : CallT} {h : H} {l l' l2 m : List Blk} {es es2 : List (Nat × Nat)} {bb bt : Nat} {o most : Int} {L : List En} {lb lb' lb2 : Option Nat}
set_option maxRecDepth 100000 in
theorem natbox_In {a : Int} {s : Bs} {p : Pk} {c : Ck} {cl : List Ck} {n : Nat} {y : En} (hB : BoxIs l bb bt o most L lb) (hl : L.length ≤ 100000) (hs : s.length ≤ 2000) (hG : getP s = (p, 0)) (hc : p.l = c :: cl) (ht : c.typ ≠ 2) (htag : p.tag ≠ 0) (hn : inN L ⟨0, p.t, a, p.f, p.tag, p.tag, 0⟩ (mirroredP p.l) = n) (hy : L[n]? = some y) :
    Ok (Does Tryz.prog C 13 [.ptr bb 0 0 2, .agg [.int .u32 a, .int .u32 o, .str s]] ⟨l, es⟩) (BoxPost l es bb bt o most lb 1 a y.inner s L) := by
  have hbb := lt_of_some hB.box
  have hbt := hB.tab.lt
  obtain ⟨⟨z1, z2⟩, hz, u, hu, ⟨m5, es5, he5, hes5⟩, w, l3, hw, hl3, hlc⟩ := packet_Get (C := C) (h := ⟨l ++ [⟨[.int .u32 a, .int .u32 o, .str s], 0, 0, false⟩, ⟨[.int .u32 0, .int .u32 0, .str []], 0, 0, false⟩], []⟩) s (by omega)
  rw [hG] at hu hw hlc
  simp only at hu he5 hl3
  subst hu he5 hw
  have hS := CksIs.app (es' := es5) hl3 [⟨[.int .i64 p.f, .int .i64 p.t, .int .u32 p.tag, w], 0, 0, false⟩]
  have hM := packet_Mirrored (C := C) (f := p.f) (t := p.t) (tag := p.tag) hS
  rw [hlc] at hM
  rw [hc] at hlc
  obtain ⟨e0, k, rfl⟩ : ∃ e0 k, l3 = e0 :: k := by
    cases l3 with
    | nil => simp at hlc
    | cons e0 k => exact ⟨e0, k, rfl⟩
  simp only [List.map_cons, List.cons.injEq] at hlc
  obtain ⟨rfl, -⟩ := hlc
  have hf := hl3.sl.facts
  have hf1 := hS.sl.facts
  obtain ⟨q, qf, hia, hrd, -, -⟩ := hS.sl.atF El.cells_len
  have hia := hia 0 (by simp)
  have hrd := hrd 0 (by simp) _ (Ext.refl _)
  simp only [List.getElem_cons_zero, El.cells, Ck.cells] at hrd
  have hef := (hS.el e0 (by simp)).facts
  have hB1 := hB.app ([⟨[.int .u32 a, .int .u32 o, .str s], 0, 0, false⟩, ⟨[.int .u32 0, .int .u32 0, .str []], 0, 0, false⟩] ++ (m5 ++ [⟨[.int .i64 p.f, .int .i64 p.t, .int .u32 p.tag, w], 0, 0, false⟩]))
  have hI := nattab_Inward (C := C) (es := es5) (e := ⟨0, p.t, a, p.f, p.tag, p.tag, 0⟩) (b := mirroredP p.l) hB1.tab (by omega)
  rw [hn] at hI
  have hA := fun m => nattab_At (C := C) (es := es5) (hB1.tab.app m) hy
  have hb := fun m => at_old (m := m) hB.box
  unfold En.cells at hI hA
  simp at hz hf hf1 hia hrd hM hI hA hef
  refine Does_wp (n := 84) (rs := [.tmp 4, .cell 5 37]) Tryz.func13 (by kernel_rfl) rfl rfl rfl (by simp) fun σ hg => ?_
  simp (dsimp := false) [hg]
  refine (W_anyF (F := []) (by kernel_rfl)).2 ?_
  simp (dsimp := false) [hg, hb, hz, hf, htag, splice]
  refine (W_anyF (F := [(3, 16), (5, 16), (7, 16), (9, 16), (11, 16), (13, 16)]) (by kernel_rfl)).2 ?_
  simp (dsimp := false) [hg, hb, hM, hI, hia, hrd, hef, ht, splice]
  refine (W_anyF (F := [(1, 7), (10, 7)]) (by kernel_rfl)).2 ?_
  have hpo : pureOp.partOf [.int .u32 y.inner, .int .i64 y.port, .int .u32 y.peer, .int .i64 y.pport, .int .u32 y.in_, .int .u32 y.out, .int .i64 y.seen] 0 1 false = some (.int .u32 y.inner) := rfl
  simp (dsimp := false) [hg, hb, hA, hpo, splice]
  obtain ⟨l3, es3, h1, h2, h3, h4⟩ := leave_box (l := l) (es := es) (es2 := es5) (v := .tup [.int .i64 1, .agg [.int .u32 a, .int .u32 y.inner, .str s]]) hbb hbt (hB.app (⟨[.int .u32 a, .int .u32 o, .str s], 0, 0, false⟩ :: ⟨[.int .u32 a, .int .u32 y.inner, .str s], 0, 0, false⟩ :: (m5 ++ [⟨[.int .i64 p.f, .int .i64 p.t, .int .u32 p.tag, w], 0, 0, false⟩, ⟨e0.c.cells e0.vp e0.vc e0.vg e0.vd, 0, 0, false⟩]))) Kept.app (fun c hc => .inl (hB.tab.llt hc))
  unfold Ck.cells at h1
  rw [h1]
  exact ⟨l3, es3, lb, rfl, h2, h3, h4⟩
end Go.Proofs.YtklbbjfbcibghaaGreat
end
section
namespace Go.Proofs.YtklbbjfbcibghaaGreat
open Go.Hl
set_option maxHeartbeats 8000000
variable {h : H} {l l' l2 m : List Blk} {es es2 : List (Nat × Nat)} {bb bt : Nat} {o most : Int} {L : List En} {lb lb' lb2 : Option Nat}
/-- A first chunk, that says no new begin. -/
def ci (tag : Int) : Ck := { ck0 with typ := 1, tag := tag, params := [⟨49159, []⟩] }
set_option maxRecDepth 100000 in
theorem law_first {tag : Int} : Does Tryz.prog putC 18 [.int .u32 tag] h = some (.str (putP 5 7 0 [ci tag]), h) := by
  have hk : CksIs ⟨h.blks ++ [⟨[.int .i64 49159, .str []], 0, 0, false⟩, ⟨(ci tag).cells (.sl h.blks.length 0 1 0 2 false) .nils .nils .nils, 0, 0, false⟩], []⟩ [⟨ci tag, .sl h.blks.length 0 1 0 2 false, .nils, .nils, .nils⟩] (.sl (h.blks.length + 1) 0 1 0 15 false) :=
    ⟨.inr ⟨_, _, _, _, ⟨(ci tag).cells (.sl h.blks.length 0 1 0 2 false) .nils .nils .nils, 0, 0, false⟩, rfl, by simp, Nat.le_refl 0, Nat.le_refl 0, by simp (dsimp := false) [El.cells, Ck.cells], by simp (dsimp := false) [El.cells, Ck.cells]⟩, by
      intro e he
      rw [List.mem_singleton.1 he]
      exact ⟨.inr ⟨_, _, _, _, ⟨[.int .i64 49159, .str []], 0, 0, false⟩, rfl, by simp, Nat.le_refl 0, Nat.le_refl 0, by simp (dsimp := false) [ci, Pm.cells], by simp (dsimp := false) [ci, Pm.cells]⟩, Sl.nil _ 2, Sl.nil _ 2, Sl.nil _ 1⟩⟩
  have hP := rdoc7_Put (f := 5) (t := 7) (tag := 0) hk (show 1 ≤ 1000000 by decide) (by
    intro e he
    rw [List.mem_singleton.1 he]
    exact ⟨by simp (dsimp := false) [ci], by simp (dsimp := false) [ci, ck0], by simp (dsimp := false) [ci, ck0], by simp (dsimp := false) [ci, ck0], by simp (dsimp := false) [ci, ck0]⟩) (by
    intro e he g hg
    rw [List.mem_singleton.1 he] at hg
    cases hg)
  have e1 : [(⟨ci tag, .sl h.blks.length 0 1 0 2 false, .nils, .nils, .nils⟩ : El)].map El.c = [ci tag] := rfl
  rw [e1, putP_eq (by
    intro c hc
    rw [List.mem_singleton.1 hc]
    exact show (0 : Int) < 9223372036854775808 by decide)] at hP
  simp (dsimp := false) [ci, ck0, Ck.cells] at hP
  refine Does_eq (n := 10) (rs := [.tmp 2]) Tryz.func18 (by kernel_rfl) rfl rfl rfl (by simp) fun σ hg => ?_
  simp (dsimp := false) [hg, splice, hP, ci, ck0]
theorem first_put : ∃ s, putP 5 7 0 [ci 4] = s ∧ getP s = (⟨5, 7, 0, [ci 4]⟩, 0) ∧ s.length ≤ 2000 := ⟨_, rfl, by kernel_rfl, of_decide_eq_true (by kernel_rfl)⟩
theorem back_put : ∃ s, putP 7 5 4 [c11] = s ∧ getP s = (⟨7, 5, 4, [c11]⟩, 0) ∧ s.length ≤ 2000 := ⟨_, rfl, by kernel_rfl, of_decide_eq_true (by kernel_rfl)⟩
end Go.Proofs.YtklbbjfbcibghaaGreat
end
section
namespace Go.Proofs.YtklbbjfbcibghaaGreat
open Go.Hl
set_option maxHeartbeats 8000000
variable {h : H} {l l' l2 m : List Blk} {es es2 : List (Nat × Nat)} {bb bt : Nat} {o most : Int} {L : List En} {lb lb' lb2 : Option Nat}
theorem kept_pre {A : List Blk} (hK : Kept (A ++ m) l' bt lb lb') (hbt : A.length ≤ bt) (hlb : ∀ b, lb = some b → A.length ≤ b) : ∃ m', l' = A ++ m' := by
  refine ⟨l'.drop A.length, ?_⟩
  have ht : l'.take A.length = A := by
    apply List.ext_getElem?
    intro i
    rw [List.getElem?_take]
    by_cases hi : i < A.length
    · rw [if_pos hi, hK.2.1 i (by simp; omega) (by omega) (fun h => by have := hlb i h; omega), List.getElem?_append_left hi]
    · rw [if_neg hi, List.getElem?_eq_none (by omega)]
  conv => rhs; lhs; rw [← ht]
  rw [List.take_append_drop]
theorem leave_pre {A M : List Blk} {v : V} : ∃ m' es', leave ⟨A, es⟩ ⟨A ++ M, es2⟩ v = ⟨A ++ m', es'⟩ := by
  unfold leave
  split
  · exact ⟨[], _, by simp (dsimp := false) [H.size]; rfl⟩
  · exact ⟨M, _, rfl⟩
def e0N : En := ⟨1, 5, 9, 7, 4, 0, 3⟩
set_option maxRecDepth 100000 in
theorem awake12 : Ok (Does Tryz.prog putC 11 [] h) fun x => x.1 = .bool true ∧ ∃ m es', x.2 = ⟨h.blks ++ m, es'⟩ := by
  obtain ⟨s1, hs1, hG1, hl1⟩ := first_put
  obtain ⟨s2, hs2, hG2, hl2⟩ := back_put
  have hN := natbox_New (C := putC) (h := ⟨h.blks, []⟩) (o := 100) (n := 5) (by decide) (by decide)
  have hB0 : BoxIs (h.blks ++ [⟨[.int .i64 5, .nils], 0, 0, false⟩, ⟨[.int .u32 100, .ptr h.blks.length 0 0 2], 0, 0, false⟩]) (h.blks.length + 1) h.blks.length 100 5 [] none := ⟨by simp, by omega, by simp, by simp, rfl⟩
  have hF := law_first (tag := 4) (h := ⟨h.blks ++ [⟨[.int .i64 5, .nils], 0, 0, false⟩, ⟨[.int .u32 100, .ptr h.blks.length 0 0 2], 0, 0, false⟩], []⟩)
  rw [hs1] at hF
  obtain ⟨⟨x1, x2⟩, hx, l1, es1, lb1, heq, hB1, hK1, hE1⟩ := natbox_Out (C := putC) (a := 1) (b := 9) (now := 3) (s := s1) (es := []) hB0 (by simp) (by decide) hl1 hG1 rfl rfl (by simp (dsimp := false) [ci]) rfl rfl
  obtain ⟨rfl, rfl⟩ := Prod.mk.inj heq
  have hL1 : (addN [] 5 ⟨1, 5, 9, 7, (ci 4).tag, 0, 3⟩).2 = [e0N] := rfl
  simp only at hB1 hx
  rw [hL1] at hB1
  have hk : CksIs ⟨l1 ++ [⟨[.int .u32 100, .int .u32 9, .str s1], 0, 0, false⟩, ⟨c11.cells .nils .nils .nils .nils, 0, 0, false⟩], es1⟩ [⟨c11, .nils, .nils, .nils, .nils⟩] (.sl (l1.length + 1) 0 1 0 15 false) :=
    ⟨.inr ⟨_, _, _, _, ⟨c11.cells .nils .nils .nils .nils, 0, 0, false⟩, rfl, by simp, Nat.le_refl 0, Nat.le_refl 0, by simp (dsimp := false) [El.cells, Ck.cells], by simp (dsimp := false) [El.cells, Ck.cells]⟩, by
      intro e he
      rw [List.mem_singleton.1 he]
      exact ⟨Sl.nil _ 2, Sl.nil _ 2, Sl.nil _ 2, Sl.nil _ 1⟩⟩
  have hP := rdoc7_Put (f := 7) (t := 5) (tag := 4) hk (show 1 ≤ 1000000 by decide) (by
    intro e he
    rw [List.mem_singleton.1 he]
    exact ⟨by decide, by decide, by decide, by decide, by decide⟩) (by
    intro e he g hg
    rw [List.mem_singleton.1 he] at hg
    cases hg)
  have e1 : [(⟨c11, .nils, .nils, .nils, .nils⟩ : El)].map El.c = [c11] := rfl
  rw [e1, putP_eq (by
    intro c hc
    rw [List.mem_singleton.1 hc]
    exact show (0 : Int) < 9223372036854775808 by decide), hs2] at hP
  obtain ⟨⟨y1, y2⟩, hy, l2, es2, lb2, heq2, hB2, hK2, hE2⟩ := natbox_In (C := putC) (a := 9) (s := s2) (n := 0) (y := e0N) (es := es1) (hB1.app [⟨[.int .u32 100, .int .u32 9, .str s1], 0, 0, false⟩, ⟨c11.cells .nils .nils .nils .nils, 0, 0, false⟩]) (by simp) hl2 hG2 rfl (by decide) (by decide) (by kernel_rfl) rfl
  obtain ⟨rfl, rfl⟩ := Prod.mk.inj heq2
  have hlb1 : ∀ b, lb1 = some b → h.blks.length ≤ b ∧ b < l1.length := fun b hb => by
    refine ⟨?_, hB1.tab.llt hb⟩
    rcases hK1.2.2 with h1 | ⟨c, h1, h2⟩
    · rw [h1] at hb
      cases hb
    · rw [h1] at hb
      injection hb with hb
      simp at h2
      omega
  have hl1l := hK1.1
  simp at hl1l
  have gD : l2[l1.length]? = some ⟨[.int .u32 100, .int .u32 9, .str s1], 0, 0, false⟩ := by
    rw [hK2.2.1 l1.length (by simp) (by omega) (fun h => by have := (hlb1 _ h).2; omega)]
    simp
  have gD' := fun m => at_old (m := m) gD
  obtain ⟨m1, rfl⟩ := kept_pre hK1 (Nat.le_refl _) (fun b hb => by cases hb)
  rw [List.append_assoc] at hK2
  obtain ⟨m2, rfl⟩ := kept_pre hK2 (Nat.le_refl _) (fun b hb => (hlb1 b hb).1)
  unfold Ck.cells at hP hy
  simp (dsimp := false) [c11, ck0, e0N] at hN hF hx hy gD gD'
  simp (dsimp := false) [c11, ck0, Nat.add_assoc] at hP
  refine Does_wp (n := 42) (rs := [.tmp 0]) Tryz.func11 (by kernel_rfl) rfl rfl rfl (by simp) fun σ hg => ?_
  simp (dsimp := false) [splice, hN, hF, hx, hP, hy, gD']
  exact leave_pre (A := h.blks) (es := h.esc)
end Go.Proofs.YtklbbjfbcibghaaGreat
end
section
/-! Hl: flat structs are held against each other. -/
namespace Go.Hl
variable {P : Program} {t : TypeId}
def leafOf (P : Program) (t : TypeId) : Option Leaf := match P.info? t, P.underlying t with
  | some i, some (.int _) => if i.size = 1 then some .i else none
  | some i, some .string => if i.size = 1 then some .s else none
  | some i, some .bool => if i.size = 1 then some .b else none
  | _, _ => none
theorem flat_leaf {k : Leaf} (h : leafOf P t = some k) (d : Nat) : flatSh P (d + 1) t = some [k] := by
  unfold leafOf at h
  split at h
  all_goals first
    | (rename_i i hi hu
       split at h
       · rename_i hs
         injection h with h
         subst h
         rw [flatSh, hi, hu]
         simp only [hs, if_true]
       · cases h)
    | cases h
def leaves (P : Program) : List Field → Nat → Option (List Leaf)
  | [], _ => some []
  | f :: l, k => if f.name ≠ "_" ∧ f.offset = k then match leafOf P f.type, leaves P l (k + 1) with
    | some a, some b => some (a :: b)
    | _, _ => none
    else none
theorem flatFs_leaves {d : Nat} : ∀ (l : List Field) (k : Nat) {s : List Leaf}, leaves P l k = some s → flatSh.flatFs P (d + 1) l k = some s
  | [], k, s, h => by simpa [flatSh.flatFs, leaves] using h
  | f :: l, k, s, h => by
    unfold leaves at h
    split at h
    · rename_i hc
      split at h
      · rename_i a b ha hb
        injection h with h
        subst h
        rw [flatSh.flatFs, if_pos hc, flat_leaf ha]
        simp only [List.length_cons, List.length_nil, Nat.zero_add]
        rw [flatFs_leaves l (k + 1) hb]
        rfl
      · cases h
    · cases h
def leafStruct (P : Program) (t : TypeId) (s : List Leaf) : Bool := match P.info? t, P.underlying t with
  | some i, some (.struct fs) => !P.stoodInHeld t && decide (s.length = i.size) && decide (leaves P fs.toList 0 = some s)
  | _, _ => false
theorem eqOp_leaves {s : List Leaf} {a b : List V} {r : Bool} (h : leafStruct P t s = true) (h3 : P.eqGuardType P.depth t = false) (ha : fits s a = true) (hb : fits s b = true) (hc : cellsEq a b = some r) : eqOp P t (.agg a) (.agg b) = some r := by
  unfold leafStruct at h
  split at h
  · rename_i i fs hi hu
    simp only [Bool.and_eq_true, Bool.not_eq_true', decide_eq_true_eq] at h
    obtain ⟨⟨h1, h2⟩, h4⟩ := h
    have hf : flatSh P 100 t = some s := by
      rw [flatSh, hi, hu]
      simp only [h1, Bool.false_eq_true, if_false, flatFs_leaves fs.toList 0 h4, h2, if_true]
    unfold eqOp
    rw [hu]
    simp only [hf, h3, ha, hb, hc]
    rfl
  · cases h
theorem eql_leaves {s : List Leaf} {a b : List V} {r : Bool} (h : leafStruct P t s = true) (h3 : P.eqGuardType P.depth t = false) (ha : fits s a = true) (hb : fits s b = true) (hc : cellsEq a b = some r) : binV P .eql t (.agg a) (.agg b) = some (.bool r) := by
  unfold binV
  simp only [eqOp_leaves h h3 ha hb hc]
  rfl
theorem neq_leaves {s : List Leaf} {a b : List V} {r : Bool} (h : leafStruct P t s = true) (h3 : P.eqGuardType P.depth t = false) (ha : fits s a = true) (hb : fits s b = true) (hc : cellsEq a b = some r) : binV P .neq t (.agg a) (.agg b) = some (.bool !r) := by
  unfold binV
  simp only [eqOp_leaves h h3 ha hb hc]
  rfl
end Go.Hl
end
section
namespace Go.Proofs.YtklbbjfbcibghaaGreat
open Go.Hl
set_option maxHeartbeats 8000000
variable {C : CallT} {h : H}
theorem nil_eql : binV Tryz.prog .eql 23 .nilp .nilp = some (.bool true) := by simp (dsimp := false) [binV, eqOp, Tryz.underlying23]
theorem nil_neq : binV Tryz.prog .neq 23 .nilp .nilp = some (.bool false) := by simp (dsimp := false) [binV, eqOp, Tryz.underlying23]
theorem nil_Reboot : Does Tryz.prog C 17 [.nilp] h = some (.tup [], h) := by
  refine Does_eq (n := 9) (rs := []) Tryz.func17 (by kernel_rfl) rfl rfl rfl (by simp) fun σ hg => ?_
  simp (dsimp := false) [hg, nil_neq]
theorem nil_Outer : Does Tryz.prog C 25 [.nilp] h = some (.int .u32 0, h) := by
  refine Does_eq (n := 9) (rs := [.tmp 2]) Tryz.func25 (by kernel_rfl) rfl rfl rfl (by simp) fun σ hg => ?_
  simp (dsimp := false) [hg, nil_eql]
theorem nil_Table : Does Tryz.prog C 19 [.nilp] h = some (.nils, h) := by
  refine Does_eq (n := 10) (rs := [.tmp 2]) Tryz.func19 (by kernel_rfl) rfl rfl rfl (by simp) fun σ hg => ?_
  simp (dsimp := false) [hg, nil_eql]
theorem nil_Expire {n : Int} : Does Tryz.prog C 26 [.nilp, .int .i64 n] h = some (.int .i64 0, h) := by
  refine Does_eq (n := 13) (rs := [.tmp 4]) Tryz.func26 (by kernel_rfl) rfl rfl rfl (by simp) fun σ hg => ?_
  simp (dsimp := false) [hg, nil_eql]
theorem nil_Out {a b n : Int} {s : Bs} : Does Tryz.prog C 9 [.nilp, .agg [.int .u32 a, .int .u32 b, .str s], .int .i64 n] h = some (.tup [.int .i64 0, .agg [.int .u32 0, .int .u32 0, .str []]], h) := by
  refine Does_eq (n := 122) (rs := [.tmp 6, .cell 7 37]) Tryz.func9 (by kernel_rfl) rfl rfl rfl (by simp) fun σ hg => ?_
  simp (dsimp := false) [hg, nil_eql, splice]
theorem nil_In {a b : Int} {s : Bs} : Does Tryz.prog C 13 [.nilp, .agg [.int .u32 a, .int .u32 b, .str s]] h = some (.tup [.int .i64 0, .agg [.int .u32 0, .int .u32 0, .str []]], h) := by
  refine Does_eq (n := 84) (rs := [.tmp 4, .cell 5 37]) Tryz.func13 (by kernel_rfl) rfl rfl rfl (by simp) fun σ hg => ?_
  simp (dsimp := false) [hg]
  refine (W_anyF (F := []) (by kernel_rfl)).2 ?_
  simp (dsimp := false) [hg, nil_eql, splice]
theorem datagram_eql {a b a' b' : Int} {s s' : Bs} : binV Tryz.prog .eql 37 (.agg [.int .u32 a, .int .u32 b, .str s]) (.agg [.int .u32 a', .int .u32 b', .str s']) = some (.bool (a == a' && (b == b' && (s == s' && true)))) :=
  eql_leaves (s := [.i, .i, .s]) (by kernel_rfl) (by kernel_rfl) rfl rfl (by simp (dsimp := false) [cellsEq])
set_option maxRecDepth 100000 in
theorem natboxNone_row {a b n : Int} {s : Bs} (_ : (Lit.int .u32 a).wf = true) (_ : (Lit.int .u32 b).wf = true) (_ : (Lit.int .i64 n).wf = true) :
    Ok (Does Tryz.prog putC 6 [.agg [.int .u32 a, .int .u32 b, .str s], .int .i64 n] h) fun x => x.1 = .bool true := by
  have h1 := fun h => nil_Reboot (C := putC) (h := h)
  have h2 := fun h => nil_Outer (C := putC) (h := h)
  have h3 := fun h => nil_Table (C := putC) (h := h)
  have h4 := fun h => nil_Expire (C := putC) (h := h) (n := n)
  have h5 := fun h => nil_Out (C := putC) (h := h) (a := a) (b := b) (s := s) (n := n)
  have h6 := fun h => nil_In (C := putC) (h := h) (a := a) (b := b) (s := s)
  obtain ⟨⟨x1, x2⟩, hx, hx1, m, es, hx2⟩ := awake12 (h := ⟨h.blks ++ [⟨[.int .u32 a, .int .u32 b, .str s], 0, 0, false⟩, ⟨[.int .u32 0, .int .u32 0, .str []], 0, 0, false⟩, ⟨[.int .u32 0, .int .u32 0, .str []], 0, 0, false⟩], []⟩)
  simp only at hx1 hx2
  subst hx1 hx2
  simp at hx
  refine Does_wp (n := 61) (rs := [.tmp 4]) Tryz.func6 (by kernel_rfl) rfl rfl rfl (by simp) fun σ hg => ?_
  simp (dsimp := false) [hg, splice, h1, h2, h3, h4, h5, h6, hx, datagram_eql]
end Go.Proofs.YtklbbjfbcibghaaGreat
end
section
namespace Go.Proofs.YtklbbjfbcibghaaGreat
open Go.Hl
set_option maxHeartbeats 8000000
variable {C : CallT} {h : H} {l l' l2 m : List Blk} {es es2 : List (Nat × Nat)} {bb bt : Nat} {o most : Int} {L : List En} {lb lb' lb2 : Option Nat}
/-- What one between says of a packet. -/
def saidC (typ flags why : Int) (s : Bs) : Ck := { ck0 with typ := typ, flags := flags, causes := [⟨why, s.take 40⟩] }
theorem natbox_said {typ why : Int} {f : Nat} {s : Bs} (hf : f = 0 ∨ f = 1) (hs : s.length ≤ 2000) : Does Tryz.prog C 45 [.int .i64 typ, .int .i64 (f : Int), .int .i64 why, .str s] h =
    some (.agg ((saidC typ (f + 2 : Nat) why s).cells .nils (.sl (h.blks.length + 1) 0 1 0 2 false) .nils .nils), ⟨h.blks ++ [⟨(saidC typ (f + 2 : Nat) why s).cells .nils (.sl (h.blks.length + 1) 0 1 0 2 false) .nils .nils, 0, 0, false⟩, ⟨[.int .i64 why, .str (s.take 40)], 0, 0, false⟩], h.esc ++ [(h.blks.length, h.blks.length + 1)]⟩) := by
  obtain ⟨k, hk, hk1, hk2⟩ : ∃ k : Nat, (if (40 : Int) < (s.length : Int) then 40 else (s.length : Int)) = (k : Int) ∧ k ≤ s.length ∧ s.take k = s.take 40 := by
    refine ⟨min s.length 40, by split <;> omega, Nat.min_le_left .., ?_⟩
    by_cases h : s.length ≤ 40
    · rw [Nat.min_eq_left h, List.take_of_length_le (Nat.le_refl _), List.take_of_length_le h]
    · rw [Nat.min_eq_right (by omega)]
  have ho : bitsOp .or .i64 (f : Int) 2 = some ((f + 2 : Nat) : Int) := by
    rcases hf with rfl | rfl <;> rfl
  refine Does_eq (n := 21) (rs := [.cell 8 32]) Tryz.func45 (by kernel_rfl) rfl rfl rfl (by simp) fun σ hg => ?_
  simp (dsimp := false) [hg, splice, hk, hk1, hk2, ho, saidC, ck0, Ck.cells]
  have hi := eq_false (show ¬ h.blks.length + 1 < h.blks.length by omega)
  simp (dsimp := false) [leave, H.size, hi]
theorem natbox_answer {c : Ck} {vp vc vg vd w : V} {k : List El} {a b f t tag' tag : Int} {s : Bs} (hC : CkIs h c vp vc vg vd) (hm : CkSmall c) (hs : CksIs h k w) :
    Does Tryz.prog C 44 [.agg [.int .u32 a, .int .u32 b, .str s], .agg [.int .i64 f, .int .i64 t, .int .u32 tag', w], .int .u32 tag, .agg (c.cells vp vc vg vd)] h =
      some (if putP t f tag [c] = [] then .tup [.int .i64 0, .agg [.int .u32 0, .int .u32 0, .str []]] else .tup [.int .i64 2, .agg [.int .u32 b, .int .u32 a, .str (putP t f tag [c])]], h) := by
  have hC0 := hC.blks (h' := ⟨h.blks, []⟩) rfl
  have hs0 := hs.blks (h' := ⟨h.blks, []⟩) rfl
  have hcf := (CkIs.app (es' := []) hC0 [default]).facts
  have hcf0 := hC0.facts
  have hcf2 := (CkIs.app (es' := []) hC0 [default, default]).facts
  have hcf4 := (CkIs.app (es' := []) hC0 [default, default, default, default]).facts
  have hf := hs0.sl.facts
  have hf1 := (CksIs.app (es' := []) hs0 [default]).sl.facts
  have hk : CksIs ⟨h.blks ++ [⟨[.int .u32 a, .int .u32 b, .str s], 0, 0, false⟩, ⟨[.int .i64 f, .int .i64 t, .int .u32 tag', w], 0, 0, false⟩, ⟨c.cells vp vc vg vd, 0, 0, false⟩, ⟨[.int .u32 0, .int .u32 0, .str []], 0, 0, false⟩, ⟨c.cells vp vc vg vd, 0, 0, false⟩], []⟩ [⟨c, vp, vc, vg, vd⟩] (.sl (h.blks.length + 4) 0 1 0 15 false) :=
    ⟨.inr ⟨_, _, _, _, ⟨c.cells vp vc vg vd, 0, 0, false⟩, rfl, by simp, Nat.le_refl 0, Nat.le_refl 0, by simp (dsimp := false) [El.cells, Ck.cells], by simp (dsimp := false) [El.cells, Ck.cells]⟩, by
      intro e he
      rw [List.mem_singleton.1 he]
      exact CkIs.app hC0 _⟩
  have hP := packet_Put (C := C) (f := t) (t := f) (tag := tag) hk (show 1 ≤ 1000000 by decide) (by
    intro e he
    rw [List.mem_singleton.1 he]
    exact hm)
  have e1 : [(⟨c, vp, vc, vg, vd⟩ : El)].map El.c = [c] := rfl
  rw [e1] at hP
  unfold Ck.cells at hP
  simp at hcf hcf2 hcf4 hf hf1 hP
  generalize putP t f tag [c] = r at *
  refine Does_eq (n := 29) (rs := [.tmp 8, .cell 9 37]) Tryz.func44 (by kernel_rfl) rfl rfl rfl (by simp) fun σ hg => ?_
  unfold Ck.cells at hg
  by_cases hr : r = []
  · subst hr
    simp (dsimp := false) [hg, hf, hf1, hcf0, hcf, hcf2, hcf4, hP, splice]
  · simp (dsimp := false) [hg, hf, hf1, hcf0, hcf, hcf2, hcf4, hP, hr, splice]
    refine (W_anyF (F := []) (by kernel_rfl)).2 ?_
    simp (dsimp := false) [hg, hr, splice]
end Go.Proofs.YtklbbjfbcibghaaGreat
end
section
namespace Go.Proofs.YtklbbjfbcibghaaGreat
open Go.Hl
set_option maxHeartbeats 8000000
variable {C : CallT} {h : H} {l l' l2 m : List Blk} {es es2 : List (Nat × Nat)} {bb bt : Nat} {o most : Int} {L : List En} {lb lb' lb2 : Option Nat}
theorem law_four {x : Int} : Does Tryz.prog C 12 [.int .u32 x] h = some (.str (be4 x), h) := by
  refine Does_eq (n := 16) (rs := [.tmp 2]) Tryz.func12 (by kernel_rfl) rfl rfl rfl (by simp) fun σ hg => ?_
  simp (dsimp := false) [-List.all_eq_true, splice, hg, b8_wrap, fdiv_pos]
  rfl
theorem as_tags {id mine yours : Int} (h1 : 0 ≤ id ∧ id < 4294967296) (h2 : 0 ≤ mine ∧ mine < 4294967296) (h3 : 0 ≤ yours ∧ yours < 4294967296) (hm : mine ≠ 0) (hy : yours ≠ 0) :
    Does Tryz.prog C 36 [.agg [.int .i64 49160, .str (be4 id ++ (be4 mine ++ be4 yours))]] h = some (.tup [.int .u32 id, .int .u32 mine, .int .u32 yours, .bool true], h) := by
  have k1 : (⟨be4 id ++ (be4 mine ++ be4 yours), 0⟩ : RS).tk 4 = ⟨be4 mine ++ be4 yours, 0⟩ := tk4
  have k2 : (⟨be4 mine ++ be4 yours, 0⟩ : RS).tk 4 = ⟨be4 yours, 0⟩ := tk4
  have k3 : (⟨be4 yours, 0⟩ : RS).tk 4 = ⟨[], 0⟩ := by
    have := tk4 (x := yours) (b := [])
    simpa using this
  have n1 : (((⟨be4 id ++ (be4 mine ++ be4 yours), 0⟩ : RS).num 4 : Nat) : Int) = id := num4 h1.1 h1.2
  have n2 : (((⟨be4 mine ++ be4 yours, 0⟩ : RS).num 4 : Nat) : Int) = mine := num4 h2.1 h2.2
  have n3 : (((⟨be4 yours, 0⟩ : RS).num 4 : Nat) : Int) = yours := by
    have := num4 (x := yours) (b := []) h3.1 h3.2
    simpa using this
  have e3 : (⟨[], 0⟩ : RS).end = ⟨[], 0⟩ := rfl
  generalize be4 id ++ (be4 mine ++ be4 yours) = s1 at *
  generalize be4 mine ++ be4 yours = s2 at *
  generalize be4 yours = s3 at *
  refine Does_eq (n := 38) (rs := [.tmp 2, .tmp 3, .tmp 4, .tmp 5]) Tryz.func36 (by kernel_rfl) rfl rfl rfl (by simp) fun σ hg => ?_
  simp (dsimp := false) [hg, k1, k2, k3, n1, n2, n3, e3, hm, hy]
theorem firstE_ok {ty : Int} : ∀ {k : List El}, (∀ e ∈ k, e.ok h) → (firstE k ty).ok h
  | [], _ => ⟨Sl.nil _ 2, Sl.nil _ 2, Sl.nil _ 2, Sl.nil _ 1⟩
  | e :: k, hk => by
    unfold firstE
    split
    · exact hk e (List.mem_cons_self ..)
    · exact firstE_ok (fun x hx => hk x (List.mem_cons_of_mem _ hx))
theorem natbox_ends {k : List El} {w : V} {f t tag : Int} (hs : CksIs h k w) (hl : k.length ≤ 1000000) : Does Tryz.prog C 43 [.agg [.int .i64 f, .int .i64 t, .int .u32 tag, w]] h = some (.bool (hasE k 6 || hasE k 14), h) := by
  have hs0 := hs.blks (h' := ⟨h.blks, []⟩) rfl
  have hf := hs0.sl.facts
  have hF := fun m ty => packet_First (C := C) (f := f) (t := t) (tag := tag) (ty := ty) (CksIs.app (es' := []) hs0 m) hl
  have c6 : CkIs ⟨h.blks, []⟩ (firstE k 6).c _ _ _ _ := firstE_ok (ty := 6) hs0.el
  have c14 : CkIs ⟨h.blks, []⟩ (firstE k 14).c _ _ _ _ := firstE_ok (ty := 14) hs0.el
  have f6 := (CkIs.app (es' := []) c6 [default]).facts
  have f6' := (CkIs.app (es' := []) c6 [default, default]).facts
  have f14 := (CkIs.app (es' := []) c14 [default, default]).facts
  have f14' := (CkIs.app (es' := []) c14 [default, default, default]).facts
  simp only [El.cells, Ck.cells] at hF
  simp at f6 f6' f14 f14'
  refine Does_eq (n := 21) (rs := [.tmp 2]) Tryz.func43 (by kernel_rfl) rfl rfl rfl (by simp) fun σ hg => ?_
  by_cases h6 : hasE k 6 = true
  · simp (dsimp := false) [hg, hf, hF, f6, f6', f14, f14', h6, splice]
  · have h6' : hasE k 6 = false := by simpa using h6
    simp (dsimp := false) [hg, hf, hF, f6, f6', f14, f14', h6', splice]
end Go.Proofs.YtklbbjfbcibghaaGreat
end
section
namespace Go.Proofs.YtklbbjfbcibghaaGreat
open Go.Hl
set_option maxHeartbeats 8000000
variable {C : CallT} {h : H} {l l' l2 m : List Blk} {es es2 : List (Nat × Nat)} {bb bt : Nat} {o most : Int} {L : List En} {lb lb' lb2 : Option Nat}
theorem nattab_Touch {n : Nat} {x : En} {now : Int} (hT : Tab l bt most L lb) (hx : L[n]? = some x) (hl : L.length ≤ 100000) :
    Ok (Does Tryz.prog C 41 [.ptr bt 0 0 2, .int .i64 n, .int .i64 now] ⟨l, es⟩) fun y => ∃ l', y = (.tup [], ⟨l', es⟩) ∧ Tab l' bt most (L.set n { x with seen := now }) lb ∧ Kept l l' bt lb lb ∧ l'.length = l.length := by
  obtain ⟨v, hv, hs⟩ := hT.lv
  have hbt := lt_of_some hv
  have hlen := (hs []).len Tryz.underlying51
  have hnl := (List.getElem?_eq_some_iff.1 hx).1
  obtain ⟨b, rfl⟩ : ∃ b, lb = some b := by
    cases lb with
    | none =>
      obtain ⟨-, h2⟩ := hT
      subst h2
      simp at hnl
    | some b => exact ⟨b, rfl⟩
  obtain ⟨hbb, g, va, hva, hT1, hT2⟩ := hT
  have hbl := lt_of_some hT2
  obtain rfl : v = .sl b 0 L.length g 7 false := by
    rw [hv] at hT1
    simpa using hT1
  have hLl : (L.flatMap En.cells).length = L.length * 7 := flat_len En.cells_len L
  have s1 := splice_at L n (y := { x with seen := now }) (k := 6) (v := .int .i64 now) hx (by decide) rfl
  have d1 := eq_true (show (n : Int) < (L.length : Int) by omega)
  have d2 := eq_true hnl
  have z2 : n * 7 + 6 + 1 ≤ L.length * 7 := by omega
  refine Does_wp (n := 29) (rs := []) Tryz.func41 (by kernel_rfl) rfl rfl rfl (by simp) fun σ hg => ?_
  simp (dsimp := false) [hg, hT1, hT2, hlen, d1, d2, hva, hLl, s1, z2]
  exact ⟨⟨hbb, g, g, Nat.le_refl g, by rw [List.getElem?_set_ne hbb, List.length_set]; exact hT1, List.getElem?_set_self hbl⟩, by simp, fun c hc hcb hcl => List.getElem?_set_ne (fun h => hcl (by rw [h])), .inl rfl⟩
set_option maxRecDepth 100000 in
theorem natbox_again {k : List El} {w : V} {a b f t now mine yours : Int} {s : Bs} (hB : BoxIs l bb bt o most L lb) (hl : L.length ≤ 100000) (hm : most ≤ 100000) (hs : CksIs ⟨l, es⟩ k w) (ha : (addN L most ⟨a, f, b, t, mine, yours, now⟩).1 = 0) :
    Ok (Does Tryz.prog C 37 [.ptr bb 0 0 2, .agg [.int .u32 a, .int .u32 b, .str s], .agg [.int .i64 f, .int .i64 t, .int .u32 yours, w], .int .i64 now, .int .u32 mine, .int .u32 yours] ⟨l, es⟩) (BoxPost l es bb bt o most lb 1 o b s (addN L most ⟨a, f, b, t, mine, yours, now⟩).2) := by
  have hs0 := hs.blks (h' := ⟨l, []⟩) rfl
  have hf := hs0.sl.facts
  have hf1 := (CksIs.app (es' := []) hs0 [default]).sl.facts
  have hbb := lt_of_some hB.box
  have hbt := hB.tab.lt
  have hE := natbox_entry (C := C) (a := a) (b := b) (f := f) (t := t) (tag := yours) (now := now) (s := s) (CksIs.app (es' := []) hs0 [⟨[.int .u32 a, .int .u32 b, .str s], 0, 0, false⟩, ⟨[.int .i64 f, .int .i64 t, .int .u32 yours, w], 0, 0, false⟩, ⟨[.int .u32 0, .int .u32 0, .str []], 0, 0, false⟩])
  simp (dsimp := false) [En.cells] at hE
  simp at hf1
  have hb := fun m => at_old (m := m) hB.box
  have hlb : lb ≠ some l.length ∧ lb ≠ some (l.length + 2) := ⟨fun h => Nat.lt_irrefl _ (hB.tab.llt h), fun h => by have := hB.tab.llt h; omega⟩
  obtain ⟨⟨x1, x2⟩, hx, l1, es1, lb1, heq, hT1, hK1, hE1⟩ := nattab_Add (C := C) (e := ⟨a, f, b, t, mine, yours, now⟩) (es := []) (hB.tab.app [⟨[.int .u32 a, .int .u32 b, .str s], 0, 0, false⟩, ⟨[.int .i64 f, .int .i64 t, .int .u32 yours, w], 0, 0, false⟩, ⟨[.int .u32 0, .int .u32 0, .str []], 0, 0, false⟩, ⟨(⟨a, f, b, t, mine, yours, now⟩ : En).cells, 0, 0, false⟩]) hl hm
  have hB1 := Kept.box (hB.app _) hK1 hT1
  rw [ha] at heq
  obtain ⟨rfl, rfl⟩ := Prod.mk.inj heq
  have gD : l1[l.length]? = some ⟨[.int .u32 a, .int .u32 b, .str s], 0, 0, false⟩ := by
    rw [hK1.2.1 l.length (by simp) (by omega) hlb.1]
    simp
  have gR : l1[l.length + 2]? = some ⟨[.int .u32 0, .int .u32 0, .str []], 0, 0, false⟩ := by
    rw [hK1.2.1 (l.length + 2) (by simp) (by omega) hlb.2]
    simp
  have gl := lt_of_some gR
  have gS : ∀ X, (l1.set (l.length + 2) X)[l.length + 2]? = some X := fun X => List.getElem?_set_self gl
  have hP := natbox_pass (C := C) (es := es1) (a := a) (b := b) (s := s) hB1.box
  unfold En.cells at hx
  simp at hx
  refine Does_wp (n := 54) (rs := [.tmp 12, .cell 13 37]) Tryz.func37 (by kernel_rfl) rfl rfl rfl (by simp) fun σ hg => ?_
  simp (dsimp := false) [hg, hf, hf1, hE, splice]
  refine (W_anyF (F := []) (by kernel_rfl)).2 ?_
  simp (dsimp := false) [hg, hb, hx, gD, gR, gS, hP, splice]
  exact box_done hbb hbt hB1 hK1 hE1 (by omega) (by simp) (fun c hc => hB.tab.llt hc)
end Go.Proofs.YtklbbjfbcibghaaGreat
end
section
/-! Plain law: what was read was put down so. -/
namespace Go.Hl
theorem b8_back (x : UInt8) (k : Int) : b8 ((x.toNat : Int) + 256 * k) = x := by
  apply UInt8.toNat_inj.1
  rw [b8_nat]
  have := x.toNat_lt
  omega
theorem be2_back (a b : UInt8) : be2 ((numB [a, b] : Nat) : Int) = [a, b] := by
  have ha := a.toNat_lt
  have hb := b.toNat_lt
  have e : ((numB [a, b] : Nat) : Int) = (b.toNat : Int) + 256 * (a.toNat : Int) := by
    simp only [numB, List.foldl_cons, List.foldl_nil]
    omega
  unfold be2
  rw [e, b8_back, show ((b.toNat : Int) + 256 * (a.toNat : Int)) / 256 = (a.toNat : Int) + 256 * 0 by omega, b8_back]
/-- What was taken lay ahead. -/
theorem tk_split {r : RS} {n : Int} (he : (r.tk n).e = 0) : r.e = 0 ∧ 0 ≤ n ∧ (r.got n).length = n.toNat ∧ r.s = r.got n ++ (r.tk n).s := by
  have h0 : r.e = 0 := Classical.byContradiction fun h => by
    rw [tk_bad h] at he
    exact h he
  unfold RS.tk tkE at he
  simp only [h0, failE, if_true] at he
  have hb : noTake n r.s 0 = false := by
    cases hb : noTake n r.s 0 with
    | false => rfl
    | true =>
      rw [hb] at he
      cases he
  have hb' := hb
  unfold noTake at hb
  simp at hb
  obtain ⟨h1, h2⟩ := tk_all h0 hb.1 hb.2
  refine ⟨h0, hb.1, ?_, ?_⟩
  · rw [h2]
    simp
    omega
  · rw [h1, h2]
    simp
theorem fill_split {r : RS} {n : Int} (hl : ¬ r.left < (-n) % 4) (he : (r.fill n).e = 0) : r.e = 0 ∧ ∃ k : Nat, (k : Int) = (-n) % 4 ∧ r.s = noughts k ++ (r.fill n).s := by
  have h0 : r.e = 0 := Classical.byContradiction fun h => by
    have e2 : tkS (flN n r.s r.e) r.s r.e = [] := by simp [tkS, noTake, h]
    simp [RS.fill, flE, e2, noughts, tkE, noTake, h, failE] at he
  have hN : flN n r.s r.e = (-n) % 4 := by
    unfold flN
    unfold RS.left at hl
    rw [if_neg hl]
  obtain ⟨k, hk⟩ : ∃ k : Nat, (k : Int) = (-n) % 4 := ⟨((-n) % 4).toNat, by omega⟩
  refine ⟨h0, k, hk, ?_⟩
  have hle : (k : Int) ≤ r.s.length := by
    unfold RS.left leftN at hl
    rw [if_pos h0] at hl
    omega
  obtain ⟨h1, h2⟩ := tk_all (n := (k : Int)) h0 (by omega) hle
  have e1 : tkS (k : Int) r.s r.e = r.s.take k := h2
  have e2 : tkR (k : Int) r.s r.e = r.s.drop k := congrArg RS.s h1
  have e3 : tkE (k : Int) r.s r.e = 0 := congrArg RS.e h1
  unfold RS.fill flE flR at he ⊢
  simp only [hN, ← hk, e1, e2, e3] at he ⊢
  split at he
  · rename_i hz
    have hlen : (r.s.take k).length = k := by
      simp
      omega
    rw [hlen] at hz
    rw [← hz, List.take_append_drop]
  · simp [failE] at he
theorem num2_split {r : RS} (he : (r.tk 2).e = 0) : r.e = 0 ∧ r.s = be2 ((r.num 2 : Nat) : Int) ++ (r.tk 2).s ∧ r.num 2 < 65536 := by
  obtain ⟨h0, -, hl, hs⟩ := tk_split he
  unfold RS.num
  generalize r.got 2 = g at *
  match g, hl with
  | [a, b], _ =>
    refine ⟨h0, ?_, ?_⟩
    · rw [be2_back]
      exact hs
    · exact Nat.lt_of_lt_of_le (numB_lt [a, b]) (show 256 ^ 2 ≤ 65536 by decide)
theorem fill_bad {r : RS} {n : Int} (h : r.e ≠ 0) : (r.fill n).e = r.e := by
  have e2 : tkS (flN n r.s r.e) r.s r.e = [] := by simp [tkS, noTake, h]
  simp [RS.fill, flE, e2, noughts, tkE, noTake, h, failE]
theorem param_split {r : RS} (he : (tkParam r).2.e = 0) : (tkParam r).1.may = true ∧ r.e = 0 ∧ r.s = (tkParam r).1.put ++ (tkParam r).2.s := by
  have hT : tkParam r = tkParam r := rfl
  conv at hT => rhs; unfold tkParam
  simp only at hT
  generalize hr2 : (r.tk 2).tk 2 = r2 at *
  generalize hn : (((r.tk 2).num 2 : Nat) : Int) - 4 = n at *
  by_cases c1 : r2.e = 0 ∧ (n < 0 ∨ 1000 < n)
  · have e3 : (r2.fail 3).e ≠ 0 := by simp [RS.fail, failE, c1.1]
    rw [if_pos c1, tk_bad e3, if_pos e3] at hT
    rw [hT] at he
    exact absurd he e3
  rw [if_neg c1] at hT
  by_cases c4 : (r2.tk n).e = 0
  · rw [if_neg (fun x => x c4)] at hT
    by_cases c5 : (r2.tk n).left < (-n) % 4
    · have e5 : ((r2.tk n).fail 2).e ≠ 0 := by simp [RS.fail, failE, c4]
      have e6 : (((r2.tk n).fail 2).fill n).e ≠ 0 := by
        rw [fill_bad e5]
        exact e5
      rw [if_pos c5, if_pos e6] at hT
      rw [hT] at he
      exact absurd he e6
    · rw [if_neg c5] at hT
      by_cases c6 : ((r2.tk n).fill n).e = 0
      · rw [if_neg (fun x => x c6)] at hT
        obtain ⟨s0, s1, s2, s3⟩ := tk_split c4
        rw [← hr2] at s0
        obtain ⟨u0, u1, u2⟩ := num2_split s0
        obtain ⟨v0, v1, v2⟩ := num2_split u0
        obtain ⟨-, k, hk, w⟩ := fill_split c5 c6
        have hn1 : n ≤ 1000 := by
          refine Classical.byContradiction fun h => c1 ⟨by rw [← hr2]; exact s0, .inr (by omega)⟩
        have hlen : ((r2.got n).length : Int) = n := by omega
        have hmay : Pm.may ⟨(r.num 2 : Nat), r2.got n⟩ = true := by
          unfold Pm.may
          simp only [Bool.and_eq_true, decide_eq_true_eq]
          omega
        rw [hT]
        refine ⟨hmay, v0, ?_⟩
        simp only
        unfold Pm.put filled
        rw [if_pos hmay]
        have h4 : ((r2.got n).length : Int) + 4 = (((r.tk 2).num 2 : Nat) : Int) := by omega
        have hl2 : (be2 ((r.num 2 : Nat) : Int) ++ be2 (((r.tk 2).num 2 : Nat) : Int) ++ r2.got n).length = 4 + (r2.got n).length := by
          simp [be2_len]
          omega
        have hpad : padN (4 + (r2.got n).length) = k := by
          unfold padN
          omega
        simp only
        rw [h4, hl2, hpad, v1, u1, hr2, s3, w]
        simp
      · rw [if_pos c6] at hT
        rw [hT] at he
        exact absurd he c6
  · rw [if_pos c4] at hT
    rw [hT] at he
    exact absurd he c4
theorem all_split : ∀ (k : Nat) (r : RS) (out : List Pm), out.length ≤ 16 → 17 ≤ out.length + k → (allLoop k r out).1.e = 0 → ∃ l, (allLoop k r out).2 = out ++ l ∧ l.all Pm.may = true ∧ r.e = 0 ∧ r.s = putAll l ∧ out.length + l.length ≤ 16
  | 0, r, out, h1, h2, _ => by omega
  | k + 1, r, out, h1, h2, he => by
    unfold allLoop at he ⊢
    by_cases c : 0 < r.left
    · rw [if_pos c] at he ⊢
      by_cases c2 : out.length = 16
      · rw [if_pos c2] at he
        have h0 : r.e = 0 := Classical.byContradiction fun h => by
          simp [RS.left, leftN, h] at c
        simp [RS.fail, failE, h0] at he
      · rw [if_neg c2] at he ⊢
        obtain ⟨l, e1, e2, e3, e4, e5⟩ := all_split k _ _ (by simp; omega) (by simp; omega) he
        obtain ⟨p1, p2, p3⟩ := param_split e3
        refine ⟨(tkParam r).1 :: l, by rw [e1]; simp, by simp [p1, e2], p2, ?_, by simp at e5 ⊢; omega⟩
        rw [p3, e4]
        simp [putAll]
    · rw [if_neg c] at he ⊢
      have h0 : r.e = 0 := he
      have hs : r.s = [] := by
        simp [RS.left, leftN, h0] at c
        exact c
      exact ⟨[], by simp, rfl, h0, by simp [putAll, hs], by simpa using h1⟩
theorem allP_split {s : Bs} (h : (allP s).2 = 0) : s = putAll (allP s).1 ∧ (allP s).1.all Pm.may = true ∧ (allP s).1.length ≤ 16 := by
  unfold allP at h ⊢
  simp only at h ⊢
  by_cases c : (allLoop 17 ⟨s, 0⟩ []).1.e = 0
  · obtain ⟨l, e1, e2, -, e4, e5⟩ := all_split 17 ⟨s, 0⟩ [] (by simp) (by simp) c
    rw [if_neg (fun x => x c)]
    simp only
    rw [e1]
    simp only [List.nil_append]
    exact ⟨e4, e2, by simpa using e5⟩
  · rw [if_pos c] at h
    exact absurd h c
theorem be4_back (a b c d : UInt8) : be4 ((numB [a, b, c, d] : Nat) : Int) = [a, b, c, d] := by
  have ha := a.toNat_lt
  have hb := b.toNat_lt
  have hc := c.toNat_lt
  have hd := d.toNat_lt
  have e : ((numB [a, b, c, d] : Nat) : Int) = (d.toNat : Int) + 256 * ((c.toNat : Int) + 256 * ((b.toNat : Int) + 256 * (a.toNat : Int))) := by
    simp only [numB, List.foldl_cons, List.foldl_nil]
    omega
  unfold be4
  rw [e, b8_back]
  rw [show ((d.toNat : Int) + 256 * ((c.toNat : Int) + 256 * ((b.toNat : Int) + 256 * (a.toNat : Int)))) / 256 = (c.toNat : Int) + 256 * ((b.toNat : Int) + 256 * (a.toNat : Int)) by omega, b8_back]
  rw [show ((d.toNat : Int) + 256 * ((c.toNat : Int) + 256 * ((b.toNat : Int) + 256 * (a.toNat : Int)))) / 65536 = (b.toNat : Int) + 256 * (a.toNat : Int) by omega, b8_back]
  rw [show ((d.toNat : Int) + 256 * ((c.toNat : Int) + 256 * ((b.toNat : Int) + 256 * (a.toNat : Int)))) / 16777216 = (a.toNat : Int) + 256 * 0 by omega, b8_back]
theorem num4_split {r : RS} (he : (r.tk 4).e = 0) : r.e = 0 ∧ r.s = be4 ((r.num 4 : Nat) : Int) ++ (r.tk 4).s ∧ r.num 4 < 4294967296 := by
  obtain ⟨h0, -, hl, hs⟩ := tk_split he
  unfold RS.num
  generalize r.got 4 = g at *
  match g, hl with
  | [a, b, c, d], _ =>
    refine ⟨h0, ?_, ?_⟩
    · rw [be4_back]
      exact hs
    · exact Nat.lt_of_lt_of_le (numB_lt [a, b, c, d]) (show 256 ^ 4 ≤ 4294967296 by decide)
theorem num1_split {r : RS} (he : (r.tk 1).e = 0) : r.e = 0 ∧ r.s = b8 ((r.num 1 : Nat) : Int) :: (r.tk 1).s ∧ r.num 1 < 256 := by
  obtain ⟨h0, -, hl, hs⟩ := tk_split he
  unfold RS.num
  generalize r.got 1 = g at *
  match g, hl with
  | [a], _ =>
    have e : ((numB [a] : Nat) : Int) = (a.toNat : Int) + 256 * 0 := by simp [numB]
    refine ⟨h0, ?_, ?_⟩
    · rw [e, b8_back]
      exact hs
    · exact Nat.lt_of_lt_of_le (numB_lt [a]) (show 256 ^ 1 ≤ 256 by decide)
end Go.Hl
end
section
/-! Plain law: what was read was put down so. -/
namespace Go.Proofs.YtklbbjfbcibghaaGreat
open Go.Hl
set_option maxHeartbeats 1000000
theorem gaps_split : ∀ (k : Nat) (r : RS), (gapsN k r).2.e = 0 → r.e = 0 ∧ r.s = gapsF (gapsN k r).1 ++ (gapsN k r).2.s
  | 0, r, h => ⟨h, by simp (dsimp := false) [gapsN, gapsF]⟩
  | k + 1, r, h => by
    unfold gapsN at h ⊢
    simp only at h ⊢
    obtain ⟨u0, u1, -⟩ := num2_split h
    obtain ⟨v0, v1, -⟩ := num2_split u0
    obtain ⟨w0, w1⟩ := gaps_split k r v0
    refine ⟨w0, ?_⟩
    rw [w1]
    conv => lhs; rw [v1, u1]
    simp (dsimp := false) [gapsF]
theorem dups_split : ∀ (k : Nat) (r : RS), (dupsN k r).2.e = 0 → r.e = 0 ∧ r.s = dupsF (dupsN k r).1 ++ (dupsN k r).2.s
  | 0, r, h => ⟨h, by simp (dsimp := false) [dupsN, dupsF]⟩
  | k + 1, r, h => by
    unfold dupsN at h ⊢
    simp only at h ⊢
    obtain ⟨v0, v1, -⟩ := num4_split h
    obtain ⟨w0, w1⟩ := dups_split k r v0
    refine ⟨w0, ?_⟩
    rw [w1]
    conv => lhs; rw [v1]
    simp (dsimp := false) [dupsF]
theorem end_split {r : RS} (h : r.end.e = 0) : r.e = 0 ∧ r.s = [] := by
  unfold RS.end endE at h
  simp only at h
  split at h
  · exact absurd h (by decide)
  · rename_i hc
    refine ⟨h, Classical.byContradiction fun hn => hc ⟨h, hn⟩⟩
theorem fail_ne {r : RS} {x : Int} (hx : x ≠ 0) : (r.fail x).e ≠ 0 := by
  unfold RS.fail failE
  simp only
  split
  · exact hx
  · assumption
theorem rest_ok {r : RS} (h : r.e = 0) : r.rest = r.s := by simp (dsimp := false) [RS.rest, h]
theorem pars_split {r : RS} (h : (parR r).e = 0) : r.e = 0 ∧ r.s = putAll (allP r.rest).1 := by
  unfold parR at h
  by_cases c : (allP r.rest).2 = 0
  · rw [if_neg (fun x => x c)] at h
    have h0 : r.e = 0 := h
    refine ⟨h0, ?_⟩
    have := (allP_split c).1
    rw [← this, rest_ok h0]
  · rw [if_pos c] at h
    exact absurd h (fail_ne c)
/-- What a body says was put down so. -/
theorem says_split {r : RS} {c : Ck} (h : (saysR r c).1.end.e = 0) : r.e = 0 ∧ r.s = (saysR r c).2.body ∧ (saysR r c).2.typ = c.typ ∧ (saysR r c).2.flags = c.flags := by
  obtain ⟨h0, hs⟩ := end_split h
  clear h
  unfold saysR at h0 hs ⊢
  simp only at h0 hs ⊢
  by_cases t0 : c.typ = 0
  · rw [if_pos t0] at h0 hs ⊢
    have h1 : ((((r.tk 4).tk 2).tk 2).tk 4).e = 0 := h0
    obtain ⟨a0, a1, -⟩ := num4_split h1
    obtain ⟨b0, b1, -⟩ := num2_split a0
    obtain ⟨c0, c1, -⟩ := num2_split b0
    obtain ⟨d0, d1, -⟩ := num4_split c0
    refine ⟨d0, ?_, rfl, rfl⟩
    unfold Ck.body
    simp only
    rw [if_pos t0, rest_ok h1, d1, c1, b1, a1]
    simp
  rw [if_neg t0] at h0 hs ⊢
  by_cases t1 : isInit c.typ = true
  · rw [if_pos t1] at h0 hs ⊢
    obtain ⟨h1, h2⟩ := pars_split h0
    obtain ⟨a0, a1, -⟩ := num4_split h1
    obtain ⟨b0, b1, -⟩ := num2_split a0
    obtain ⟨c0, c1, -⟩ := num2_split b0
    obtain ⟨d0, d1, -⟩ := num4_split c0
    obtain ⟨e0, e1, -⟩ := num4_split d0
    refine ⟨e0, ?_, rfl, rfl⟩
    unfold Ck.body
    simp only
    rw [if_neg t0, if_pos t1, e1, d1, c1, b1, a1, h2]
    simp
  rw [if_neg t1] at h0 hs ⊢
  by_cases t3 : c.typ = 3
  · rw [if_pos t3] at h0 hs ⊢
    unfold sackR at h0 hs ⊢
    simp only at h0 hs ⊢
    by_cases g1 : 16 < ((r.tk 4).tk 4).num 2 ∨ 16 < (((r.tk 4).tk 4).tk 2).num 2
    · rw [if_pos g1] at h0
      exact absurd h0 (fail_ne (by decide))
    rw [if_neg g1] at h0 hs ⊢
    simp only at h0 hs ⊢
    generalize hg : gapsN (((r.tk 4).tk 4).num 2) ((((r.tk 4).tk 4).tk 2).tk 2) = G at *
    generalize hd : dupsN ((((r.tk 4).tk 4).tk 2).num 2) G.2 = D at *
    by_cases g2 : D.2.e = 0 ∧ rising G.1 = false
    · rw [if_pos g2] at h0
      exact absurd h0 (fail_ne (by decide))
    rw [if_neg g2] at h0 hs
    have hd0 : (dupsN ((((r.tk 4).tk 4).tk 2).num 2) G.2).2.e = 0 := by
      rw [hd]
      exact h0
    obtain ⟨a0, a1⟩ := dups_split _ _ hd0
    have hg0 : (gapsN (((r.tk 4).tk 4).num 2) ((((r.tk 4).tk 4).tk 2).tk 2)).2.e = 0 := by
      rw [hg]
      exact a0
    obtain ⟨b0, b1⟩ := gaps_split _ _ hg0
    obtain ⟨c0, c1, -⟩ := num2_split b0
    obtain ⟨d0, d1, -⟩ := num2_split c0
    obtain ⟨e0, e1, -⟩ := num4_split d0
    obtain ⟨f0, f1, -⟩ := num4_split e0
    have l1 := gapsN_len (((r.tk 4).tk 4).num 2) ((((r.tk 4).tk 4).tk 2).tk 2)
    have l2 := dupsN_len ((((r.tk 4).tk 4).tk 2).num 2) G.2
    rw [hg] at b1 l1
    rw [hd] at a1 l2
    refine ⟨f0, ?_, trivial, trivial⟩
    unfold Ck.body gapsB
    simp only
    rw [if_neg t0, if_neg t1, if_pos t3, f1, e1, d1, c1, b1, a1, hs, l1, l2]
    simp
  rw [if_neg t3] at h0 hs ⊢
  by_cases tb : isBeat c.typ = true
  · rw [if_pos tb] at h0 hs ⊢
    simp only at h0 hs ⊢
    by_cases g1 : (tkParam r).2.e = 0 ∧ (tkParam r).1.typ ≠ 1
    · rw [if_pos g1] at h0
      exact absurd h0 (fail_ne (by decide))
    rw [if_neg g1] at h0 hs
    obtain ⟨-, p1, p2⟩ := param_split h0
    have hty : (tkParam r).1.typ = 1 := Classical.byContradiction fun x => g1 ⟨h0, x⟩
    refine ⟨p1, ?_, trivial, trivial⟩
    unfold Ck.body
    simp only
    rw [if_neg t0, if_neg t1, if_neg t3, if_pos tb, p2, hs, List.append_nil, ← hty]
  rw [if_neg tb] at h0 hs ⊢
  by_cases te : isErr c.typ = true
  · rw [if_pos te] at h0 hs ⊢
    obtain ⟨h1, h2⟩ := pars_split h0
    refine ⟨h1, ?_, rfl, rfl⟩
    unfold Ck.body
    simp only
    rw [if_neg t0, if_neg t1, if_neg t3, if_neg tb, if_pos te]
    exact h2
  rw [if_neg te] at h0 hs ⊢
  by_cases t7 : c.typ = 7
  · rw [if_pos t7] at h0 hs ⊢
    obtain ⟨a0, a1, -⟩ := num4_split h0
    refine ⟨a0, ?_, rfl, rfl⟩
    unfold Ck.body
    simp only
    rw [if_neg t0, if_neg t1, if_neg t3, if_neg tb, if_neg te, if_pos t7, a1]
    simp only at hs
    rw [hs, List.append_nil]
  rw [if_neg t7] at h0 hs ⊢
  by_cases tc : isConf c.typ = true
  · rw [if_pos tc] at h0 hs ⊢
    obtain ⟨h1, h2⟩ := pars_split h0
    obtain ⟨a0, a1, -⟩ := num4_split h1
    refine ⟨a0, ?_, rfl, rfl⟩
    unfold Ck.body
    simp only
    rw [if_neg t0, if_neg t1, if_neg t3, if_neg tb, if_neg te, if_neg t7, if_pos tc, a1, h2]
  rw [if_neg tc] at h0 hs ⊢
  by_cases tr : isBare c.typ = true
  · rw [if_pos tr] at h0 hs ⊢
    refine ⟨h0, ?_, rfl, rfl⟩
    unfold Ck.body
    simp only
    rw [if_neg t0, if_neg t1, if_neg t3, if_neg tb, if_neg te, if_neg t7, if_neg tc, if_pos tr]
    exact hs
  rw [if_neg tr] at h0 hs ⊢
  by_cases t15 : c.typ = 15
  · rw [if_pos t15] at h0 hs ⊢
    have h1 : ((r.tk 2).tk 2).e = 0 := h0
    obtain ⟨a0, a1, -⟩ := num2_split h1
    obtain ⟨b0, b1, -⟩ := num2_split a0
    refine ⟨b0, ?_, rfl, rfl⟩
    unfold Ck.body
    simp only
    rw [if_neg t0, if_neg t1, if_neg t3, if_neg tb, if_neg te, if_neg t7, if_neg tc, if_neg tr, if_pos t15, rest_ok h1, b1, a1]
    simp
  · rw [if_neg t15] at h0 hs ⊢
    have h1 : r.e = 0 := h0
    refine ⟨h1, ?_, rfl, rfl⟩
    unfold Ck.body
    simp only
    rw [if_neg t0, if_neg t1, if_neg t3, if_neg tb, if_neg te, if_neg t7, if_neg tc, if_neg tr, if_neg t15, rest_ok h1]
theorem chunk_split {r : RS} (he : (tkChunk r).1.e = 0) : (tkChunk r).2.may = true ∧ r.e = 0 ∧ r.s = (tkChunk r).2.put ++ (tkChunk r).1.s := by
  have hT : tkChunk r = tkChunk r := rfl
  conv at hT => rhs; unfold tkChunk
  simp only at hT
  generalize hr3 : ((r.tk 1).tk 1).tk 2 = r3 at *
  generalize hn : ((((r.tk 1).tk 1).num 2 : Nat) : Int) - 4 = n at *
  by_cases c1 : r3.e = 0 ∧ n < 0
  · have e3 : (r3.fail 3).e ≠ 0 := fail_ne (by decide)
    rw [if_pos c1, tk_bad e3, if_pos e3] at hT
    rw [hT] at he
    exact absurd he e3
  rw [if_neg c1] at hT
  by_cases c4 : (r3.tk n).e = 0
  · rw [if_neg (fun x => x c4)] at hT
    by_cases c5 : (r3.tk n).left < (-n) % 4
    · have e5 : ((r3.tk n).fail 2).e ≠ 0 := fail_ne (by decide)
      have e6 : (((r3.tk n).fail 2).fill n).e ≠ 0 := by
        rw [fill_bad e5]
        exact e5
      rw [if_pos c5, if_pos e6] at hT
      rw [hT] at he
      exact absurd he e6
    · rw [if_neg c5] at hT
      by_cases c6 : ((r3.tk n).fill n).e = 0
      · rw [if_neg (fun x => x c6)] at hT
        by_cases c7 : (saysR ⟨r3.got n, 0⟩ { ck0 with typ := (r.num 1 : Nat), flags := ((r.tk 1).num 1 : Nat) }).1.end.e = 0
        · rw [if_neg (fun x => x c7)] at hT
          obtain ⟨-, y1, y2, y3⟩ := says_split c7
          generalize (saysR ⟨r3.got n, 0⟩ { ck0 with typ := (r.num 1 : Nat), flags := ((r.tk 1).num 1 : Nat) }).2 = c at *
          by_cases c8 : c.may = false
          · rw [if_pos c8] at hT
            rw [hT] at he
            exact absurd he (fail_ne (by decide))
          · rw [if_neg c8] at hT
            rw [Bool.not_eq_false] at c8
            obtain ⟨s0, s1, s2, s3⟩ := tk_split c4
            rw [← hr3] at s0
            obtain ⟨t0, t1, -⟩ := num2_split s0
            obtain ⟨u0, u1, u2⟩ := num1_split t0
            obtain ⟨v0, v1, v2⟩ := num1_split u0
            obtain ⟨-, k, hk, w⟩ := fill_split c5 c6
            have hlen : ((r3.got n).length : Int) = n := by omega
            rw [hT]
            refine ⟨c8, v0, ?_⟩
            simp only at y1 y2 y3 ⊢
            unfold Ck.put filled
            rw [if_pos c8, ← y1, y2, y3]
            have h4 : ((r3.got n).length : Int) + 4 = ((((r.tk 1).tk 1).num 2 : Nat) : Int) := by omega
            have hl2 : ([b8 ((r.num 1 : Nat) : Int), b8 (((r.tk 1).num 1 : Nat) : Int)] ++ be2 ((((r.tk 1).tk 1).num 2 : Nat) : Int) ++ r3.got n).length = 4 + (r3.got n).length := by
              simp (dsimp := false) [be2_len]
              omega
            have hpad : padN (4 + (r3.got n).length) = k := by
              unfold padN
              omega
            rw [h4, hl2, hpad, v1, u1, t1, hr3, s3, w]
            simp
        · rw [if_pos c7] at hT
          rw [hT] at he
          exact absurd he (fail_ne c7)
      · rw [if_pos c6] at hT
        rw [hT] at he
        exact absurd he c6
  · rw [if_pos c4] at hT
    rw [hT] at he
    exact absurd he c4
theorem getGo_split : ∀ (k : Nat) (r : RS) (out : List Ck), out.length ≤ 20 → 21 ≤ out.length + k → (getGo k r out).1.e = 0 → ∃ l, (getGo k r out).2 = out ++ l ∧ (∀ c ∈ l, c.may = true) ∧ r.e = 0 ∧ r.s = l.flatMap Ck.put ∧ out.length + l.length ≤ 20
  | 0, r, out, h1, h2, _ => by omega
  | k + 1, r, out, h1, h2, he => by
    unfold getGo at he ⊢
    by_cases c : 0 < r.left
    · rw [if_pos c] at he ⊢
      by_cases c2 : out.length = 20
      · rw [if_pos c2] at he
        exact absurd he (fail_ne (by decide))
      · rw [if_neg c2] at he ⊢
        obtain ⟨l, e1, e2, e3, e4, e5⟩ := getGo_split k _ _ (by simp; omega) (by simp; omega) he
        obtain ⟨p1, p2, p3⟩ := chunk_split e3
        refine ⟨(tkChunk r).2 :: l, by rw [e1]; simp, fun x hx => ?_, p2, ?_, by simp at e5 ⊢; omega⟩
        · rcases List.mem_cons.1 hx with rfl | hx
          · exact p1
          · exact e2 x hx
        · rw [p3, e4]
          simp
    · rw [if_neg c] at he ⊢
      have h0 : r.e = 0 := he
      have hs : r.s = [] := by
        simp (dsimp := false) [RS.left, leftN, h0] at c
        exact c
      exact ⟨[], by simp, by simp, h0, by simp (dsimp := false) [hs], by simpa using h1⟩
theorem put_some {c : Ck} (h : c.may = true) : c.put ≠ [] := by
  intro hc
  have := congrArg List.length hc
  unfold Ck.put at this
  rw [if_pos h, filled_len] at this
  simp (dsimp := false) [be2_len] at this
theorem putGo_some : ∀ (l : List Ck) (s : Bs), (∀ c ∈ l, c.may = true) → s.length + (l.flatMap Ck.put).length ≤ 1400 → putGo s l = some (s ++ l.flatMap Ck.put)
  | [], s, _, _ => by simp (dsimp := false) [putGo]
  | c :: l, s, h, hl => by
    rw [List.flatMap_cons, List.length_append] at hl
    unfold putGo
    rw [if_neg (not_or.2 ⟨put_some (h c (List.mem_cons_self ..)), by omega⟩), putGo_some l _ (fun x hx => h x (List.mem_cons_of_mem _ hx)) (by rw [List.length_append]; omega)]
    simp
theorem seal_like {a b : Bs} (h1 : a.take 8 = b.take 8) (h2 : a.drop 12 = b.drop 12) : sealL a 8 = sealL b 8 := by
  unfold sealL zed
  rw [h1, h2]
/-- What was read was put down so. -/
theorem getP_split {s : Bs} {p : Pk} (h : getP s = (p, 0)) : putP p.f p.t p.tag p.l = s ∧ (∀ c ∈ p.l, c.may = true) ∧ p.l.length ≤ 20 := by
  unfold getP at h
  split at h
  · cases h
  rename_i g1
  split at h
  · cases h
  rename_i g2
  split at h
  · cases h
  rename_i g3
  simp only at h
  split at h
  · rename_i g4
    injection h with _ h
    exact absurd h g4
  rename_i g4
  split at h
  · cases h
  rename_i g5
  injection h with h _
  rw [Decidable.not_not] at g3 g4
  rw [Bool.not_eq_false] at g5
  obtain ⟨l, e1, e2, e3, e4, e5⟩ := getGo_split 21 _ [] (by simp) (by simp) g4
  obtain ⟨a0, -, a1, a2⟩ := tk_split e3
  obtain ⟨b0, b1, -⟩ := num4_split a0
  obtain ⟨c0, c1, -⟩ := num2_split b0
  obtain ⟨-, d1, -⟩ := num2_split c0
  rw [h] at g5
  have ht : togetherP p.f p.t p.tag p.l = true := g5
  rw [e1, List.nil_append] at h
  rw [← h] at ht ⊢
  simp only at ht ⊢
  refine ⟨?_, e2, by simpa using e5⟩
  simp only at d1
  rw [c1, b1, a2, e4] at d1
  unfold putP
  rw [ht, if_neg (by simp)]
  generalize ((((⟨s, 0⟩ : RS).tk 2).tk 2).tk 4).got 4 = y at *
  generalize (⟨s, 0⟩ : RS).num 2 = F at *
  generalize ((⟨s, 0⟩ : RS).tk 2).num 2 = T at *
  generalize (((⟨s, 0⟩ : RS).tk 2).tk 2).num 4 = G at *
  have hy : y.length = 4 := a1
  have hsl : s.length = 12 + (l.flatMap Ck.put).length := by
    rw [d1]
    simp (dsimp := false) [be2_len, be4_len, hy]
    omega
  have hh : (headB (F : Int) (T : Int) (G : Int)).length = 12 := rfl
  rw [putGo_some l _ e2 (by omega)]
  simp only
  have hl : sealL (headB (F : Int) (T : Int) (G : Int) ++ l.flatMap Ck.put) 8 = sealL s 8 := by
    apply seal_like
    · rw [d1]
      rfl
    · rw [List.drop_left' hh, d1]
      match y, hy with
      | [y1, y2, y3, y4], _ => rfl
  rw [hl, g3]
theorem getP_bad {s : Bs} {p : Pk} {e : Int} (h : getP s = (p, e)) (he : e ≠ 0) : p = pk0 := by
  unfold getP at h
  simp only at h
  repeat' split at h
  all_goals
    injection h with h1 h2
    first
      | exact h1.symm
      | exact absurd h2.symm he
theorem may_small {c : Ck} (h : c.may = true) : CkSmall c := by
  unfold Ck.may Ck.lists rising at h
  simp only [Bool.and_eq_true, decide_eq_true_eq] at h
  obtain ⟨⟨⟨⟨⟨-, ⟨⟨-, p3⟩, p4⟩⟩, ⟨⟨⟨-, w5⟩, w6⟩, w7⟩⟩, -⟩, -⟩, -⟩ := h
  exact ⟨by omega, by omega, by omega, by omega, by omega⟩
/-- What a reading hands back is small. -/
theorem getP_small (s : Bs) : ∀ c ∈ (getP s).1.l, CkSmall c := by
  intro c hc
  by_cases he : (getP s).2 = 0
  · exact may_small ((getP_split (s := s) (p := (getP s).1) (Prod.ext rfl he)).2.1 c hc)
  · rw [getP_bad (s := s) (p := (getP s).1) rfl he] at hc
    simp (dsimp := false) [pk0] at hc
theorem getP_few (s : Bs) : (getP s).1.l.length ≤ 20 := by
  by_cases he : (getP s).2 = 0
  · exact (getP_split (s := s) (p := (getP s).1) (Prod.ext rfl he)).2.2
  · rw [getP_bad (s := s) (p := (getP s).1) rfl he]
    simp (dsimp := false) [pk0]
end Go.Proofs.YtklbbjfbcibghaaGreat
end
section
namespace Go.Proofs.YtklbbjfbcibghaaGreat
open Go.Hl
set_option maxHeartbeats 8000000
variable {C : CallT} {h : H} {l l' l2 m : List Blk} {es es2 : List (Nat × Nat)} {bb bt : Nat} {o most : Int} {L : List En} {lb lb' lb2 : Option Nat}
/-- A call that changed nothing of what was there is over. -/
theorem box_same {M : List Blk} {what a b : Int} {s : Bs} {v : V} (hB : BoxIs l bb bt o most L lb) : BoxPost l es bb bt o most lb what a b s L (.tup [.int .i64 what, .agg [.int .u32 a, .int .u32 b, .str s]], leave ⟨l, es⟩ ⟨l ++ M, es2⟩ v) := by
  obtain ⟨l3, es3, h1, h2, h3, h4⟩ := leave_box (es := es) (es2 := es2) (v := v) (lt_of_some hB.box) hB.tab.lt (hB.app M) Kept.app (fun c hc => .inl (hB.tab.llt hc))
  rw [h1]
  exact ⟨l3, es3, lb, rfl, h2, h3, h4⟩
def hasC (l : List Ck) (ty : Int) : Bool := l.any fun c => decide (c.typ = ty)
theorem hasE_map {ty : Int} : ∀ k : List El, hasE k ty = hasC (k.map El.c) ty
  | [] => rfl
  | e :: k => by
    unfold hasE hasC
    rw [List.map_cons, List.any_cons, hasE_map k]
    by_cases h : e.c.typ = ty
    · simp (dsimp := false) [h]
    · simp (dsimp := false) [h, hasC]
theorem said_small {typ f why : Int} {s : Bs} : CkSmall (saidC typ f why s) := ⟨by simp (dsimp := false) [saidC, ck0], by simp (dsimp := false) [saidC], by simp (dsimp := false) [saidC, ck0], by simp (dsimp := false) [saidC, ck0], by simp (dsimp := false) [saidC, ck0]⟩
set_option maxRecDepth 100000 in
/-- Of a packet without an entry an error is said. -/
theorem natbox_Out_answer {a b now : Int} {s r : Bs} {p : Pk} {c : Ck} {cl : List Ck} (hB : BoxIs l bb bt o most L lb) (hl : L.length ≤ 100000) (hs : s.length ≤ 2000) (hG : getP s = (p, 0)) (hc : p.l = c :: cl) (ht : c.typ ≠ 1) (h193 : hasC p.l 193 = false) (h6 : hasC p.l 6 = false) (h14 : hasC p.l 14 = false)
    (ho : outN L ⟨a, p.f, b, p.t, p.tag, p.tag, now⟩ (mirroredP p.l) < 0) (hr : putP p.t p.f p.tag [saidC 9 3 177 s] = r) (hr0 : r ≠ []) :
    Ok (Does Tryz.prog C 9 [.ptr bb 0 0 2, .agg [.int .u32 a, .int .u32 b, .str s], .int .i64 now] ⟨l, es⟩) (BoxPost l es bb bt o most lb 2 b a r L) := by
  have hbb := lt_of_some hB.box
  have hbt := hB.tab.lt
  obtain ⟨⟨z1, z2⟩, hz, u, hu, ⟨m5, es5, he5, hes5⟩, w, l3, hw, hl3, hlc⟩ := packet_Get (C := C) (h := ⟨l ++ [⟨[.int .u32 a, .int .u32 b, .str s], 0, 0, false⟩, ⟨[.int .u32 0, .int .u32 0, .str []], 0, 0, false⟩], []⟩) s (by omega)
  have hfew := getP_few s
  rw [hG] at hu hw hlc hfew
  simp only at hu he5 hl3 hfew
  subst hu he5 hw
  rw [← hlc] at hfew h193 h6 h14
  rw [← hasE_map] at h193 h6 h14
  have hl3n : l3.length ≤ 20 := by simpa using hfew
  have hS := fun m => CksIs.app (es' := es5) hl3 m
  have hM := fun m => packet_Mirrored (C := C) (f := p.f) (t := p.t) (tag := p.tag) (hS m)
  rw [hlc] at hM
  have hF := fun m ty => packet_First (C := C) (f := p.f) (t := p.t) (tag := p.tag) (ty := ty) (hS m) (by omega)
  have hEn := fun m => natbox_ends (C := C) (f := p.f) (t := p.t) (tag := p.tag) (hS m) (by omega)
  have hEt := fun m => natbox_entry (C := C) (a := a) (b := b) (f := p.f) (t := p.t) (tag := p.tag) (now := now) (s := s) (hS m)
  have c193 : CkIs _ (firstE l3 193).c _ _ _ _ := firstE_ok (ty := 193) hl3.el
  have f193 := (CkIs.app (es' := es5) c193 [default]).facts
  have f193' := (CkIs.app (es' := es5) c193 [default, default]).facts
  rw [hc] at hlc
  obtain ⟨e0, k, rfl⟩ : ∃ e0 k, l3 = e0 :: k := by
    cases l3 with
    | nil => simp at hlc
    | cons e0 k => exact ⟨e0, k, rfl⟩
  simp only [List.map_cons, List.cons.injEq] at hlc
  obtain ⟨rfl, -⟩ := hlc
  have hf := hl3.sl.facts
  obtain ⟨q, qf, hia, -, hfa, hrf⟩ := (hS [⟨[.int .i64 p.f, .int .i64 p.t, .int .u32 p.tag, w], 0, 0, false⟩]).sl.atF El.cells_len
  have hia := hia 0 (by simp)
  have hfa := hfa 0 (by simp)
  have hr0' := hrf 0 (by simp) 0 (by decide) _ (Ext.refl _)
  simp only [List.getElem_cons_zero, El.cells, Ck.cells] at hr0'
  have hb := fun m => at_old (m := m) hB.box
  have hO := fun m => nattab_Outward (C := C) (es := es5) (e := ⟨a, p.f, b, p.t, p.tag, p.tag, now⟩) (b := mirroredP p.l) (hB.tab.app m) (by omega)
  have hog := eq_false (show ¬ 0 ≤ outN L ⟨a, p.f, b, p.t, p.tag, p.tag, now⟩ (mirroredP p.l) by omega)
  generalize outN L ⟨a, p.f, b, p.t, p.tag, p.tag, now⟩ (mirroredP p.l) = on at *
  simp only [El.cells, Ck.cells, h193, h6, h14, Bool.or_false] at hF hEn
  unfold En.cells at hEt hO
  have hSd := fun h => natbox_said (C := C) (h := h) (typ := 9) (f := 1) (why := 177) (s := s) (.inr rfl) hs
  have hAn := natbox_answer (C := C) (c := saidC 9 3 177 s) (vp := .nils) (vc := .sl (l.length + (m5.length + 3 + 1 + 1) + 1) 0 1 0 2 false) (vg := .nils) (vd := .nils) (a := a) (b := b) (f := p.f) (t := p.t) (tag' := p.tag) (tag := p.tag) (s := s) (w := w)
    (h := ⟨l ++ (⟨[.int .u32 a, .int .u32 b, .str s], 0, 0, false⟩ :: ⟨[.int .u32 0, .int .u32 0, .str []], 0, 0, false⟩ :: (m5 ++ [⟨[.int .i64 p.f, .int .i64 p.t, .int .u32 p.tag, w], 0, 0, false⟩, ⟨(firstE (e0 :: k) 193).cells, 0, 0, false⟩, ⟨(⟨a, p.f, b, p.t, p.tag, p.tag, now⟩ : En).cells, 0, 0, false⟩, ⟨(saidC 9 3 177 s).cells .nils (.sl (l.length + (m5.length + 3 + 1 + 1) + 1) 0 1 0 2 false) .nils .nils, 0, 0, false⟩, ⟨[.int .i64 177, .str (s.take 40)], 0, 0, false⟩])), es5 ++ [(l.length + (m5.length + 3 + 1 + 1), l.length + (m5.length + 3 + 1 + 1) + 1)]⟩)
    ⟨Sl.nil _ 2, .inr ⟨_, _, _, _, ⟨[.int .i64 177, .str (s.take 40)], 0, 0, false⟩, rfl, by
      rw [show l.length + (m5.length + 3 + 1 + 1) + 1 = l.length + ((m5.length + 4) + 1 + 1) by omega]
      simp, Nat.le_refl 0, Nat.le_refl 0, by simp (dsimp := false) [saidC, Pm.cells], by simp (dsimp := false) [saidC, Pm.cells]⟩, Sl.nil _ 2, Sl.nil _ 1⟩ said_small (by
      have := CksIs.app (es' := es5 ++ [(l.length + (m5.length + 3 + 1 + 1), l.length + (m5.length + 3 + 1 + 1) + 1)]) hl3 [⟨[.int .i64 p.f, .int .i64 p.t, .int .u32 p.tag, w], 0, 0, false⟩, ⟨(firstE (e0 :: k) 193).cells, 0, 0, false⟩, ⟨(⟨a, p.f, b, p.t, p.tag, p.tag, now⟩ : En).cells, 0, 0, false⟩, ⟨(saidC 9 3 177 s).cells .nils (.sl (l.length + (m5.length + 3 + 1 + 1) + 1) 0 1 0 2 false) .nils .nils, 0, 0, false⟩, ⟨[.int .i64 177, .str (s.take 40)], 0, 0, false⟩]
      simpa using this)
  rw [hr, if_neg hr0] at hAn
  simp only [show ((1 : Nat) : Int) = 1 from rfl, show ((1 + 2 : Nat) : Int) = 3 from rfl] at hSd
  simp (dsimp := false) [saidC, ck0, Ck.cells, El.cells, En.cells] at hAn hSd
  simp at hz hf f193 f193' hia hr0' hM hF hEn hEt
  refine Does_wp (n := 122) (rs := [.tmp 6, .cell 7 37]) Tryz.func9 (by kernel_rfl) rfl rfl rfl (by simp) fun σ hg => ?_
  simp (dsimp := false) [hg, hz, hf, hia, hfa, hr0', ht, hF, f193, f193', h193, hEt, splice]
  refine (W_anyF (F := [(3, 5)]) (by kernel_rfl)).2 ?_
  simp (dsimp := false) [hg, splice]
  refine (W_anyF (F := [(3, 6), (4, 6)]) (by kernel_rfl)).2 ?_
  simp (dsimp := false) [hg, hb, hf, hM, hO, hog, hEn]
  refine (W_anyF (F := [(0, 6), (1, 6), (3, 6)]) (by kernel_rfl)).2 ?_
  simp (dsimp := false) [hg, hb, hf, hSd, hAn, splice]
  exact box_same hB
end Go.Proofs.YtklbbjfbcibghaaGreat
end
