import Derived.Test.YtbncfiijlnakkaaHlMem
/-! Hl: a block that grows, where it lies or in a new true block. -/
namespace Go.Hl
open Go.RowKit

theorem agree_grow {ι : Map} {h h' : H} {b ver : Nat} {us : List V} (hw : h.grow b ver us = some h') (L : Loc) : Agree ι h (ι.set b (ver + 1) L) h' := by
  obtain ⟨k, hk, hro, rfl, hok, hblks, -⟩ := H.grow_some hw
  intro i ki hki
  by_cases hib : i = b
  · subst hib
    rw [hk] at hki
    injection hki with hki
    subst hki
    refine ⟨⟨{ k with cells := k.cells ++ us, gen := k.gen + 1 }, by rw [hblks]; exact (set_get _ hk).2 (.inl ⟨rfl, rfl⟩), Nat.le_succ _, rfl⟩, fun g hg => Map.set_ne ι L (.inr (by omega))⟩
  · exact ⟨⟨ki, by rw [hblks]; exact (set_get _ hk).2 (.inr ⟨hib, hki⟩), Nat.le_refl _, rfl⟩, fun g _ => Map.set_ne ι L (.inl hib)⟩

/-- What a growth leaves, wherever its cells lie now: L. -/
theorem grow_rel {ι : Map} {base : Nat} {h h' : H} {w w' : World} (hr : Rel ι base h w) {b ver : Nat} {us : List V} (hw : h.grow b ver us = some h') (L : Loc)
    (hsz : w.heap.size ≤ w'.heap.size) (hLlt : L.blk < w'.heap.size) (hLbase : base ≤ L.blk)
    (hLn : ∀ k, h.blks[b]? = some k → L.n = k.cells.length + us.length ∧ L.lo ≤ L.n ∧ L.n ≤ L.cend ∧
      (∀ g, g ≤ k.gen → (ι b g).blk = L.blk → (ι b g).r = L.r ∧ (ι b g).lo = L.lo))
    (hLne : ∀ i k, h.blks[i]? = some k → i ≠ b → ∀ g, g ≤ k.gen → (ι i g).blk ≠ L.blk)
    (hoth : ∀ i, i < w.heap.size → i ≠ L.blk → w'.heap[i]? = w.heap[i]?)
    (hold : ∀ k, h.blks[b]? = some k → ∀ g, k.valid ≤ g → g ≤ k.gen → (ι b g).blk = L.blk → CellsAt ι h w' k.ro (ι b g) k.cells)
    (hnew : ∀ k, h.blks[b]? = some k → CellsAt ι h w' false L (k.cells ++ us)) (hus : V.unders h.size us = true) :
    Rel (ι.set b (ver + 1) L) base h' w' := by
  have ha : Agree ι h (ι.set b (ver + 1) L) h' := agree_grow hw L
  obtain ⟨k, hk, hro, rfl, hok, hblks, -⟩ := H.grow_some hw
  have hb := hr.blk b k hk
  obtain ⟨hn, hlo, hce, hco⟩ := hLn k hk
  have hiι : ∀ i g, i ≠ b ∨ g ≤ k.gen → (ι.set b (k.gen + 1) L) i g = ι i g := fun i g hh => Map.set_ne ι L (hh.imp id (fun z => by omega))
  have hself : (ι.set b (k.gen + 1) L) b (k.gen + 1) = L := Map.set_self ι _ _ L
  have lift : ∀ {ro : Bool} {l : Loc} {cs cs' : List V}, CellsAt ι h w' ro l cs → (∀ j, j < l.n → ∀ u : V, cs[j]? = some u → cs'[j]? = some u) → CellsAt (ι.set b (k.gen + 1) L) h' w' ro l cs' := fun {ro l cs cs'} hc hs => by
    obtain ⟨c, e, fz, h1, h2, h3⟩ := hc
    refine ⟨c, e, fz, h1, h2, fun j hj1 hj2 => ?_⟩
    obtain ⟨u, v, a1, a2, a3⟩ := h3 j hj1 hj2
    exact ⟨u, v, hs j hj2 u a1, a2, a3.step ha⟩
  have move : ∀ {i : Nat} {ki : Blk} {g : Nat}, h.blks[i]? = some ki → ki.valid ≤ g → g ≤ ki.gen → (ι i g).blk ≠ L.blk → CellsAt ι h w' ki.ro (ι i g) ki.cells := fun {i ki g} hki h1 h2 hne => by
    obtain ⟨c, e, fz, a1, a2, a3⟩ := (hr.blk i ki hki).cells g h1 h2
    exact ⟨c, e, fz, (hoth _ ((hr.blk i ki hki).lt g h2) hne).trans a1, a2, a3⟩
  have hpre : ∀ g, g ≤ k.gen → (ι b g).n ≤ k.cells.length := fun g hg => hb.top ▸ (hb.chain g k.gen hg (Nat.le_refl _)).1
  refine ⟨fun i ki hki => ?_, fun i i' ki ki' hki hki' hne hro1 hro2 g g' hg hg' => ?_, Nat.le_trans hr.base hsz, fun i ki hki u hu => ?_⟩
  · rw [hblks] at hki
    rcases (set_get _ hk).1 hki with ⟨hib, hkk⟩ | ⟨hib, hki⟩
    · subst hib hkk
      have gcase : ∀ {g}, g ≤ k.gen + 1 → g ≤ k.gen ∨ g = k.gen + 1 := fun {g} hg => by omega
      refine ⟨by simp only [hself, hn, List.length_append], Nat.le_succ_of_le hb.val, fun g hg => ?_, fun g hg => ?_, fun g g' hgg hg' => ?_, fun g hg => ?_, fun g hg1 hg2 => ?_⟩
      · rcases gcase hg with hg | rfl
        · rw [hiι _ _ (.inr hg)]
          exact Nat.lt_of_lt_of_le (hb.lt g hg) hsz
        · rw [hself]
          exact hLlt
      · rcases gcase hg with hg | rfl
        · rw [hiι _ _ (.inr hg)]
          exact hb.side g hg
        · rw [hself]
          simp only [hro]
          exact ⟨fun z => by simp at z, fun _ => hLbase⟩
      · rcases gcase hg' with hg' | rfl
        · rw [hiι _ _ (.inr hg'), hiι _ _ (.inr (Nat.le_trans hgg hg'))]
          exact hb.chain g g' hgg hg'
        · rw [hself]
          rcases gcase hgg with hg | rfl
          · rw [hiι _ _ (.inr hg)]
            exact ⟨by have := hpre g hg; omega, hco g hg⟩
          · rw [hself]
            exact ⟨Nat.le_refl _, fun _ => ⟨rfl, rfl⟩⟩
      · rcases gcase hg with hg | rfl
        · rw [hiι _ _ (.inr hg)]
          exact hb.ends g hg
        · rw [hself]
          exact ⟨hlo, fun _ => hce⟩
      · simp only at hg1 hg2 ⊢
        rcases gcase hg2 with hg | rfl
        · rw [hiι _ _ (.inr hg)]
          have hc : CellsAt ι h w' k.ro (ι i g) k.cells := by
            by_cases he : (ι i g).blk = L.blk
            · exact hold k hk g hg1 hg he
            · exact move hk hg1 hg he
          refine lift hc fun j hj u hu => ?_
          rw [List.getElem?_append_left (by have := hpre g hg; omega)]
          exact hu
        · rw [hself, hro]
          exact lift (hnew k hk) fun _ _ _ hu => hu
    · have hbi := hr.blk i ki hki
      have e : ∀ g, (ι.set b (k.gen + 1) L) i g = ι i g := fun g => hiι i g (.inl hib)
      refine ⟨by rw [e]; exact hbi.top, hbi.val, fun g hg => by rw [e]; exact Nat.lt_of_lt_of_le (hbi.lt g hg) hsz, fun g hg => by rw [e]; exact hbi.side g hg, fun g g' h1 h2 => by rw [e, e]; exact hbi.chain g g' h1 h2, fun g hg => by rw [e]; exact hbi.ends g hg, fun g hg1 hg2 => ?_⟩
      rw [e]
      exact lift (move hki hg1 hg2 (hLne i ki hki hib g hg2)) fun _ _ _ hu => hu
  · rw [hblks] at hki hki'
    have one : ∀ {j : Nat} {kj : Blk} {g : Nat}, h.blks[j]? = some kj → j ≠ b → g ≤ kj.gen → kj.ro = false → ∀ g', g' ≤ k.gen + 1 → (ι j g).blk ≠ ((ι.set b (k.gen + 1) L) b g').blk := fun {j kj g} hj hjb hg hjr g' hg' => by
      by_cases h1 : g' ≤ k.gen
      · rw [hiι _ _ (.inr h1)]
        exact hr.disj j b kj k hj hk hjb hjr hro g g' hg h1
      · obtain rfl : g' = k.gen + 1 := by omega
        rw [hself]
        exact hLne j kj hj hjb g hg
    rcases (set_get _ hk).1 hki with ⟨h1, h2⟩ | ⟨hib, hx⟩ <;> rcases (set_get _ hk).1 hki' with ⟨h3, h4⟩ | ⟨hib', hx'⟩
    · exact absurd (h1.trans h3.symm) hne
    · subst h1 h2
      rw [hiι i' g' (.inl hib')]
      exact (one hx' hib' hg' hro2 g hg).symm
    · subst h3 h4
      rw [hiι i g (.inl hib)]
      exact one hx hib hg hro1 g' hg'
    · rw [hiι i g (.inl hib), hiι i' g' (.inl hib')]
      exact hr.disj i i' ki ki' hx hx' hne hro1 hro2 g g' hg hg'
  · have hs : h'.size = h.size := by simp [H.size, hblks]
    rw [hs]
    rw [hblks] at hki
    rcases (set_get _ hk).1 hki with ⟨hib, hki'⟩ | ⟨hib, hki⟩
    · subst hib hki'
      simp only [List.mem_append] at hu
      rcases hu with hu | hu
      · exact hr.wf _ k hk u hu
      · exact unders_mem hus u hu
    · exact hr.wf i ki hki u hu

/-- There is room where it lies. -/
theorem grow_here {ι : Map} {base : Nat} {h h' : H} {w : World} (P : Program) (hr : Rel ι base h w) {b ver : Nat} {us : List V} {vs : List Value} (hw : h.grow b ver us = some h') (hvs : RelVs ι h us vs)
    {k : Blk} (hk : h.blks[b]? = some k) (hroom : k.cells.length + us.length ≤ (ι b ver).cend) :
    (storeCells ⟨(ι b ver).blk, (ι b ver).r + (k.cells.length - (ι b ver).lo), none⟩ vs).run P w = .ok () (w.setCells (ι b ver).blk ((ι b ver).r + (k.cells.length - (ι b ver).lo)) vs) ∧
    Rel (ι.set b (ver + 1) { ι b ver with n := k.cells.length + us.length }) base h' (w.setCells (ι b ver).blk ((ι b ver).r + (k.cells.length - (ι b ver).lo)) vs) ∧
    Below base w (w.setCells (ι b ver).blk ((ι b ver).r + (k.cells.length - (ι b ver).lo)) vs) := by
  obtain ⟨k', hk', hro, hver, hok, hblks, -⟩ := H.grow_some hw
  rw [hk] at hk'
  injection hk' with hk'
  subst hk'
  subst hver
  have hb := hr.blk b k hk
  have htop := hb.top
  have hends := hb.ends k.gen (Nat.le_refl _)
  have hside := (hb.side k.gen (Nat.le_refl _)).2 hro
  have hlt := hb.lt k.gen (Nat.le_refl _)
  obtain ⟨c, e, fz, hc, hf, hj⟩ := hb.cells k.gen hb.val (Nat.le_refl _)
  obtain ⟨hfz, hrm⟩ := hf hro
  have hvl := hvs.length
  have hchain := fun g hg => hb.chain g k.gen hg (Nat.le_refl _)
  have hdisj : ∀ i ki, h.blks[i]? = some ki → i ≠ b → ∀ g, g ≤ ki.gen → (ι i g).blk ≠ (ι b k.gen).blk := fun i ki hki hib g hg => by
    cases hri : ki.ro with
    | true =>
      have := ((hr.blk i ki hki).side g hg).1 hri
      omega
    | false => exact hr.disj i b ki k hki hk hib hri hro g k.gen hg (Nat.le_refl _)
  have hcells := hb.cells
  generalize hL : ι b k.gen = L at *
  have hlo := hends.1
  have hfit : L.r + (k.cells.length - L.lo) + vs.length ≤ c.size := by omega
  obtain ⟨⟨c', hc1, hc2, hc3⟩, hoth, hsz⟩ := setCells_heap L.blk vs (L.r + (k.cells.length - L.lo)) w c e fz hc hfit
  refine ⟨store_run hc hfz hfit (cellOks_one hvs hok), grow_rel hr hw _ (by rw [hsz]; exact Nat.le_refl _) (by rw [hsz]; exact hlt) hside (fun ki hki => ?_) hdisj (fun i _ hne => hoth i hne) (fun ki hki g hg1 hg2 he => ?_) (fun ki hki => ?_) hvs.unders, below_setCells _ _ hside _ _ _⟩
  · rw [hk] at hki
    injection hki with hki
    subst hki
    exact ⟨rfl, by simp only; omega, by simp only; omega, fun g hg he => (hchain g hg).2 he⟩
  · rw [hk] at hki
    injection hki with hki
    subst hki
    simp only at he
    obtain ⟨a1, a2⟩ := (hchain g hg2).2 he
    have hng := (hchain g hg2).1
    obtain ⟨cg, eg, fg, b1, b2, b3⟩ := hcells g hg1 hg2
    rw [he, hc] at b1
    injection b1 with b1
    injection b1 with b1 b1' b1''
    subst b1 b1' b1''
    refine ⟨c', e, fz, by rw [he]; exact hc1, fun z => by rw [hc2]; exact b2 z, fun j hj1 hj2 => ?_⟩
    obtain ⟨u, v, d1, d2, d3⟩ := b3 j hj1 hj2
    refine ⟨u, v, d1, ?_, d3⟩
    rw [hc3, if_neg (by omega)]
    exact d2
  · rw [hk] at hki
    injection hki with hki
    subst hki
    refine ⟨c', e, fz, hc1, fun _ => ⟨by rw [hc2]; exact hfz, by rw [hc2]; exact hrm⟩, fun j hj1 hj2 => ?_⟩
    simp only at hj1 hj2 ⊢
    rw [hc3]
    by_cases hjn : j < k.cells.length
    · rw [if_neg (by omega), List.getElem?_append_left hjn]
      exact hj j hj1 (by omega)
    · rw [if_pos (by omega), List.getElem?_append_right (by omega)]
      have hlt' : j - k.cells.length < us.length := by omega
      obtain ⟨v, hv, hrv⟩ := hvs.get (List.getElem?_eq_getElem hlt')
      exact ⟨_, v, List.getElem?_eq_getElem hlt', by rw [show L.r + (j - L.lo) - (L.r + (k.cells.length - L.lo)) = j - k.cells.length by omega]; exact hv, hrv⟩

/-- It moves into a new block. -/
theorem grow_away {ι : Map} {base : Nat} {h h' : H} {w w' : World} (hr : Rel ι base h w) {b ver off cend : Nat} {us : List V} (hw : h.grow b ver us = some h')
    {k : Blk} (hk : h.blks[b]? = some k) (hoff : off ≤ k.cells.length) {C : Array Value} {e : TypeId}
    (hw' : w'.heap = w.heap.push (.cells C e (0, 0))) (hC : RelVs ι h (k.cells.drop off ++ us) (C.toList.take (k.cells.length - off + us.length)))
    (hcend : k.cells.length + us.length ≤ cend) (hroom : cend - off ≤ C.size) :
    Rel (ι.set b (ver + 1) ⟨w.heap.size, 0, off, k.cells.length + us.length, cend⟩) base h' w' := by
  have hold : ∀ i, i < w.heap.size → w'.heap[i]? = w.heap[i]? := fun i hi => by rw [hw', Array.getElem?_push_lt hi]; simp [hi]
  refine grow_rel hr hw _ (by rw [hw']; simp) (by rw [hw']; simp) hr.base (fun ki hki => ?_) (fun i ki hki _ g hg => Nat.ne_of_lt ((hr.blk i ki hki).lt g hg)) (fun i hi _ => hold i hi) (fun ki hki g _ hg he => ?_) (fun ki hki => ?_) (unders_append.1 hC.unders).2
  · rw [hk] at hki
    injection hki with hki
    subst hki
    refine ⟨rfl, by simp only; omega, hcend, fun g hg he => ?_⟩
    have := (hr.blk b k hk).lt g hg
    simp only at he
    omega
  · have := (hr.blk b ki hki).lt g hg
    simp only at he
    omega
  · rw [hk] at hki
    injection hki with hki
    subst hki
    refine ⟨C, e, (0, 0), by rw [hw']; simp, fun _ => ⟨fun i _ => by simp, by simpa using hroom⟩, fun j hj1 hj2 => ?_⟩
    simp only [Nat.zero_add] at hj1 hj2 ⊢
    have hlt : j - off < (k.cells.drop off ++ us).length := by simp; omega
    obtain ⟨v, hv, hrv⟩ := hC.get (List.getElem?_eq_getElem hlt)
    rw [List.getElem?_take, if_pos (by omega)] at hv
    refine ⟨_, v, ?_, by simpa using hv, hrv⟩
    rw [← List.getElem?_eq_getElem hlt]
    by_cases hjn : j < k.cells.length
    · rw [List.getElem?_append_left hjn, List.getElem?_append_left (by simp; omega), List.getElem?_drop, show off + (j - off) = j by omega]
    · rw [List.getElem?_append_right (by omega), List.getElem?_append_right (by simp; omega)]
      simp only [List.length_drop]
      rw [show j - off - (k.cells.length - off) = j - k.cells.length by omega]

end Go.Hl
