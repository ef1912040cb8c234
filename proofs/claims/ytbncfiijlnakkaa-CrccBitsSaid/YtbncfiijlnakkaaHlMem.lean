import Derived.Test.YtbncfiijlnakkaaHlRel
import Derived.Laws.IdiomCopy
/-! Hl: its memory and the true one: a read, a new block, a write, a growth. -/
namespace Go.Hl
open Go.RowKit

theorem Rel.heap {ι : Map} {base : Nat} {h : H} {w w' : World} (hr : Rel ι base h w) (he : w'.heap = w.heap) : Rel ι base h w' := by
  refine ⟨fun b k hk => ?_, hr.disj, he ▸ hr.base, hr.wf⟩
  obtain ⟨h1, h2, h3, h4, h5, h6, h7⟩ := hr.blk b k hk
  refine ⟨h1, h2, he ▸ h3, h4, h5, h6, fun g hg hg' => ?_⟩
  obtain ⟨c, e, fz, hc, r⟩ := h7 g hg hg'
  exact ⟨c, e, fz, he ▸ hc, r⟩

theorem Agree.esc {ι : Map} {h : H} (es : List (Nat × Nat)) : Agree ι h ι { h with esc := es } := fun _ k hk => ⟨⟨k, hk, Nat.le_refl _, rfl⟩, fun _ _ => rfl⟩
theorem Agree.esc' {ι : Map} {h : H} (es : List (Nat × Nat)) : Agree ι { h with esc := es } ι h := fun _ k hk => ⟨⟨k, hk, Nat.le_refl _, rfl⟩, fun _ _ => rfl⟩

/-- The memory's blocks alone count. -/
theorem Rel.blks {ι : Map} {base : Nat} {h h' : H} {w : World} (hr : Rel ι base h w) (he : h'.blks = h.blks) : Rel ι base h' w := by
  have ha : Agree ι h ι h' := fun b k hk => ⟨⟨k, he ▸ hk, Nat.le_refl _, rfl⟩, fun _ _ => rfl⟩
  refine ⟨fun b k hk => ?_, fun b b' k k' hk hk' => hr.disj b b' k k' (he ▸ hk) (he ▸ hk'), hr.base, fun b k hk u hu => ?_⟩
  rotate_left
  · have := hr.wf b k (he ▸ hk) u hu
    simpa [H.size, he] using this
  obtain ⟨h1, h2, h3, h4, h5, h6, h7⟩ := hr.blk b k (he ▸ hk)
  refine ⟨h1, h2, h3, h4, h5, h6, fun g hg hg' => ?_⟩
  obtain ⟨c, e, fz, hc, r, hj⟩ := h7 g hg hg'
  refine ⟨c, e, fz, hc, r, fun j h1 h2 => ?_⟩
  obtain ⟨u, v, a1, a2, a3⟩ := hj j h1 h2
  exact ⟨u, v, a1, a2, a3.step ha⟩

theorem cell_of {w : World} {b : Nat} {c : Array Value} {e : TypeId} {fz : Nat × Nat} (h : w.heap[b]? = some (.cells c e fz)) (i : Nat) : w.cell? ⟨b, i, none⟩ = c[i]? := by
  simp [World.cell?, h]

/-- A read. -/
theorem read_ok {ι : Map} {base : Nat} {h : H} {w : World} (hr : Rel ι base h w) {b off ver n : Nat} {l : List V} (hl : h.read b off ver n = some l)
    (ho : okRef h b ver) (h1 : (ι b ver).lo ≤ off) (h2 : off + n ≤ (ι b ver).n) :
    ∃ vs : List Value, RelVs ι h l vs ∧ vs.length = n ∧ ∀ i, i < n → w.cell? ⟨(ι b ver).blk, (ι b ver).r + (off - (ι b ver).lo) + i, none⟩ = vs[i]? := by
  obtain ⟨k, hk, hg⟩ := ho
  unfold H.read at hl
  rw [hk] at hl
  simp only at hl
  split at hl
  · rename_i hv
    injection hl with hl
    have hb := hr.blk b k hk
    obtain ⟨c, e, fz, hc, -, hj⟩ := hb.cells ver hv.1 hg
    have hn : (ι b ver).n ≤ k.cells.length := hb.top ▸ (hb.chain ver k.gen hg (Nat.le_refl _)).1
    have hall : ∀ i, i < n → ∃ u v, k.cells[off + i]? = some u ∧ c[(ι b ver).r + (off - (ι b ver).lo) + i]? = some v ∧ RelV ι h u v := fun i hi => by
      obtain ⟨u, v, a1, a2, a3⟩ := hj (off + i) (by omega) (by omega)
      exact ⟨u, v, a1, by rw [show (ι b ver).r + (off - (ι b ver).lo) + i = (ι b ver).r + (off + i - (ι b ver).lo) by omega]; exact a2, a3⟩
    have hlen : l.length = n := by rw [← hl]; simp; omega
    refine ⟨(List.range n).map fun i => (c[(ι b ver).r + (off - (ι b ver).lo) + i]?).getD default, ?_, by simp, fun i hi => ?_⟩
    · refine RelVs.of_get (by simp [hlen]) fun i u v hu hv => ?_
      have hi : i < n := by
        have := (List.getElem?_eq_some_iff.1 hu).1
        omega
      obtain ⟨u', v', a1, a2, a3⟩ := hall i hi
      rw [← hl, List.getElem?_take, if_pos hi, List.getElem?_drop, a1] at hu
      injection hu with hu
      simp [hi, a2] at hv
      rw [← hu, ← hv]
      exact a3
    · obtain ⟨u', v', a1, a2, a3⟩ := hall i hi
      rw [cell_of hc]
      simp [hi, a2]
  · cases hl

def Map.set (ι : Map) (b g : Nat) (l : Loc) : Map := fun b' g' => if b' = b ∧ g' = g then l else ι b' g'
theorem Map.set_self (ι : Map) (b g : Nat) (l : Loc) : ι.set b g l b g = l := by simp [Map.set]
theorem Map.set_ne (ι : Map) {b g b' g' : Nat} (l : Loc) (h : b' ≠ b ∨ g' ≠ g) : ι.set b g l b' g' = ι b' g' := by
  unfold Map.set
  rw [if_neg]
  rintro ⟨rfl, rfl⟩
  rcases h with h | h <;> exact h rfl

theorem H.new_get (h : H) (cells : List V) {b : Nat} {k : Blk} : (h.new cells).blks[b]? = some k ↔ h.blks[b]? = some k ∨ (b = h.size ∧ k = { cells, gen := 0, valid := 0, ro := false }) := by
  unfold H.new H.size
  simp only
  rcases Nat.lt_trichotomy b h.blks.length with hb | hb | hb
  · rw [List.getElem?_append_left hb]
    constructor
    · exact .inl
    · rintro (h1 | ⟨h1, _⟩)
      · exact h1
      · omega
  · subst hb
    simp only [List.getElem?_concat_length, Option.some.injEq]
    constructor
    · exact fun h1 => .inr ⟨by simp, h1.symm⟩
    · rintro (h1 | ⟨_, h1⟩)
      · simp at h1
      · exact h1.symm
  · rw [List.getElem?_eq_none (by simp; omega)]
    constructor
    · intro h1
      cases h1
    · rintro (h1 | ⟨h1, _⟩)
      · have := (List.getElem?_eq_some_iff.1 h1).1
        omega
      · omega

theorem H.lt_size {h : H} {b : Nat} {k : Blk} (hk : h.blks[b]? = some k) : b < h.size := (List.getElem?_eq_some_iff.1 hk).1

theorem agree_new (ι : Map) (h : H) (cells : List V) (l : Loc) : Agree ι h (ι.set h.size 0 l) (h.new cells) := fun b k hk =>
  ⟨⟨k, (H.new_get h cells).2 (.inl hk), Nat.le_refl _, rfl⟩, fun g _ => Map.set_ne ι l (.inl (Nat.ne_of_lt (H.lt_size hk)))⟩

/-- A new block. -/
theorem new_ok {ι : Map} {base : Nat} {h : H} {w w' : World} (hr : Rel ι base h w) {cells : List V} {C : Array Value} {e : TypeId} {fz : Nat × Nat} {cend : Nat}
    (hw : w'.heap = w.heap.push (.cells C e fz)) (hfz : ∀ i, i < C.size → ¬ (fz.1 ≤ i ∧ i < fz.2)) (hc : RelVs ι h cells (C.toList.take cells.length)) (hl : cells.length ≤ cend) (hcend : cend ≤ C.size) :
    Rel (ι.set h.size 0 ⟨w.heap.size, 0, 0, cells.length, cend⟩) base (h.new cells) w' ∧ Agree ι h (ι.set h.size 0 ⟨w.heap.size, 0, 0, cells.length, cend⟩) (h.new cells) := by
  have ha := agree_new ι h cells ⟨w.heap.size, 0, 0, cells.length, cend⟩
  generalize hL : (⟨w.heap.size, 0, 0, cells.length, cend⟩ : Loc) = L at *
  have hold : ∀ i, i < w.heap.size → w'.heap[i]? = w.heap[i]? := fun i hi => by rw [hw, Array.getElem?_push_lt hi]; simp [hi]
  have hLb : L.blk = w.heap.size := by rw [← hL]
  refine ⟨⟨fun b k hk => ?_, ?_, ?_, ?_⟩, ha⟩
  · rcases (H.new_get h cells).1 hk with hk | ⟨rfl, rfl⟩
    · obtain ⟨h1, h2, h3, h4, h5, h6, h7⟩ := hr.blk b k hk
      have hi : ∀ g, (ι.set h.size 0 L) b g = ι b g := fun g => Map.set_ne ι L (.inl (Nat.ne_of_lt (H.lt_size hk)))
      refine ⟨by rw [hi]; exact h1, h2, fun g hg => by rw [hi, hw, Array.size_push]; have := h3 g hg; omega, fun g hg => by rw [hi]; exact h4 g hg, fun g g' hg hg' => by rw [hi, hi]; exact h5 g g' hg hg', fun g hg => by rw [hi]; exact h6 g hg, fun g hg hg' => ?_⟩
      rw [hi]
      obtain ⟨c, e', fz', hc', r, hj⟩ := h7 g hg hg'
      refine ⟨c, e', fz', (hold _ (h3 g hg')).trans hc', r, fun j a b => ?_⟩
      obtain ⟨u, v, a1, a2, a3⟩ := hj j a b
      exact ⟨u, v, a1, a2, a3.step ha⟩
    · have hi : (ι.set h.size 0 L) h.size 0 = L := Map.set_self ι _ _ L
      have g0 : ∀ g, g ≤ 0 → g = 0 := fun g hg => Nat.le_zero.1 hg
      refine ⟨by rw [hi, ← hL], Nat.le_refl _, fun g hg => by rw [g0 g hg, hi, hLb, hw, Array.size_push]; omega, fun g hg => ?_, fun g g' hg hg' => ?_, fun g hg => ?_, fun g _ hg => ?_⟩
      · rw [g0 g hg, hi, hLb]
        exact ⟨fun h => (by cases h), fun _ => hr.base⟩
      · rw [g0 g' hg', g0 g (by simp at hg'; omega)]
        exact ⟨Nat.le_refl _, fun _ => ⟨rfl, rfl⟩⟩
      · rw [g0 g hg, hi, ← hL]
        exact ⟨Nat.zero_le _, fun _ => hl⟩
      · rw [g0 g hg, hi]
        refine ⟨C, e, fz, by rw [hLb, hw]; simp, fun _ => ⟨hfz, by rw [← hL]; simpa using hcend⟩, fun j _ hj => ?_⟩
        rw [← hL] at hj ⊢
        simp only [Nat.sub_zero, Nat.zero_add] at hj ⊢
        have hj' : j < cells.length := hj
        obtain ⟨v, hv, hrv⟩ := hc.get (List.getElem?_eq_getElem hj')
        rw [List.getElem?_take, if_pos hj'] at hv
        exact ⟨cells[j], v, List.getElem?_eq_getElem hj', by simpa using hv, hrv.step (hL ▸ ha)⟩
  · intro b b' k k' hk hk' hne hro hro' g g' hg hg'
    rcases (H.new_get h cells).1 hk with hk | ⟨rfl, rfl⟩ <;> rcases (H.new_get h cells).1 hk' with hk' | ⟨rfl, rfl⟩
    · rw [Map.set_ne ι L (.inl (Nat.ne_of_lt (H.lt_size hk))), Map.set_ne ι L (.inl (Nat.ne_of_lt (H.lt_size hk')))]
      exact hr.disj b b' k k' hk hk' hne hro hro' g g' hg hg'
    · rw [Map.set_ne ι L (.inl (Nat.ne_of_lt (H.lt_size hk))), Nat.le_zero.1 hg', Map.set_self, hLb]
      exact Nat.ne_of_lt ((hr.blk b k hk).lt g hg)
    · rw [Map.set_ne ι L (.inl (Nat.ne_of_lt (H.lt_size hk'))), Nat.le_zero.1 hg, Map.set_self, hLb]
      exact (Nat.ne_of_lt ((hr.blk b' k' hk').lt g' hg')).symm
    · exact absurd rfl hne
  · rw [hw, Array.size_push]
    have := hr.base
    omega
  · intro b k hk u hu
    have hs : h.size ≤ (h.new cells).size := by simp [H.new, H.size]
    rcases (H.new_get h cells).1 hk with hk | ⟨rfl, rfl⟩
    · exact under_mono hs (hr.wf b k hk u hu)
    · exact under_mono hs (unders_mem hc.unders u hu)

theorem H.write_some {h h' : H} {b off ver : Nat} {vs : List V} (hw : h.write b off ver vs = some h') : ∃ k, h.blks[b]? = some k ∧ k.ro = false ∧ ver = k.gen ∧ off + vs.length ≤ k.cells.length ∧ vs.all V.cellOk = true ∧
    h'.blks = h.blks.set b { k with cells := splice k.cells off vs, valid := k.gen } ∧ h'.esc = h.esc ++ escs b vs := by
  unfold H.write at hw
  cases hk : h.blks[b]? with
  | none => simp [hk] at hw
  | some k =>
    simp only [hk] at hw
    split at hw
    · rename_i hc
      injection hw with hw
      exact ⟨k, rfl, hc.1, hc.2.1, hc.2.2.1, hc.2.2.2, by rw [← hw], by rw [← hw]⟩
    · cases hw
theorem H.grow_some {h h' : H} {b ver : Nat} {vs : List V} (hw : h.grow b ver vs = some h') : ∃ k, h.blks[b]? = some k ∧ k.ro = false ∧ ver = k.gen ∧ vs.all V.cellOk = true ∧
    h'.blks = h.blks.set b { k with cells := k.cells ++ vs, gen := k.gen + 1 } ∧ h'.esc = h.esc ++ escs b vs := by
  unfold H.grow at hw
  cases hk : h.blks[b]? with
  | none => simp [hk] at hw
  | some k =>
    simp only [hk] at hw
    split at hw
    · rename_i hc
      injection hw with hw
      exact ⟨k, rfl, hc.1, hc.2.1, hc.2.2, by rw [← hw], by rw [← hw]⟩
    · cases hw

theorem set_get {l : List Blk} {b : Nat} {k : Blk} (x : Blk) (hk : l[b]? = some k) {b' : Nat} {k' : Blk} : (l.set b x)[b']? = some k' ↔ (b' = b ∧ k' = x) ∨ (b' ≠ b ∧ l[b']? = some k') := by
  have hlt := (List.getElem?_eq_some_iff.1 hk).1
  by_cases hb : b' = b
  · subst hb
    rw [List.getElem?_set_self hlt]
    constructor
    · intro h1
      injection h1 with h1
      exact .inl ⟨rfl, h1.symm⟩
    · rintro (⟨_, rfl⟩ | ⟨h1, _⟩)
      · rfl
      · exact absurd rfl h1
  · rw [List.getElem?_set_ne (Ne.symm hb)]
    constructor
    · exact fun h1 => .inr ⟨hb, h1⟩
    · rintro (⟨h1, _⟩ | ⟨_, h1⟩)
      · exact absurd h1 hb
      · exact h1

theorem splice_length (l : List V) (off : Nat) (vs : List V) (h : off + vs.length ≤ l.length) : (splice l off vs).length = l.length := by
  simp only [splice, List.length_append, List.length_take, List.length_drop]
  omega
theorem splice_get (l : List V) (off : Nat) (vs : List V) (h : off + vs.length ≤ l.length) (j : Nat) : (splice l off vs)[j]? = if off ≤ j ∧ j < off + vs.length then vs[j - off]? else l[j]? := by
  unfold splice
  by_cases h1 : j < off
  · rw [List.append_assoc, List.getElem?_append_left (by simp; omega), List.getElem?_take, if_pos h1, if_neg (by omega)]
  · by_cases h2 : j < off + vs.length
    · rw [List.getElem?_append_left (by simp; omega), List.getElem?_append_right (by simp; omega), if_pos ⟨by omega, h2⟩]
      simp only [List.length_take]
      rw [show min off l.length = off by omega]
    · rw [List.getElem?_append_right (by simp; omega), List.getElem?_drop, if_neg (by omega)]
      simp only [List.length_append, List.length_take]
      rw [show off + vs.length + (j - (min off l.length + vs.length)) = j by omega]

/-- The true cells behind a write. -/
theorem setCells_heap (b : Nat) : ∀ (vs : List Value) (o : Nat) (w : World) (c : Array Value) (e : TypeId) (fz : Nat × Nat), w.heap[b]? = some (.cells c e fz) → o + vs.length ≤ c.size →
    (∃ c' : Array Value, (w.setCells b o vs).heap[b]? = some (.cells c' e fz) ∧ c'.size = c.size ∧ ∀ j : Nat, c'[j]? = if o ≤ j ∧ j < o + vs.length then vs[j - o]? else c[j]?) ∧
    (∀ i, i ≠ b → (w.setCells b o vs).heap[i]? = w.heap[i]?) ∧ (w.setCells b o vs).heap.size = w.heap.size
  | [], o, w, c, e, fz, hc, _ => ⟨⟨c, hc, rfl, fun j => by rw [if_neg (by simp)]⟩, fun _ _ => rfl, rfl⟩
  | v :: r, o, w, c, e, fz, hc, hl => by
    simp only [List.length_cons] at hl
    have hs : (w.setCell ⟨b, o, none⟩ v).heap[b]? = some (.cells (c.setIfInBounds o v) e fz) := by
      obtain ⟨hb, _⟩ := Array.getElem?_eq_some_iff.1 hc
      simp only [World.setCell, Array.getElem?_modify]
      rw [hc]
      simp
    obtain ⟨⟨c', h1, h2, h3⟩, h4, h5⟩ := setCells_heap b r (o + 1) _ _ e fz hs (by simp; omega)
    refine ⟨⟨c', h1, by simpa using h2, fun j => ?_⟩, fun i hi => (h4 i hi).trans (Below.heap_setCell w _ _ i hi), by simp only [World.setCells]; rw [h5]; simp [World.setCell]⟩
    rw [h3 j]
    simp only [List.length_cons]
    by_cases hj : j = o
    · subst hj
      rw [if_neg (by omega), if_pos (by omega)]
      simp
      have : j < c.size := by omega
      simp [this]
    · by_cases h6 : o + 1 ≤ j ∧ j < o + 1 + r.length
      · rw [if_pos h6, if_pos (by omega), show j - o = j - (o + 1) + 1 by omega, List.getElem?_cons_succ]
      · rw [if_neg h6, if_neg (by omega), Array.getElem?_setIfInBounds_ne (Ne.symm hj)]

theorem cellOk_one {ι : Map} {h : H} {u : V} {v : Value} (hr : RelV ι h u v) (hc : V.cellOk u = true) : v.oneCell' = true := by
  cases u <;> simp only [RelV, V.cellOk] at hr hc
  all_goals (first | (subst hr; rfl) | skip)
  · obtain ⟨_, _, _, rfl⟩ := hr; rfl
  · obtain ⟨_, _, rfl, _⟩ := hr; rfl
  · obtain ⟨_, _, rfl, _⟩ := hr; rfl
  · cases hc
  · cases hc
  · obtain ⟨_, rfl, _⟩ := hr; rfl

theorem cellOks_one {ι : Map} {h : H} {us : List V} {vs : List Value} (hr : RelVs ι h us vs) (hc : us.all V.cellOk = true) : ∀ v ∈ vs, v.oneCell' = true := by
  intro v hv
  obtain ⟨i, hi, rfl⟩ := List.mem_iff_getElem.1 hv
  have hi' : i < us.length := by rw [hr.length]; exact hi
  obtain ⟨v', hv', hr'⟩ := hr.get (List.getElem?_eq_getElem hi')
  rw [List.getElem?_eq_getElem hi] at hv'
  injection hv' with hv'
  rw [hv']
  exact cellOk_one hr' (List.all_eq_true.1 hc _ (List.getElem_mem hi'))

theorem below_setCells (b : Nat) (base : Nat) (hb : base ≤ b) : ∀ (vs : List Value) (o : Nat) (w : World), Below base w (w.setCells b o vs)
  | [], _, w => Below.refl _ _
  | v :: r, o, w => ((Below.refl base w).setCell (p := ⟨b, o, none⟩) hb v).trans (below_setCells b base hb r (o + 1) _)

/-- What a write of cells does, where they lie. -/
theorem store_run {P : Program} {w : World} {b o : Nat} {vs : List Value} {c : Array Value} {e : TypeId} {fz : Nat × Nat} (hc : w.heap[b]? = some (.cells c e fz)) (hfz : ∀ i, i < c.size → ¬ (fz.1 ≤ i ∧ i < fz.2))
    (hl : o + vs.length ≤ c.size) (h1 : ∀ v ∈ vs, v.oneCell' = true) : (storeCells ⟨b, o, none⟩ vs).run P w = .ok () (w.setCells b o vs) := by
  have := run_storeCells_cells (P := P) b o vs 0 w (fun j hj => by rw [cell_of hc]; simp; omega) (fun j hj => by
    obtain ⟨lo, hi⟩ := fz
    have := hfz (o + 0 + j) (by omega)
    simp only [World.frozen?, hc]
    simp at this ⊢
    exact this) h1
  simpa using this

/-- Cells of a block of its own are written. -/
theorem write_ok {ι : Map} {base : Nat} {h h' : H} {w : World} (P : Program) (hr : Rel ι base h w) {b off ver : Nat} {us : List V} {vs : List Value} (hw : h.write b off ver us = some h')
    (h1 : (ι b ver).lo ≤ off) (hvs : RelVs ι h us vs) :
    (storeCells ⟨(ι b ver).blk, (ι b ver).r + (off - (ι b ver).lo), none⟩ vs).run P w = .ok () (w.setCells (ι b ver).blk ((ι b ver).r + (off - (ι b ver).lo)) vs) ∧
    Rel ι base h' (w.setCells (ι b ver).blk ((ι b ver).r + (off - (ι b ver).lo)) vs) ∧ Agree ι h ι h' ∧ Below base w (w.setCells (ι b ver).blk ((ι b ver).r + (off - (ι b ver).lo)) vs) := by
  obtain ⟨k, hk, hro, rfl, hlen, hok, hblks, -⟩ := H.write_some hw
  have hb := hr.blk b k hk
  generalize hL : ι b k.gen = L at *
  have htop : L.n = k.cells.length := hL ▸ hb.top
  have hends := hb.ends k.gen (Nat.le_refl _)
  have hside := (hb.side k.gen (Nat.le_refl _)).2 hro
  rw [hL] at hends hside
  obtain ⟨c, e, fz, hc, hf, hj⟩ := hb.cells k.gen hb.val (Nat.le_refl _)
  rw [hL] at hc hf hj
  obtain ⟨hfz, hroom⟩ := hf hro
  have hvl := hvs.length
  have hcend := hends.2 hro
  have hfit : L.r + (off - L.lo) + vs.length ≤ c.size := by omega
  have ha : Agree ι h ι h' := fun i ki hki => by
    refine ⟨?_, fun _ _ => rfl⟩
    by_cases hib : i = b
    · subst hib
      rw [hk] at hki
      injection hki with hki
      subst hki
      exact ⟨{ k with cells := splice k.cells off us, valid := k.gen }, by rw [hblks]; exact (set_get _ hk).2 (.inl ⟨rfl, rfl⟩), Nat.le_refl _, rfl⟩
    · exact ⟨ki, by rw [hblks]; exact (set_get _ hk).2 (.inr ⟨hib, hki⟩), Nat.le_refl _, rfl⟩
  obtain ⟨⟨c', hc1, hc2, hc3⟩, hoth, hsz⟩ := setCells_heap L.blk vs (L.r + (off - L.lo)) w c e fz hc hfit
  refine ⟨store_run hc hfz hfit (cellOks_one hvs hok), ⟨fun i ki hki => ?_, fun i i' ki ki' hki hki' hne hro1 hro2 g g' hg hg' => ?_, by rw [hsz]; exact hr.base, fun i ki hki u hu => ?_⟩, ha, below_setCells _ _ hside _ _ _⟩
  · rw [hblks] at hki
    rcases (set_get _ hk).1 hki with ⟨hib, hki'⟩ | ⟨hib, hki⟩
    · subst hib hki'
      refine ⟨by simp only; rw [hL, splice_length _ _ _ hlen]; exact htop, Nat.le_refl _, fun g hg => by rw [hsz]; exact hb.lt g hg, hb.side, hb.chain, hb.ends, fun g hg1 hg2 => ?_⟩
      simp only at hg1 hg2
      obtain rfl : g = k.gen := Nat.le_antisymm hg2 hg1
      rw [hL]
      refine ⟨c', e, fz, hc1, fun _ => ⟨by rw [hc2]; exact hfz, by rw [hc2]; exact hroom⟩, fun j hj1 hj2 => ?_⟩
      simp only
      rw [splice_get _ _ _ hlen, hc3]
      by_cases hin : off ≤ j ∧ j < off + us.length
      · rw [if_pos hin, if_pos (by omega)]
        have hlt : j - off < us.length := by omega
        obtain ⟨v, hv, hrv⟩ := hvs.get (List.getElem?_eq_getElem hlt)
        exact ⟨_, v, List.getElem?_eq_getElem hlt, by rw [show L.r + (j - L.lo) - (L.r + (off - L.lo)) = j - off by omega]; exact hv, hrv.step ha⟩
      · rw [if_neg hin, if_neg (by omega)]
        obtain ⟨u, v, a1, a2, a3⟩ := hj j hj1 hj2
        exact ⟨u, v, a1, a2, a3.step ha⟩
    · have hbi := hr.blk i ki hki
      refine ⟨hbi.top, hbi.val, fun g hg => by rw [hsz]; exact hbi.lt g hg, hbi.side, hbi.chain, hbi.ends, fun g hg1 hg2 => ?_⟩
      obtain ⟨ci, ei, fzi, hci, hfi, hji⟩ := hbi.cells g hg1 hg2
      have hne : (ι i g).blk ≠ L.blk := by
        cases hri : ki.ro with
        | true =>
          have := (hbi.side g hg2).1 hri
          omega
        | false =>
          rw [← hL]
          exact hr.disj i b ki k hki hk hib hri hro g k.gen hg2 (Nat.le_refl _)
      refine ⟨ci, ei, fzi, (hoth _ hne).trans hci, hfi, fun j hj1 hj2 => ?_⟩
      obtain ⟨u, v, a1, a2, a3⟩ := hji j hj1 hj2
      exact ⟨u, v, a1, a2, a3.step ha⟩
  · rw [hblks] at hki hki'
    have back : ∀ {j : Nat} {kj : Blk}, (h.blks.set b { k with cells := splice k.cells off us, valid := k.gen })[j]? = some kj → ∃ k0 : Blk, h.blks[j]? = some k0 ∧ k0.ro = kj.ro ∧ k0.gen = kj.gen := fun {j kj} hx => by
      rcases (set_get _ hk).1 hx with ⟨h1, h2⟩ | ⟨_, hx⟩
      · subst h1 h2
        exact ⟨k, hk, rfl, rfl⟩
      · exact ⟨kj, hx, rfl, rfl⟩
    obtain ⟨k1, e1, e2, e3⟩ := back hki
    obtain ⟨k2, e4, e5, e6⟩ := back hki'
    exact hr.disj i i' k1 k2 e1 e4 hne (e2.trans hro1) (e5.trans hro2) g g' (e3 ▸ hg) (e6 ▸ hg')
  · have hs : h'.size = h.size := by simp [H.size, hblks]
    rw [hs]
    rw [hblks] at hki
    rcases (set_get _ hk).1 hki with ⟨hib, hki'⟩ | ⟨hib, hki⟩
    · subst hib hki'
      simp only [splice, List.mem_append] at hu
      rcases hu with (hu | hu) | hu
      · exact hr.wf _ k hk u (List.mem_of_mem_take hu)
      · exact unders_mem hvs.unders u hu
      · exact hr.wf _ k hk u (List.mem_of_mem_drop hu)
    · exact hr.wf i ki hki u hu

end Go.Hl
