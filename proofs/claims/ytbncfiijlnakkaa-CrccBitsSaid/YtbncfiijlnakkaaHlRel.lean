import Derived.Test.YtbncfiijlnakkaaHlRun
import Derived.Below
/-! Hl: what its memory says of the true one. -/
namespace Go.Hl

/-- Where a growth of a block lies: the true block, where in it cell number lo stands; how many cells this growth has; up to which cell the capacity of its slices goes. -/
structure Loc where
  blk : Nat
  r : Nat
  lo : Nat
  n : Nat
  cend : Nat
  deriving Inhabited
abbrev Map := Nat → Nat → Loc

def okRef (h : H) (b ver : Nat) : Prop := ∃ k, h.blks[b]? = some k ∧ ver ≤ k.gen

def SlOk (ι : Map) (h : H) (b off len ver esz : Nat) (lim : Bool) (a : Addr) (cap : Nat) : Prop :=
  ∃ k, h.blks[b]? = some k ∧ ver ≤ k.gen ∧ 0 < esz ∧ len ≤ cap ∧ (lim = true → cap = len) ∧ (ι b ver).lo ≤ off ∧ off + len * esz ≤ (ι b ver).n ∧
    (cap ≠ 0 → a = ⟨(ι b ver).blk, (ι b ver).r + (off - (ι b ver).lo), none⟩) ∧ (lim = false → off + cap * esz = (ι b ver).cend)

mutual
def RelV (ι : Map) (h : H) : V → Value → Prop
  | .bool b, v => v = .bool b
  | .int k n, v => v = .int k n
  | .str s, v => v = .string ⟨s.toArray⟩
  | .nilp, v => v = .pointer none
  | .ptr b off ver z, v => okRef h b ver ∧ (ι b ver).lo ≤ off ∧ z ≤ (ι b ver).n ∧ v = .pointer (some ⟨(ι b ver).blk, (ι b ver).r + (off - (ι b ver).lo), none⟩)
  | .nils, v => v = .slice none 0 0
  | .sl b off len ver esz lim, v => ∃ a cap, v = .slice (some a) len cap ∧ SlOk ι h b off len ver esz lim a cap
  | .fn f x y, v => ∃ x' y', v = .func f x' y' ∧ RelVs ι h x x'.toList ∧ RelVs ι h y y'.toList
  | .nilf, v => v = .nilFunc
  | .agg l, v => ∃ c, v = .agg c ∧ RelVs ι h l c.toList
  | .tup l, v => l = [] ∨ ∃ c, v = .tuple c ∧ RelVs ι h l c.toList
  | .iface t x, v => ∃ y, v = .iface t y ∧ RelV ι h x y
  | .nili, v => v = .nilIface
def RelVs (ι : Map) (h : H) : List V → List Value → Prop
  | [], [] => True
  | u :: l, v :: m => RelV ι h u v ∧ RelVs ι h l m
  | _, _ => False
end

theorem RelV.undef {ι : Map} {h : H} (v : Value) : RelV ι h .undef v := by simp [RelV]

theorem RelVs.length {ι : Map} {h : H} : ∀ {l : List V} {m : List Value}, RelVs ι h l m → l.length = m.length
  | [], [], _ => rfl
  | _ :: _, _ :: _, hr => by
    simp only [RelVs] at hr
    simp [RelVs.length hr.2]
  | [], _ :: _, hr => by simp [RelVs] at hr
  | _ :: _, [], hr => by simp [RelVs] at hr

theorem RelVs.get {ι : Map} {h : H} : ∀ {l : List V} {m : List Value}, RelVs ι h l m → ∀ {i : Nat} {u : V}, l[i]? = some u → ∃ v, m[i]? = some v ∧ RelV ι h u v
  | [], [], _, i, u, hu => by simp at hu
  | _ :: _, _ :: _, hr, 0, u, hu => by
    simp only [RelVs] at hr
    simp at hu
    exact ⟨_, by simp, hu ▸ hr.1⟩
  | _ :: _, _ :: _, hr, i + 1, u, hu => by
    simp only [RelVs] at hr
    simp at hu
    obtain ⟨v, hv, h'⟩ := RelVs.get hr.2 hu
    exact ⟨v, by simpa using hv, h'⟩
  | [], _ :: _, hr, _, _, _ => by simp [RelVs] at hr
  | _ :: _, [], hr, _, _, _ => by simp [RelVs] at hr

theorem RelVs.of_get {ι : Map} {h : H} : ∀ {l : List V} {m : List Value}, l.length = m.length → (∀ (i : Nat) (u : V) (v : Value), l[i]? = some u → m[i]? = some v → RelV ι h u v) → RelVs ι h l m
  | [], [], _, _ => by simp [RelVs]
  | u :: l, v :: m, hl, hg => by
    simp only [RelVs]
    exact ⟨hg 0 u v (by simp) (by simp), RelVs.of_get (by simpa using hl) fun i u v hu hv => hg (i + 1) u v (by simpa using hu) (by simpa using hv)⟩
  | [], _ :: _, hl, _ => by simp at hl
  | _ :: _, [], hl, _ => by simp at hl

theorem RelVs.append {ι : Map} {h : H} : ∀ {l l' : List V} {m m' : List Value}, RelVs ι h l m → RelVs ι h l' m' → RelVs ι h (l ++ l') (m ++ m')
  | [], _, [], _, _, h' => h'
  | _ :: _, _, _ :: _, _, hr, h' => by
    simp only [RelVs, List.cons_append] at hr ⊢
    exact ⟨hr.1, RelVs.append hr.2 h'⟩
  | [], _, _ :: _, _, hr, _ => by simp [RelVs] at hr
  | _ :: _, _, [], _, hr, _ => by simp [RelVs] at hr

theorem RelVs.take {ι : Map} {h : H} {l : List V} {m : List Value} (hr : RelVs ι h l m) (n : Nat) : RelVs ι h (l.take n) (m.take n) := by
  refine RelVs.of_get (by simp [hr.length]) fun i u v hu hv => ?_
  rw [List.getElem?_take] at hu hv
  split at hu
  · rename_i hi
    rw [if_pos hi] at hv
    obtain ⟨v', hv', hr'⟩ := hr.get hu
    rw [hv] at hv'
    exact Option.some.inj hv' ▸ hr'
  · cases hu

theorem RelVs.drop {ι : Map} {h : H} {l : List V} {m : List Value} (hr : RelVs ι h l m) (n : Nat) : RelVs ι h (l.drop n) (m.drop n) := by
  refine RelVs.of_get (by simp [hr.length]) fun i u v hu hv => ?_
  rw [List.getElem?_drop] at hu hv
  obtain ⟨v', hv', hr'⟩ := hr.get hu
  rw [hv] at hv'
  exact Option.some.inj hv' ▸ hr'

/-- A block of the one memory is a block of the other one, grown perhaps; its elder growths lie where they lay. -/
def AgreeAt (ι : Map) (h : H) (ι' : Map) (h' : H) (b : Nat) : Prop :=
  ∀ k, h.blks[b]? = some k → (∃ k', h'.blks[b]? = some k' ∧ k.gen ≤ k'.gen ∧ k'.ro = k.ro) ∧ ∀ g, g ≤ k.gen → ι' b g = ι b g

def Agree (ι : Map) (h : H) (ι' : Map) (h' : H) : Prop := ∀ b, AgreeAt ι h ι' h' b

theorem Agree.refl (ι : Map) (h : H) : Agree ι h ι h := fun _ k hk => ⟨⟨k, hk, Nat.le_refl _, rfl⟩, fun _ _ => rfl⟩
theorem Agree.trans {ι ι' ι'' : Map} {h h' h'' : H} (a : Agree ι h ι' h') (b : Agree ι' h' ι'' h'') : Agree ι h ι'' h'' := fun i k hk => by
  obtain ⟨⟨k', hk', hg, hr⟩, hi⟩ := a i k hk
  obtain ⟨⟨k'', hk'', hg', hr'⟩, hi'⟩ := b i k' hk'
  exact ⟨⟨k'', hk'', Nat.le_trans hg hg', hr'.trans hr⟩, fun g hgk => (hi' g (Nat.le_trans hgk hg)).trans (hi g hgk)⟩

theorem okRef.agree {ι ι' : Map} {h h' : H} {b ver : Nat} (ha : AgreeAt ι h ι' h' b) (ho : okRef h b ver) : okRef h' b ver ∧ ι' b ver = ι b ver := by
  obtain ⟨k, hk, hv⟩ := ho
  obtain ⟨⟨k', hk', hg, _⟩, hi⟩ := ha k hk
  exact ⟨⟨k', hk', Nat.le_trans hv hg⟩, hi _ hv⟩

mutual
theorem RelV.agree {ι ι' : Map} {h h' : H} {n : Nat} (ha : ∀ b, b < n → AgreeAt ι h ι' h' b) : ∀ {u : V} {v : Value}, V.under n u = true → RelV ι h u v → RelV ι' h' u v
  | .bool _, _, _, hr | .int _ _, _, _, hr | .str _, _, _, hr | .nilp, _, _, hr | .nils, _, _, hr | .nilf, _, _, hr | .nili, _, _, hr => by
    simpa [RelV] using hr
  | .ptr b off ver z, v, hu, hr => by
    simp only [RelV, V.under, decide_eq_true_eq] at *
    obtain ⟨ho, h1, h2⟩ := hr
    obtain ⟨ho', he⟩ := okRef.agree (ha b hu) ho
    rw [he]
    exact ⟨ho', h1, h2⟩
  | .sl b off len ver ez lim, v, hu, hr => by
    simp only [RelV, V.under, decide_eq_true_eq] at *
    obtain ⟨a, cap, hv, k, hk, hg, hr⟩ := hr
    obtain ⟨⟨k', hk', hg', _⟩, hi⟩ := ha b hu k hk
    refine ⟨a, cap, hv, k', hk', Nat.le_trans hg hg', ?_⟩
    rw [hi ver hg]
    exact hr
  | .fn f x y, v, hu, hr => by
    simp only [RelV, V.under, Bool.and_eq_true] at *
    obtain ⟨x', y', hv, h1, h2⟩ := hr
    exact ⟨x', y', hv, RelVs.agree ha hu.1 h1, RelVs.agree ha hu.2 h2⟩
  | .agg l, v, hu, hr => by
    simp only [RelV, V.under] at *
    obtain ⟨c, hv, h1⟩ := hr
    exact ⟨c, hv, RelVs.agree ha hu h1⟩
  | .tup l, v, hu, hr => by
    simp only [RelV, V.under] at *
    rcases hr with hr | ⟨c, hv, h1⟩
    · exact .inl hr
    · exact .inr ⟨c, hv, RelVs.agree ha hu h1⟩
  | .iface t x, v, hu, hr => by
    simp only [RelV, V.under] at *
    obtain ⟨y, hv, h1⟩ := hr
    exact ⟨y, hv, RelV.agree ha hu h1⟩
theorem RelVs.agree {ι ι' : Map} {h h' : H} {n : Nat} (ha : ∀ b, b < n → AgreeAt ι h ι' h' b) : ∀ {l : List V} {m : List Value}, V.unders n l = true → RelVs ι h l m → RelVs ι' h' l m
  | [], [], _, _ => by simp [RelVs]
  | u :: l, v :: m, hu, hr => by
    simp only [RelVs, V.unders, Bool.and_eq_true] at *
    exact ⟨RelV.agree ha hu.1 hr.1, RelVs.agree ha hu.2 hr.2⟩
  | [], _ :: _, _, hr => by simp [RelVs] at hr
  | _ :: _, [], _, hr => by simp [RelVs] at hr
end

theorem okRef.lt {h : H} {b ver : Nat} (ho : okRef h b ver) : b < h.size := by
  obtain ⟨k, hk, _⟩ := ho
  exact (List.getElem?_eq_some_iff.1 hk).1

mutual
theorem RelV.under {ι : Map} {h : H} : ∀ {u : V} {v : Value}, RelV ι h u v → V.under h.size u = true
  | .bool _, _, _ | .int _ _, _, _ | .str _, _, _ | .nilp, _, _ | .nils, _, _ | .nilf, _, _ | .nili, _, _ => by simp [V.under]
  | .ptr b off ver z, v, hr => by
    simp only [RelV, V.under, decide_eq_true_eq] at *
    exact hr.1.lt
  | .sl b off len ver ez lim, v, hr => by
    simp only [RelV, V.under, decide_eq_true_eq] at *
    obtain ⟨_, _, _, k, hk, hg, _⟩ := hr
    exact okRef.lt ⟨k, hk, hg⟩
  | .fn f x y, v, hr => by
    simp only [RelV, V.under, Bool.and_eq_true] at *
    obtain ⟨x', y', hv, h1, h2⟩ := hr
    exact ⟨RelVs.unders h1, RelVs.unders h2⟩
  | .agg l, v, hr => by
    simp only [RelV, V.under] at *
    obtain ⟨c, hv, h1⟩ := hr
    exact RelVs.unders h1
  | .tup l, v, hr => by
    simp only [RelV, V.under] at *
    rcases hr with rfl | ⟨c, hv, h1⟩
    · simp [V.unders]
    · exact RelVs.unders h1
  | .iface t x, v, hr => by
    simp only [RelV, V.under] at *
    obtain ⟨y, hv, h1⟩ := hr
    exact RelV.under h1
theorem RelVs.unders {ι : Map} {h : H} : ∀ {l : List V} {m : List Value}, RelVs ι h l m → V.unders h.size l = true
  | [], _, _ => by simp [V.unders]
  | u :: l, v :: m, hr => by
    simp only [RelVs, V.unders, Bool.and_eq_true] at *
    exact ⟨RelV.under hr.1, RelVs.unders hr.2⟩
  | _ :: _, [], hr => by simp [RelVs] at hr
end

theorem RelV.step {ι ι' : Map} {h h' : H} (ha : Agree ι h ι' h') {u : V} {v : Value} (hr : RelV ι h u v) : RelV ι' h' u v := RelV.agree (fun b _ => ha b) hr.under hr
theorem RelVs.step {ι ι' : Map} {h h' : H} (ha : Agree ι h ι' h') {l : List V} {m : List Value} (hr : RelVs ι h l m) : RelVs ι' h' l m := RelVs.agree (fun b _ => ha b) hr.unders hr

/-- Cells as they lie in the true memory. -/
def CellsAt (ι : Map) (h : H) (w : World) (ro : Bool) (l : Loc) (cells : List V) : Prop :=
  ∃ c e fz, w.heap[l.blk]? = some (.cells c e fz) ∧
    (ro = false → (∀ i, i < c.size → ¬ (fz.1 ≤ i ∧ i < fz.2)) ∧ l.r + (l.cend - l.lo) ≤ c.size) ∧
    ∀ j, l.lo ≤ j → j < l.n → ∃ u v, cells[j]? = some u ∧ c[l.r + (j - l.lo)]? = some v ∧ RelV ι h u v

structure RelB (ι : Map) (base : Nat) (h : H) (w : World) (b : Nat) (k : Blk) : Prop where
  top : (ι b k.gen).n = k.cells.length
  val : k.valid ≤ k.gen
  lt : ∀ g, g ≤ k.gen → (ι b g).blk < w.heap.size
  side : ∀ g, g ≤ k.gen → (k.ro = true → (ι b g).blk < base) ∧ (k.ro = false → base ≤ (ι b g).blk)
  chain : ∀ g g', g ≤ g' → g' ≤ k.gen → (ι b g).n ≤ (ι b g').n ∧ ((ι b g).blk = (ι b g').blk → (ι b g).r = (ι b g').r ∧ (ι b g).lo = (ι b g').lo)
  ends : ∀ g, g ≤ k.gen → (ι b g).lo ≤ (ι b g).n ∧ (k.ro = false → (ι b g).n ≤ (ι b g).cend)
  cells : ∀ g, k.valid ≤ g → g ≤ k.gen → CellsAt ι h w k.ro (ι b g) k.cells

structure Rel (ι : Map) (base : Nat) (h : H) (w : World) : Prop where
  blk : ∀ b k, h.blks[b]? = some k → RelB ι base h w b k
  disj : ∀ b b' k k', h.blks[b]? = some k → h.blks[b']? = some k' → b ≠ b' → k.ro = false → k'.ro = false →
    ∀ g g', g ≤ k.gen → g' ≤ k'.gen → (ι b g).blk ≠ (ι b' g').blk
  base : base ≤ w.heap.size
  wf : ∀ (b : Nat) (k : Blk), h.blks[b]? = some k → ∀ u ∈ k.cells, V.under h.size u = true

mutual
theorem under_mono {n m : Nat} (hn : n ≤ m) : ∀ {u : V}, V.under n u = true → V.under m u = true
  | .ptr c _ _ _, h | .sl c _ _ _ _ _, h => by
    simp only [V.under, decide_eq_true_eq] at h ⊢
    omega
  | .fn _ x y, h => by
    simp only [V.under, Bool.and_eq_true] at h ⊢
    exact ⟨unders_mono hn h.1, unders_mono hn h.2⟩
  | .agg l, h | .tup l, h => by
    simp only [V.under] at h ⊢
    exact unders_mono hn h
  | .iface _ x, h => by
    simp only [V.under] at h ⊢
    exact under_mono hn h
  | .bool _, _ | .int _ _, _ | .str _, _ | .nilp, _ | .nils, _ | .nilf, _ | .nili, _ => by simp [V.under]
theorem unders_mono {n m : Nat} (hn : n ≤ m) : ∀ {l : List V}, V.unders n l = true → V.unders m l = true
  | [], _ => by simp [V.unders]
  | u :: l, h => by
    simp only [V.unders, Bool.and_eq_true] at h ⊢
    exact ⟨under_mono hn h.1, unders_mono hn h.2⟩
end

theorem unders_mem {n : Nat} : ∀ {l : List V}, V.unders n l = true → ∀ u ∈ l, V.under n u = true
  | [], _, u, hu => by simp at hu
  | v :: l, h, u, hu => by
    simp only [V.unders, Bool.and_eq_true] at h
    rcases List.mem_cons.1 hu with rfl | hu
    · exact h.1
    · exact unders_mem h.2 u hu
theorem unders_append {n : Nat} : ∀ {l m : List V}, V.unders n (l ++ m) = true ↔ V.unders n l = true ∧ V.unders n m = true
  | [], m => by simp [V.unders]
  | v :: l, m => by simp only [List.cons_append, V.unders, Bool.and_eq_true, unders_append (l := l), and_assoc]
theorem unders_of_mem {n : Nat} : ∀ {l : List V}, (∀ u ∈ l, V.under n u = true) → V.unders n l = true
  | [], _ => by simp [V.unders]
  | v :: l, h => by
    simp only [V.unders, Bool.and_eq_true]
    exact ⟨h v (by simp), unders_of_mem fun u hu => h u (by simp [hu])⟩

end Go.Hl
