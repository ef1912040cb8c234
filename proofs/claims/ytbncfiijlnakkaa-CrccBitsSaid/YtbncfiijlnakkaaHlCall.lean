import Derived.Test.YtbncfiijlnakkaaHlCode
/-! Hl: calls. -/
namespace Go.Hl
open Go.RowKit

theorem replicate_undef (n : Nat) (t : Nat) : (List.replicate n V.undef).getD t .undef = .undef := by
  rw [List.getD_eq_getElem?_getD, List.getElem?_replicate]
  split <;> rfl

theorem enter_rel {ι : Map} {h : H} {fn : Func} {args : List V} {args' : List Value} (hr : RelVs ι h args args') :
    EnvRel ι h (enter fn args) (args'.toArray ++ Array.replicate (fn.ntmps - args'.toArray.size) Go.undef) := by
  have hl := hr.length
  refine ⟨by simp [enter, hl], fun t => ?_⟩
  unfold enter
  rw [List.getD_eq_getElem?_getD, Array.getD_eq_getD_getElem?]
  by_cases ht : t < args.length
  · obtain ⟨v, hv, hrv⟩ := hr.get (List.getElem?_eq_getElem ht)
    rw [List.getElem?_append_left ht, List.getElem?_eq_getElem ht]
    rw [Array.getElem?_append_left (by simp; omega)]
    simp only [List.getElem?_toArray, hv, Option.getD_some]
    exact hrv
  · rw [List.getElem?_append_right (by omega), List.getElem?_replicate]
    have : ((if t - args.length < fn.ntmps - args.length then some V.undef else none).getD V.undef) = V.undef := by split <;> rfl
    rw [this]
    simp [RelV]

/-- What is given up is named by nothing. -/
theorem leave_rel {ι : Map} {base : Nat} {h h0 h1 : H} {v : V} {v' : Value} {ι0 : Map} {w w0 : World} (hrel0 : Rel ι0 base h w0) (h0b : h0.blks = h.blks) (h0e : h0.esc = []) (hg : Grows h0 h1) (hr : Rel ι base h1 w) (hv : RelV ι h1 v v')
    (ha : Agree ι0 h ι h1) : Rel ι base (leave h h1 v) w ∧ RelV ι (leave h h1 v) v v' ∧ Agree ι0 h ι (leave h h1 v) := by
  unfold leave
  split
  · rename_i hc
    simp only [Bool.and_eq_true, List.all_eq_true, Bool.or_eq_true, decide_eq_true_eq] at hc
    obtain ⟨hvu, hesc⟩ := hc
    have hsz : h.size ≤ h1.size := by have := hg.1; simp only [H.size, h0b] at this ⊢; exact this
    have he0 : EscOk h.size [] h0 := fun b k _ hk u hu r hr' => by
      rw [h0b] at hk
      rw [upto_of_under (hrel0.wf b k hk u hu)] at hr'
      simp at hr'
    have he1 := hg.2 h.size [] (by simp [H.size, h0b]) he0
    have hun : ∀ b k, b < h.size → h1.blks[b]? = some k → ∀ u ∈ k.cells, V.under h.size u = true := fun b k hb hk u hu => by
      refine under_of_upto ?_
      cases hup : V.upto h.size u with
      | nil => rfl
      | cons r l =>
        have hr' : r ∈ V.upto h.size u := by rw [hup]; simp
        have h2 := he1 b k hb hk u hu r hr'
        simp only [List.nil_append] at h2
        have h3 := (upto_ge hr').1
        rcases hesc _ h2 with h4 | h4 <;> simp only at h4 <;> omega
    have hag : ∀ b, b < h.size → AgreeAt ι h1 ι ⟨h1.blks.take h.size, h.esc ++ h1.esc.filter fun x => decide (x.1 < h.size)⟩ b := fun b hb k hk =>
      ⟨⟨k, by simp only [List.getElem?_take, if_pos hb]; exact hk, Nat.le_refl _, rfl⟩, fun _ _ => rfl⟩
    have hget : ∀ {b : Nat} {k : Blk}, (h1.blks.take h.size)[b]? = some k → b < h.size ∧ h1.blks[b]? = some k := fun {b k} hk => by
      rw [List.getElem?_take] at hk
      split at hk
      · rename_i hb; exact ⟨hb, hk⟩
      · cases hk
    refine ⟨⟨fun b k hk => ?_, fun b b' k k' hk hk' => hr.disj b b' k k' (hget hk).2 (hget hk').2, hr.base, fun b k hk u hu => ?_⟩, hv.agree hag hvu, fun b k hk => ?_⟩
    · obtain ⟨hb, hk⟩ := hget hk
      obtain ⟨h1', h2, h3, h4, h5, h6, h7⟩ := hr.blk b k hk
      refine ⟨h1', h2, h3, h4, h5, h6, fun g hg hg' => ?_⟩
      obtain ⟨c, e, fz, hc, r, hj⟩ := h7 g hg hg'
      refine ⟨c, e, fz, hc, r, fun j h1 h2 => ?_⟩
      obtain ⟨u, v, a1, a2, a3⟩ := hj j h1 h2
      exact ⟨u, v, a1, a2, a3.agree hag (hun b k hb hk u (List.mem_of_getElem? a1))⟩
    · obtain ⟨hb, hk⟩ := hget hk
      have := hun b k hb hk u hu
      have hs : (H.size ⟨h1.blks.take h.size, h.esc ++ h1.esc.filter fun x => decide (x.1 < h.size)⟩) = h.size := by
        simp only [H.size, List.length_take] at hsz ⊢
        omega
      rw [hs]
      exact this
    · obtain ⟨⟨k', hk', hgk, hro⟩, hi⟩ := ha b k hk
      have hb : b < h.size := H.lt_size hk
      exact ⟨⟨k', by simp only [List.getElem?_take, if_pos hb]; exact hk', hgk, hro⟩, hi⟩
  · refine ⟨hr.blks rfl, RelV.step (h := h1) (Agree.esc (h := h1) _) hv, fun b k hk => ha b k hk⟩

/-- Calls. -/
theorem callF_ok {P : Program} (hmix : P.follows .mixedOrders = true) : ∀ k, CallsOk (callF P k) P
  | 0 => fun f args h v h' hc => by simp [callF] at hc
  | k + 1 => fun f args h v h' hc => by
    simp only [callF] at hc
    split at hc
    · rename_i fn hf
      split at hc
      · rename_i hok
        unfold fnOk at hok
        split at hc
        · rename_i c hb
          rw [hb] at hok
          simp only [Bool.and_eq_true, bne_iff_ne, ne_eq] at hok
          refine ⟨⟨fn, hf, by simpa using hok.1, by simp [hb]⟩, fun ι base w args' hargs hrel => ?_⟩
          refine calls_of_wp hf hb ?_
          cases he : exec (callF P k) P k c (enter fn args) { blks := h.blks, esc := [] } with
          | none => simp [he, finish] at hc
          | some x =>
            obtain ⟨x, e', h1⟩ := x
            rw [he] at hc
            have hg := grows_exec (grows_call k) c _ _ _ _ _ he
            have ag0 : Agree ι h ι { blks := h.blks, esc := [] } := fun b k hk => ⟨⟨k, hk, Nat.le_refl _, rfl⟩, fun _ _ => rfl⟩
            have hrel0 : Rel ι base { blks := h.blks, esc := [] } w := hrel.blks rfl
            have fin : ∀ (vs : List V) (w' : World) (ι' : Map) (a' : Act), resultsOf P e' h1 fn.results.toList = some vs → (tupOf vs, leave h h1 (tupOf vs)) = (v, h') → EnvRel ι' h1 e' a'.tmps → Rel ι' base h1 w' → Agree ι { blks := h.blks, esc := [] } ι' h1 → Below base w w' →
                ∃ v', (results fn a'.tmps).run P w' = .ok v' w' ∧ ∃ v'' ι', Ending.returned v' = .returned v'' ∧ RelV ι' h' v v'' ∧ Rel ι' base h' w' ∧ Agree ι h ι' h' ∧ Below base w w' := fun vs w' ι' a' hres hvh h1e h2 h3 h4 => by
              injection hvh with hv hh
              obtain ⟨v', r1, r2⟩ := results_ok h1e h2 hres
              have hl := leave_rel (h0 := { blks := h.blks, esc := [] }) hrel rfl rfl hg h2 r2 (ag0.trans h3)
              rw [hv] at hh hl
              rw [hh] at hl
              exact ⟨v', r1, v', ι', rfl, hl.2.1, hl.1, hl.2.2, h4⟩
            refine exec_wp (callF_ok hmix k) hmix c _ ι _ _ x e' h1 _ w he hok.2 ((enter_rel hargs).step ag0) hrel0 fun a' w' ι' k1 k2 k3 k4 k5 => ?_
            cases x with
            | exit id => simp [finish] at hc
            | normal =>
              simp only [finish] at hc
              cases hres : resultsOf P e' h1 fn.results.toList with
              | none => simp [hres] at hc
              | some vs =>
                simp only [hres, Option.map_some, Option.some.injEq] at hc
                exact ⟨k5, fin vs w' ι' a' hres hc k1 k2 k3 k4⟩
            | ret =>
              simp only [finish] at hc
              cases hres : resultsOf P e' h1 fn.results.toList with
              | none => simp [hres] at hc
              | some vs =>
                simp only [hres, Option.map_some, Option.some.injEq] at hc
                exact ⟨k5, fin vs w' ι' a' hres hc k1 k2 k3 k4⟩
        · cases hc
      · cases hc
    · cases hc

end Go.Hl
