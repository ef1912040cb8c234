import Derived.Test.YtbncfiijlnakkaaHlPure7
import Derived.Laws.IdiomStrings
import Derived.Laws.Cells
/-! Hl: what it reads is what the program reads. -/
namespace Go.Hl
open Go.RowKit

section
variable {P : Program} {ι : Map} {base : Nat} {h : H} {w : World}

theorem read_len {b off ver n : Nat} {l : List V} (hl : h.read b off ver n = some l) : l.length ≤ n := by
  unfold H.read at hl
  split at hl
  · split at hl
    · injection hl with hl
      rw [← hl]
      simp
      omega
    · cases hl
  · cases hl

theorem loads {a : Addr} {vs : List Value} {n : Nat} (hn : vs.length = n) (ha : ∀ i, i < n → w.cell? (a.add i) = vs[i]?) : (loadCells a n).run P w = .ok vs.toArray w := by
  subst hn
  exact run_loadCells_list w a vs fun j v hv => by
    have hlt := (List.getElem?_eq_some_iff.1 hv).1
    rw [ha j hlt]
    exact hv

theorem sim_readVar {t : TypeId} {a v : V} {a' : Value} (hv : readVar P t a h = some v) (hr : Rel ι base h w) (ha : RelV ι h a a') :
    ∃ v', (Instr.loadAt t a').run P w = .ok v' w ∧ RelV ι h v v' := by
  unfold readVar at hv
  split at hv
  · rename_i i hti
    obtain ⟨I, u, z, hI, hu, hz, hd, hsz, hag, -, -⟩ := ti_ok hti
    split at hv
    · rename_i b off ver e
      simp only [RelV] at ha
      obtain ⟨hok, hlo, hn, rfl⟩ := ha
      split at hv
      · rename_i l hl
        split at hv
        · rename_i hle
          obtain ⟨vs, h1, h2, h3⟩ := read_ok hr hl hok hlo (by omega)
          unfold Instr.loadAt
          simp only [Instr.sureAddr, Sem.run_bind, Sem.run_pure, Result.andThen_ok]
          unfold loadVar
          simp only [Sem.run_bind, r_agg hu, Result.andThen_ok]
          rw [hag] at hv
          cases hg : aggD u with
          | true =>
            rw [hg] at hv
            simp only [cond_true, Option.some.injEq] at hv
            subst hv
            simp only [if_true, Sem.run_bind, r_size hI, Result.andThen_ok]
            rw [loads (vs := vs) (by rw [h2, hsz]) (fun i hi => by rw [add_addr]; exact h3 i (by omega))]
            simp only [Result.andThen_ok, Sem.run_pure]
            exact ⟨_, rfl, by simp only [RelV]; exact ⟨_, rfl, by simpa using h1⟩⟩
          | false =>
            rw [hg] at hv
            simp only [cond_false] at hv
            rw [List.head?_eq_getElem?] at hv
            obtain ⟨v', h4, h5⟩ := h1.get hv
            have hlt := (List.getElem?_eq_some_iff.1 h4).1
            have h6 := h3 0 (by omega)
            rw [Nat.add_zero, h4] at h6
            simp only [Bool.false_eq_true, if_false, run_load, h6]
            exact ⟨_, rfl, h5⟩
        · cases hv
      · cases hv
    · cases hv
  · cases hv

theorem bytesOf_vals : ∀ {l : List V} {bs : List UInt8} {vs : List Value}, bytesOf l = some bs → RelVs ι h l vs → ∃ ns : List Int, vs = ns.map (Value.int .u8) ∧ bs = ns.map fun n => UInt8.ofNat n.toNat
  | [], bs, [], hb, _ => by
    simp only [bytesOf, Option.some.injEq] at hb
    exact ⟨[], rfl, by rw [← hb]; rfl⟩
  | u :: l, bs, v :: vs, hb, hr => by
    simp only [RelVs] at hr
    unfold bytesOf at hb
    split at hb
    · rename_i h1; cases h1
    · rename_i n l' h1
      injection h1 with h1 h2
      subst h1 h2
      cases hl : bytesOf l with
      | none => simp [hl] at hb
      | some r =>
        simp only [hl, Option.map_some, Option.some.injEq] at hb
        obtain ⟨ns, h1, h2⟩ := bytesOf_vals hl hr.2
        have h3 := hr.1
        simp only [RelV] at h3
        exact ⟨n :: ns, by rw [h3, h1]; rfl, by rw [← hb, h2]; rfl⟩
    · cases hb
  | [], _, _ :: _, _, hr => by simp [RelVs] at hr
  | _ :: _, _, [], _, hr => by simp [RelVs] at hr

theorem foldl_bytes : ∀ (ns : List Int) (s : ByteArray), ns.foldl (fun r n => r.push (UInt8.ofNat n.toNat)) s = ⟨s.data ++ (ns.map fun n => UInt8.ofNat n.toNat).toArray⟩
  | [], s => by simp
  | n :: ns, s => by
    simp only [List.foldl_cons]
    rw [foldl_bytes ns]
    simp [ByteArray.push]

theorem sim_read {o : Oper} {ρ : Operand → V} {ρ' : Operand → Value} {v : V} (hv : readOp P o.op ρ h = some v) (hr : Rel ι base h w) (hρ : ∀ x, RelV ι h (ρ x) (ρ' x)) :
    ∃ v', (execOp ρ' o).run P w = .ok (.value v') w ∧ RelV ι h v v' := by
  unfold readOp at hv
  split at hv
  · rename_i t a ho
    obtain ⟨v', h1, h2⟩ := sim_readVar hv hr (hρ a)
    unfold execOp
    simp only [ho, Sem.run_bind, h1, Result.andThen_ok]
    exact ⟨_, rfl, h2⟩
  · rename_i s t x ho
    have hx := hρ x
    unfold execOp
    simp only [ho, Sem.run_bind]
    unfold convert
    split at hv
    · rename_i e hs ht
      split at hv
      · rename_i he hxv
        injection hv with hv
        subst hv
        rw [hxv] at hx
        simp only [RelV] at hx
        simp only [hx, Sem.run_bind, r_und hs, r_und ht, r_und he, Result.andThen_ok, Conv.bytesToString]
        exact ⟨_, rfl, by simp only [RelV]; rfl⟩
      · rename_i b off len ver ez lim he hxv
        rw [hxv] at hx
        simp only [RelV] at hx
        obtain ⟨a, cap, hx, k, hk, hg, hez, hlc, hlim, hlo, hle, ha, hc⟩ := hx
        split at hv
        · rename_i l hl
          split at hv
          · rename_i h1
            subst h1
            obtain ⟨vs, h1, h2, h3⟩ := read_ok hr hl ⟨k, hk, hg⟩ hlo (by omega)
            cases hb : bytesOf l with
            | none => simp [hb] at hv
            | some bs =>
              simp only [hb, Option.map_some, Option.some.injEq] at hv
              subst hv
              obtain ⟨ns, rfl, rfl⟩ := bytesOf_vals hb h1
              have hload : (loadCells a len).run P w = .ok (ns.map (Value.int .u8)).toArray w := loads h2 fun i hi => by
                rw [ha (by omega), add_addr]
                exact h3 i hi
              simp only [hx, Sem.run_bind, r_und hs, r_und ht, r_und he, Result.andThen_ok]
              rw [run_bytesToString w a len cap ns hload, foldl_bytes]
              exact ⟨_, rfl, by simp [RelV]⟩
          · cases hv
        · cases hv
      · cases hv
    · cases hv
  · cases hv
end

end Go.Hl
