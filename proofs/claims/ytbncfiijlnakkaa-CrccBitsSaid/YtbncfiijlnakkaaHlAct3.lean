import Derived.Test.YtbncfiijlnakkaaHlAct2
/-! Hl: append, make. -/
namespace Go.Hl
open Go.RowKit

section
variable {P : Program} {ι : Map} {base : Nat} {h : H} {w : World}

/-- There is room. -/
theorem append_room {t u ty e : TypeId} {i : TypeInfo} {ud : TypeDesc} {a : Addr} {sLen sCap m : Nat} {x : Value} {vs : List Value} (ht : P.underlying t = some (.slice e)) (hu : P.underlying u = some ud) (hud : isIntD ud = false) (hi : P.info? e = some i)
    (hlen : (Builtin.lenOf x).run P w = .ok m w) (hcells : (Builtin.firstCells i.size m x).run P w = .ok vs.toArray w) (hroom : sLen + m ≤ sCap) :
    (Builtin.append_ #[t, u] ty #[.slice (some a) sLen sCap, x]).run P w = ((storeCells (a.add (sLen * i.size)) vs).run P w).andThen fun _ w' => .ok (.slice (some a) (sLen + m) sCap) w' := by
  unfold Builtin.append_
  cases ud <;> first
    | (cases hud; done)
    | simp only [List.getElem?_toArray, List.getElem?_cons_zero, List.getElem?_cons_succ, Sem.run_bind, r_und ht, r_und hu, r_size hi, Result.andThen_ok, Sem.run_pure, Bool.false_eq_true, if_false, hlen, if_pos hroom, Bool.not_false, if_true, hcells]

/-- Nothing is appended. -/
theorem append_none {t u ty e : TypeId} {i : TypeInfo} {ud : TypeDesc} {base : Option Addr} {sLen sCap : Nat} {x : Value} {vs : List Value} (ht : P.underlying t = some (.slice e)) (hu : P.underlying u = some ud) (hud : isIntD ud = false) (hi : P.info? e = some i)
    (hlen : (Builtin.lenOf x).run P w = .ok 0 w) (hcells : (Builtin.firstCells i.size 0 x).run P w = .ok vs.toArray w) (hv : vs = []) (hroom : sLen ≤ sCap) :
    (Builtin.append_ #[t, u] ty #[.slice base sLen sCap, x]).run P w = .ok (.slice base sLen sCap) w := by
  subst hv
  unfold Builtin.append_
  cases ud <;> first
    | (cases hud; done)
    | (simp only [List.getElem?_toArray, List.getElem?_cons_zero, List.getElem?_cons_succ, Sem.run_bind, r_und ht, r_und hu, r_size hi, Result.andThen_ok, Sem.run_pure, Bool.false_eq_true, if_false, hlen, Nat.add_zero, if_pos hroom, Bool.not_false, if_true, hcells]
       cases base <;> simp [storeCells])

/-- There is none. -/
theorem append_away {t u ty e : TypeId} {i : TypeInfo} {z : Value} {ud : TypeDesc} {base : Option Addr} {sLen sCap m : Nat} {x : Value} {os vs : List Value} (ht : P.underlying t = some (.slice e)) (hu : P.underlying u = some ud) (hud : isIntD ud = false)
    (hi : P.info? e = some i) (hz : i.zero = some z)
    (hlen : (Builtin.lenOf x).run P w = .ok m w) (hold : (Builtin.firstCells i.size sLen (.slice base sLen sCap)).run P w.drew = .ok os.toArray w.drew) (hcells : (Builtin.firstCells i.size m x).run P w.drew = .ok vs.toArray w.drew)
    (hroom : sCap < sLen + m) (h63 : sLen + m ≤ 70368744177664) (h48 : (sLen + m) * i.bytes ≤ 70368744177664) :
    (Builtin.append_ #[t, u] ty #[.slice base sLen sCap, x]).run P w = .ok (.slice (some ⟨w.heap.size, 0, none⟩) (sLen + m) (grownCap w (sLen + m) sCap e))
      (w.drew.alloc (.cells (os.toArray ++ vs.toArray ++ Builtin.zeroCells z.cells (grownCap w (sLen + m) sCap e - (sLen + m))) e)) := by
  have h1 : ¬ (sLen + m ≤ sCap) := by omega
  have hmx : IntKind.i64.max = 9223372036854775807 := rfl
  have h2 : ¬ (((sLen + m : Nat) : Int) > IntKind.i64.max ∧ (False ∨ i.bytes = 0)) := by rw [hmx]; omega
  have hcap := nextslicecap_le hroom
  have h3 : ¬ (Builtin.nextslicecap (sLen + m) sCap * i.bytes > 2 ^ 48) := by
    have := Nat.mul_le_mul_right i.bytes hcap
    have e1 : 2 * (sLen + m) * i.bytes = 2 * ((sLen + m) * i.bytes) := Nat.mul_assoc _ _ _
    omega
  unfold Builtin.append_
  cases ud <;> first
    | (cases hud; done)
    | (simp only [List.getElem?_toArray, List.getElem?_cons_zero, List.getElem?_cons_succ, Sem.run_bind, r_und ht, r_und hu, r_size hi, r_info hi, Result.andThen_ok, Sem.run_pure, Bool.false_eq_true, if_false, hlen, if_neg h1, if_neg h2, if_neg h3, Bool.not_false, if_true]
       simp [hold, hcells, r_zero hi hz, Question.forced, newRow, grownCap]
       congr 2
       apply Array.ext'
       simp [List.append_assoc])

theorem zeroCells_size (z : Array Value) (n : Nat) : (Builtin.zeroCells z n).size = n * z.size := by simp [Builtin.zeroCells]

theorem fit_rel {us : List V} {vs : List Value} {C : Array Value} (hr : RelVs ι h us vs) (rest : Array Value) (hC : C = vs.toArray ++ rest) : RelVs ι h us (C.toList.take us.length) := by
  rw [hC, hr.length]
  simp only [Array.toList_append, List.take_left]
  exact hr

theorem act_append {o : Oper} {c : Call} {ρ : Operand → V} {ρ' : Operand → Value} {v : V} {h' : H} (ho : o.op = .call c) (hcal : c.callee = .builtin .append) (ha : actOp P o.op ρ h = some (v, h')) (hr : Rel ι base h w) (hρ : ∀ x, RelV ι h (ρ x) (ρ' x)) :
    Acts P ι base h h' w v ((execOp ρ' o).run P w) := by
  obtain ⟨callee, args, argTypes⟩ := c
  simp only at hcal
  subst hcal
  unfold actOp at ha
  simp only [ho] at ha
  have hres : (execOp ρ' o).run P w = ((Builtin.append_ argTypes o.type (args.map ρ')).run P w).andThen fun a w' => .ok (.value a) w' := by
    unfold execOp resolve invoke builtin
    simp only [ho, Sem.run_bind, Sem.run_pure, Result.andThen_ok]
  rw [hres]
  split at ha
  · rename_i s x t u hargs hats
    obtain ⟨args⟩ := args
    obtain ⟨argTypes⟩ := argTypes
    simp only at hargs hats
    subst hargs hats
    simp only [List.map_toArray, List.map_cons, List.map_nil]
    have hsv := hρ s
    split at ha
    · rename_i i hti
      obtain ⟨I, ut, z0, hI, hut, -, hd, -, -, -, -⟩ := ti_ok hti
      split at ha
      · rename_i e esz eb d hfs hud
        rw [hfs] at hd
        obtain ⟨rfl, E, hE, hEs, hEb⟩ := tyOf_slice hd
        split at ha
        · cases ha
        rename_i hnint
        have hnint : isIntD d = false := by simpa using hnint
        split at ha
        · rename_i j m ys hti' hsrc
          split at ha
          · cases ha
          rename_i hjz
          have hjz : j.zero.length = esz := by omega
          obtain ⟨vs, k1, k2, k3, k4, k5, k6⟩ := source_rel (P := P) hsrc hr (hρ x)
          rw [← hEs] at k3 k4
          split at ha
          · rename_i hm
            subst hm
            have hvs : vs = [] := List.eq_nil_of_length_eq_zero (by rw [k6, Nat.zero_mul])
            split at ha
            · rename_i hs
              injection ha with ha
              injection ha with ha hh
              subst ha hh
              rw [hs] at hsv
              simp only [RelV] at hsv
              rw [hsv, append_none hut hud hnint hE k1 k3 hvs (Nat.le_refl _)]
              exact ⟨_, w, ι, .inl rfl, by simp [RelV], hr, Agree.refl _ _, Below.refl _ _⟩
            · rename_i b off len ver ez lim hs
              injection ha with ha
              injection ha with ha hh
              subst ha hh
              rw [hs] at hsv
              have hsv' := hsv
              simp only [RelV] at hsv
              obtain ⟨a, cap, hsv, k, hk, hg, hez, hlc, hrest⟩ := hsv
              rw [hsv, append_none hut hud hnint hE k1 k3 hvs hlc]
              exact ⟨_, w, ι, .inl rfl, hsv ▸ hsv', hr, Agree.refl _ _, Below.refl _ _⟩
            · cases ha
          · rename_i hm
            split at ha
            · rename_i hb
              obtain ⟨hb1, hb2, hb3⟩ := hb
              have hbase := hr.base
              unfold appendTo at ha
              -- the zero of the element's type
              obtain ⟨J, ju, z, hJ, hju, hz, -, -, -, -, hjzero⟩ := ti_ok hti'
              rw [hE] at hJ
              injection hJ with hJ
              subst hJ
              have hzs : z.cells.size = esz := by rw [← hjz, hjzero]; simp
              split at ha
              · rename_i hs
                rw [hs] at hsv hb2 hb3
                simp only [RelV] at hsv
                simp only [lenV, Nat.zero_add] at hb2 hb3
                split at ha
                · injection ha with ha
                  injection ha with ha hh
                  subst ha hh
                  rw [hsv, append_away (os := []) hut hud hnint hE hz k1 (run_firstCells_none _ _ _ _ _) k4 (by omega) (by omega) (by rw [hEb]; simpa using hb2)]
                  simp only [Result.andThen_ok, Nat.zero_add]
                  generalize hgc : grownCap w m 0 e = cap
                  have hcap : m ≤ cap := hgc ▸ grownCap_ge _ _ _ _
                  have hyl : ys.length = m * esz := by rw [k5.length, k6]
                  have hm1 : m * esz + (cap - m) * esz = cap * esz := by rw [← Nat.add_mul]; congr 1; omega
                  have hsz : (([] : List Value).toArray ++ vs.toArray ++ Builtin.zeroCells z.cells (cap - m)).size = cap * esz := by
                    simp [zeroCells_size, k6, hzs, hm1]
                  obtain ⟨h1, h2⟩ := new_ok (cells := ys) (w' := w.drew.alloc (.cells (([] : List Value).toArray ++ vs.toArray ++ Builtin.zeroCells z.cells (cap - m)) e)) (cend := cap * esz) hr rfl (fun _ _ => by simp)
                    (fit_rel k5 (Builtin.zeroCells z.cells (cap - m)) (by simp)) (by omega) (by omega)
                  exact ⟨_, _, _, .inl rfl, sl_new hb1 hcap hyl, h1, h2, ((Below.refl base w).drew).alloc hr.base _⟩
                · cases ha
              · rename_i b off len ver ez hs
                rw [hs] at hsv hb2 hb3
                simp only [RelV] at hsv
                simp only [lenV] at hb2 hb3
                obtain ⟨a, cap0, hsv, k, hk, hg, hez, hlc, hlim, hlo, hle, hadr, hce⟩ := hsv
                have hcl := hlim rfl
                subst hcl
                split at ha
                · rename_i old hold
                  split at ha
                  · rename_i hok
                    obtain ⟨hok, rfl⟩ := hok
                    injection ha with ha
                    injection ha with ha hh
                    subst ha hh
                    obtain ⟨vo, o1, o2, o3⟩ := read_ok hr hold ⟨k, hk, hg⟩ hlo hle
                    have hcello : ∀ j v, vo[j]? = some v → w.cell? (a.add j) = some v := fun j v hv => by
                      have hlt := (List.getElem?_eq_some_iff.1 hv).1
                      have hl0 : cap0 ≠ 0 := by rintro rfl; rw [Nat.zero_mul] at o2; omega
                      rw [hadr hl0, add_addr, o3 j (by omega)]
                      exact hv
                    have holdr := run_firstCells_some (P := P) w.drew E.size cap0 a cap0 cap0 vo (by rw [hEs]; exact o2) (by simpa using hcello)
                    rw [hsv, append_away (os := vo) hut hud hnint hE hz k1 holdr k4 (by omega) (by omega) (by rw [hEb]; exact hb2)]
                    simp only [Result.andThen_ok]
                    generalize hgc : grownCap w (cap0 + m) cap0 e = cap
                    have hcap : cap0 + m ≤ cap := hgc ▸ grownCap_ge _ _ _ _
                    have hall : RelVs ι h (old ++ ys) (vo ++ vs) := o1.append k5
                    have hyl : (old ++ ys).length = (cap0 + m) * ez := by rw [hall.length, List.length_append, o2, k6, Nat.add_mul]
                    have hm1 : (cap0 + m) * ez + (cap - (cap0 + m)) * ez = cap * ez := by rw [← Nat.add_mul]; congr 1; omega
                    have hsz : (vo.toArray ++ vs.toArray ++ Builtin.zeroCells z.cells (cap - (cap0 + m))).size = cap * ez := by
                      simp [zeroCells_size, k6, o2, hzs]
                      rw [← hm1, Nat.add_mul]
                    obtain ⟨h1, h2⟩ := new_ok (cells := old ++ ys) (w' := w.drew.alloc (.cells (vo.toArray ++ vs.toArray ++ Builtin.zeroCells z.cells (cap - (cap0 + m))) e)) (cend := cap * ez) hr rfl (fun _ _ => by simp)
                      (fit_rel hall (Builtin.zeroCells z.cells (cap - (cap0 + m))) (by simp)) (by omega) (by omega)
                    exact ⟨_, _, _, .inl rfl, sl_new hb1 hcap hyl, h1, h2, ((Below.refl base w).drew).alloc hr.base _⟩
                  · cases ha
                · cases ha
              · rename_i b off len ver ez hs
                rw [hs] at hsv hb2 hb3
                simp only [RelV] at hsv
                simp only [lenV] at hb2 hb3
                obtain ⟨a, cap0, hsv, k, hk, hg, hez, hlc, hlim, hlo, hle, hadr, hce⟩ := hsv
                have hce := hce rfl
                rw [hk] at ha
                simp only at ha
                have hbk := hr.blk b k hk
                have htop := hbk.top
                split at ha
                · rename_i heq
                  subst heq
                  split at ha
                  · rename_i hend
                    cases hgw : h.grow b ver ys with
                    | none => simp [hgw] at ha
                    | some h1 =>
                      simp only [hgw, Option.map_some, Option.some.injEq, Prod.mk.injEq] at ha
                      obtain ⟨rfl, rfl⟩ := ha
                      obtain ⟨k', hk', hro, hver, hok, hblks, -⟩ := H.grow_some hgw
                      rw [hk] at hk'
                      injection hk' with hk'
                      subst hk'
                      subst hver
                      have hends := hbk.ends k.gen (Nat.le_refl _)
                      have hyl : ys.length = m * ez := by rw [k5.length, k6]
                      have hnew : h1.blks[b]? = some { k with cells := k.cells ++ ys, gen := k.gen + 1 } := by rw [hblks]; exact (set_get _ hk).2 (.inl ⟨rfl, rfl⟩)
                      have hlm : off + (len + m) * ez = k.cells.length + ys.length := by rw [Nat.add_mul]; omega
                      by_cases hroom : len + m ≤ cap0
                      · have hcm : (len + m) * ez ≤ cap0 * ez := Nat.mul_le_mul_right _ hroom
                        have ha0 := hadr (by omega)
                        obtain ⟨g1, g2, g3⟩ := grow_here P hr hgw k5 hk (by omega)
                        rw [hsv, append_room hut hud hnint hE k1 k3 hroom]
                        rw [ha0, add_addr]
                        rw [show (ι b k.gen).r + (off - (ι b k.gen).lo) + len * E.size = (ι b k.gen).r + (k.cells.length - (ι b k.gen).lo) by rw [hEs]; omega]
                        rw [g1]
                        simp only [Result.andThen_ok]
                        refine ⟨_, _, _, .inl rfl, ?_, g2, agree_grow hgw _, g3⟩
                        simp only [RelV]
                        refine ⟨_, cap0, rfl, _, hnew, Nat.le_refl _, hez, hroom, fun hx => (by cases hx), ?_, ?_, fun _ => ?_, fun _ => ?_⟩
                        · rw [Map.set_self]; exact hlo
                        · rw [Map.set_self]; simp only; omega
                        · rw [Map.set_self]
                        · rw [Map.set_self]; exact hce
                      · obtain ⟨vo, o1, o2, o3⟩ := read_ok (n := len * ez) hr (show h.read b off k.gen (len * ez) = some ((k.cells.drop off).take (len * ez)) by unfold H.read; rw [hk]; simp only; rw [if_pos ⟨hbk.val, Nat.le_refl _⟩]) ⟨k, hk, hg⟩ hlo hle
                        have hcello : ∀ j v, vo[j]? = some v → w.cell? (a.add j) = some v := fun j v hv => by
                          have hlt := (List.getElem?_eq_some_iff.1 hv).1
                          have hl0 : cap0 ≠ 0 := by
                            rintro rfl
                            have : len = 0 := by omega
                            subst this
                            rw [Nat.zero_mul] at o2
                            omega
                          rw [hadr hl0, add_addr, o3 j (by omega)]
                          exact hv
                        have holdr := run_firstCells_some (P := P) w.drew E.size len a len cap0 vo (by rw [hEs]; exact o2) (by simpa using hcello)
                        rw [hsv, append_away (os := vo) hut hud hnint hE hz k1 holdr k4 (by omega) (by omega) (by rw [hEb]; exact hb2)]
                        simp only [Result.andThen_ok]
                        generalize hgc : grownCap w (len + m) cap0 e = cap
                        have hcap : len + m ≤ cap := hgc ▸ grownCap_ge _ _ _ _
                        have htake : (k.cells.drop off).take (len * ez) = k.cells.drop off := List.take_of_length_le (by simp; omega)
                        rw [htake] at o1
                        have hall : RelVs ι h (k.cells.drop off ++ ys) (vo ++ vs) := o1.append k5
                        have hm1 : (len + m) * ez + (cap - (len + m)) * ez = cap * ez := by rw [← Nat.add_mul]; congr 1; omega
                        have hsz : (vo.toArray ++ vs.toArray ++ Builtin.zeroCells z.cells (cap - (len + m))).size = cap * ez := by
                          simp [zeroCells_size, k6, o2, hzs]
                          rw [← hm1, Nat.add_mul]
                        have hg2 := grow_away (w' := w.drew.alloc (.cells (vo.toArray ++ vs.toArray ++ Builtin.zeroCells z.cells (cap - (len + m))) e)) (off := off) (cend := off + cap * ez) hr hgw hk (by omega) rfl
                          (by have := fit_rel hall _ (show (vo.toArray ++ vs.toArray ++ Builtin.zeroCells z.cells (cap - (len + m))) = (vo ++ vs).toArray ++ Builtin.zeroCells z.cells (cap - (len + m)) by simp)
                              rwa [show (k.cells.drop off ++ ys).length = k.cells.length - off + ys.length by simp] at this) (by omega) (by omega)
                        refine ⟨_, _, _, .inl rfl, ?_, hg2, agree_grow hgw _, ((Below.refl base w).drew).alloc hr.base _⟩
                        simp only [RelV]
                        refine ⟨_, cap, rfl, _, hnew, Nat.le_refl _, hez, hcap, fun hx => (by cases hx), ?_, ?_, fun _ => ?_, fun _ => ?_⟩
                        · rw [Map.set_self]; exact Nat.le_refl _
                        · rw [Map.set_self]; simp only; omega
                        · rw [Map.set_self]; simp
                        · rw [Map.set_self]
                  · split at ha
                    · rename_i hin
                      cases hgw : h.write b (off + len * ez) ver ys with
                      | none => simp [hgw] at ha
                      | some h1 =>
                        simp only [hgw, Option.map_some, Option.some.injEq, Prod.mk.injEq] at ha
                        obtain ⟨rfl, rfl⟩ := ha
                        obtain ⟨k', hk', hro, hver, hlen, hok, hblks, -⟩ := H.write_some hgw
                        rw [hk] at hk'
                        injection hk' with hk'
                        subst hk'
                        subst hver
                        have hends := hbk.ends k.gen (Nat.le_refl _)
                        have hcend := hends.2 hro
                        have hyl : ys.length = m * ez := by rw [k5.length, k6]
                        have hroom : len + m ≤ cap0 := by
                          have h1 : (len + m) * ez ≤ cap0 * ez := by omega
                          exact Nat.le_of_mul_le_mul_right h1 hez
                        have ha0 := hadr (by omega)
                        obtain ⟨g1, g2, g3, g4⟩ := write_ok P hr hgw (by omega) k5
                        rw [hsv, append_room hut hud hnint hE k1 k3 hroom]
                        rw [ha0, add_addr]
                        rw [show (ι b k.gen).r + (off - (ι b k.gen).lo) + len * E.size = (ι b k.gen).r + (off + len * ez - (ι b k.gen).lo) by rw [hEs]; omega]
                        rw [g1]
                        simp only [Result.andThen_ok]
                        refine ⟨_, _, ι, .inl rfl, ?_, g2, g3, g4⟩
                        simp only [RelV]
                        exact ⟨_, cap0, rfl, { k with cells := splice k.cells (off + len * ez) ys, valid := k.gen }, by rw [hblks]; exact (set_get _ hk).2 (.inl ⟨rfl, rfl⟩), Nat.le_refl _, hez, hroom, fun hx => (by cases hx), hlo, by omega, fun _ => rfl, fun _ => hce⟩
                    · cases ha
                · cases ha
              · cases ha
            · cases ha
        · cases ha
      · cases ha
    · cases ha
  · cases ha
end

end Go.Hl
