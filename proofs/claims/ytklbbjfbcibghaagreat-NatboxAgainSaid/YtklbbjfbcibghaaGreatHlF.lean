/- Part 6 of the library and the walks that the law's proof stands on: no condition. -/
import Derived.Test.YtklbbjfbcibghaaGreatHlE
section
namespace Go.Proofs.YtklbbjfbcibghaaGreat
open Go.Hl
set_option maxHeartbeats 8000000
variable {C : CallT} {h : H} {l l' l2 m : List Blk} {es es2 : List (Nat × Nat)} {bb bt : Nat} {o most : Int} {L : List En} {lb lb' lb2 : Option Nat}
set_option maxRecDepth 100000 in
/-- A conf with both tags makes the entry. -/
theorem natbox_Out_conf {a b now id mine : Int} {s : Bs} {p : Pk} {c : Ck} (hB : BoxIs l bb bt o most L lb) (hl : L.length ≤ 100000) (hm : most ≤ 100000) (hs : s.length ≤ 2000) (hG : getP s = (p, 0)) (hc : p.l = [c]) (ht : c.typ = 193) (hp : c.params.length ≤ 1000000)
    (hq : findP 49160 c.params = some ⟨49160, be4 id ++ (be4 mine ++ be4 p.tag)⟩) (h1 : 0 ≤ id ∧ id < 4294967296) (h2 : 0 ≤ mine ∧ mine < 4294967296) (h3 : 0 ≤ p.tag ∧ p.tag < 4294967296) (hm0 : mine ≠ 0) (ht0 : p.tag ≠ 0) (ha : (addN L most ⟨a, p.f, b, p.t, mine, p.tag, now⟩).1 = 0) :
    Ok (Does Tryz.prog C 9 [.ptr bb 0 0 2, .agg [.int .u32 a, .int .u32 b, .str s], .int .i64 now] ⟨l, es⟩) (BoxPost l es bb bt o most lb 1 o b s (addN L most ⟨a, p.f, b, p.t, mine, p.tag, now⟩).2) := by
  have hbb := lt_of_some hB.box
  have hbt := hB.tab.lt
  obtain ⟨⟨z1, z2⟩, hz, u, hu, ⟨m5, es5, he5, hes5⟩, w, l3, hw, hl3, hlc⟩ := packet_Get (C := C) (h := ⟨l ++ [⟨[.int .u32 a, .int .u32 b, .str s], 0, 0, false⟩, ⟨[.int .u32 0, .int .u32 0, .str []], 0, 0, false⟩], []⟩) s (by omega)
  rw [hG] at hu hw hlc
  simp only at hu he5 hl3
  subst hu he5 hw
  rw [hc] at hlc
  obtain ⟨e0, rfl⟩ : ∃ e0, l3 = [e0] := by
    match l3, hlc with
    | [e0], _ => exact ⟨e0, rfl⟩
  simp only [List.map_cons, List.map_nil, List.cons.injEq, and_true] at hlc
  subst hlc
  have hS := fun m => CksIs.app (es' := es5) hl3 m
  have hF := fun m => packet_First (C := C) (f := p.f) (t := p.t) (tag := p.tag) (ty := 193) (hS m) (by simp)
  have hfe : firstE [e0] 193 = e0 := by simp (dsimp := false) [firstE, ht]
  have hhe : hasE [e0] 193 = true := by simp (dsimp := false) [hasE, ht]
  have c0 := hl3.el e0 (by simp)
  have f0 := (CkIs.app (es' := es5) c0 [default]).facts
  have f0' := (CkIs.app (es' := es5) c0 [default, default]).facts
  have hFi := fun m => param_Find (C := C) (typ := 49160) (Sl.app (es' := es5) (m := m) c0.sp) hp
  rw [hq] at hFi
  have hf := hl3.sl.facts
  obtain ⟨q, qf, hia, -, hfa, hrf⟩ := (hS [⟨[.int .i64 p.f, .int .i64 p.t, .int .u32 p.tag, w], 0, 0, false⟩]).sl.atF El.cells_len
  have hia := hia 0 (by simp)
  have hfa := hfa 0 (by simp)
  have hr0' := hrf 0 (by simp) 0 (by decide) _ (Ext.refl _)
  simp only [List.getElem_cons_zero, El.cells, Ck.cells, ht] at hr0'
  have hT := fun h => as_tags (C := C) (h := h) h1 h2 h3 hm0 ht0
  generalize be4 id ++ (be4 mine ++ be4 p.tag) = val at *
  obtain ⟨⟨x1, x2⟩, hx, l1, es1, lb1, heq, hB1, hK1, hE1⟩ := natbox_again (C := C) (s := s) (es := es5) (w := w) (k := [e0]) (hB.app ([⟨[.int .u32 a, .int .u32 b, .str s], 0, 0, false⟩, ⟨[.int .u32 0, .int .u32 0, .str []], 0, 0, false⟩] ++ (m5 ++ [⟨[.int .i64 p.f, .int .i64 p.t, .int .u32 p.tag, w], 0, 0, false⟩, ⟨e0.cells, 0, 0, false⟩, ⟨[.int .i64 49160, .str val], 0, 0, false⟩]))) hl hm (by
    have := hS [⟨[.int .i64 p.f, .int .i64 p.t, .int .u32 p.tag, w], 0, 0, false⟩, ⟨e0.cells, 0, 0, false⟩, ⟨[.int .i64 49160, .str val], 0, 0, false⟩]
    simpa using this) ha
  obtain ⟨rfl, rfl⟩ := Prod.mk.inj heq
  have hlb : lb ≠ some (l.length + 1) := fun h => by have := hB.tab.llt h; omega
  have gR : l1[l.length + 1]? = some ⟨[.int .u32 0, .int .u32 0, .str []], 0, 0, false⟩ := by
    rw [hK1.2.1 (l.length + 1) (by simp) (by omega) hlb]
    simp
  have gl := lt_of_some gR
  have gS : ∀ X, (l1.set (l.length + 1) X)[l.length + 1]? = some X := fun X => List.getElem?_set_self gl
  simp only [hfe, hhe, El.cells, Ck.cells, Pm.cells, Option.getD_some, Option.isSome_some] at hF hFi hx
  simp (dsimp := false) [ht] at hz hf f0 f0' hia hr0' hF hFi hx
  refine Does_wp (n := 122) (rs := [.tmp 6, .cell 7 37]) Tryz.func9 (by kernel_rfl) rfl rfl rfl (by simp) fun σ hg => ?_
  simp (dsimp := false) [hg, hz, hf, hia, hfa, hr0', hF, f0, f0', hFi, hT, hx, gR, gS, splice]
  exact box_done hbb hbt hB1 hK1 (fun c hc => by
    rcases hE1 c hc with h | h
    · exact .inl h
    · exact .inr (List.mem_append_right _ h)) (by omega) (by simp) (fun c hc => hB.tab.llt hc)
set_option maxRecDepth 100000 in
/-- What has an entry passes. -/
theorem natbox_Out_pass {a b now : Int} {s : Bs} {p : Pk} {c : Ck} {cl : List Ck} {n : Nat} {x : En} (hB : BoxIs l bb bt o most L lb) (hl : L.length ≤ 100000) (hs : s.length ≤ 2000) (hG : getP s = (p, 0)) (hc : p.l = c :: cl) (ht : c.typ ≠ 1) (h193 : hasC p.l 193 = false)
    (hn : outN L ⟨a, p.f, b, p.t, p.tag, p.tag, now⟩ (mirroredP p.l) = n) (hx : L[n]? = some x) :
    Ok (Does Tryz.prog C 9 [.ptr bb 0 0 2, .agg [.int .u32 a, .int .u32 b, .str s], .int .i64 now] ⟨l, es⟩) (BoxPost l es bb bt o most lb 1 o b s (L.set n { x with seen := now })) := by
  have hbb := lt_of_some hB.box
  have hbt := hB.tab.lt
  obtain ⟨⟨z1, z2⟩, hz, u, hu, ⟨m5, es5, he5, hes5⟩, w, l3, hw, hl3, hlc⟩ := packet_Get (C := C) (h := ⟨l ++ [⟨[.int .u32 a, .int .u32 b, .str s], 0, 0, false⟩, ⟨[.int .u32 0, .int .u32 0, .str []], 0, 0, false⟩], []⟩) s (by omega)
  have hfew := getP_few s
  rw [hG] at hu hw hlc hfew
  simp only at hu he5 hl3 hfew
  subst hu he5 hw
  rw [← hlc] at hfew h193
  rw [← hasE_map] at h193
  have hl3n : l3.length ≤ 20 := by simpa using hfew
  have hS := fun m => CksIs.app (es' := es5) hl3 m
  have hM := fun m => packet_Mirrored (C := C) (f := p.f) (t := p.t) (tag := p.tag) (hS m)
  rw [hlc] at hM
  have hF := fun m => packet_First (C := C) (f := p.f) (t := p.t) (tag := p.tag) (ty := 193) (hS m) (by omega)
  have hEt := fun m => natbox_entry (C := C) (a := a) (b := b) (f := p.f) (t := p.t) (tag := p.tag) (now := now) (s := s) (hS m)
  have c193 : CkIs _ (firstE l3 193).c _ _ _ _ := firstE_ok (ty := 193) hl3.el
  have f193 := (CkIs.app (es' := es5) c193 [default]).facts
  have f193' := (CkIs.app (es' := es5) c193 [default, default]).facts
  rw [hc] at hlc
  obtain ⟨e0, k, rfl⟩ : ∃ e0 k, l3 = e0 :: k := by
    cases l3 with
    | nil => simp at hlc
    | cons e0 k => exact ⟨e0, k, rfl⟩
  simp only [List.map_cons, List.cons.injEq] at hlc
  obtain ⟨rfl, -⟩ := hlc
  have hf := hl3.sl.facts
  obtain ⟨q, qf, hia, -, hfa, hrf⟩ := (hS [⟨[.int .i64 p.f, .int .i64 p.t, .int .u32 p.tag, w], 0, 0, false⟩]).sl.atF El.cells_len
  have hia := hia 0 (by simp)
  have hfa := hfa 0 (by simp)
  have hr0' := hrf 0 (by simp) 0 (by decide) _ (Ext.refl _)
  simp only [List.getElem_cons_zero, El.cells, Ck.cells] at hr0'
  have hb := fun m => at_old (m := m) hB.box
  have hO := fun m => nattab_Outward (C := C) (es := es5) (e := ⟨a, p.f, b, p.t, p.tag, p.tag, now⟩) (b := mirroredP p.l) (hB.tab.app m) (by omega)
  rw [hn] at hO
  obtain ⟨⟨y1, y2⟩, hy, l1, heq, hT1, hK1, hll⟩ := nattab_Touch (C := C) (now := now) (es := es5) (hB.tab.app (⟨[.int .u32 a, .int .u32 b, .str s], 0, 0, false⟩ :: ⟨[.int .u32 0, .int .u32 0, .str []], 0, 0, false⟩ :: (m5 ++ [⟨[.int .i64 p.f, .int .i64 p.t, .int .u32 p.tag, w], 0, 0, false⟩, ⟨(firstE (e0 :: k) 193).cells, 0, 0, false⟩, ⟨(⟨a, p.f, b, p.t, p.tag, p.tag, now⟩ : En).cells, 0, 0, false⟩]))) hx hl
  obtain ⟨rfl, rfl⟩ := Prod.mk.inj heq
  have hB1 := Kept.box (hB.app _) hK1 hT1
  have hlb : lb ≠ some l.length ∧ lb ≠ some (l.length + 1) := ⟨fun h => Nat.lt_irrefl _ (hB.tab.llt h), fun h => by have := hB.tab.llt h; omega⟩
  have gD : l1[l.length]? = some ⟨[.int .u32 a, .int .u32 b, .str s], 0, 0, false⟩ := by
    rw [hK1.2.1 l.length (by simp) (by omega) hlb.1]
    simp
  have gR : l1[l.length + 1]? = some ⟨[.int .u32 0, .int .u32 0, .str []], 0, 0, false⟩ := by
    rw [hK1.2.1 (l.length + 1) (by simp) (by omega) hlb.2]
    simp
  have gl := lt_of_some gR
  have gS : ∀ X, (l1.set (l.length + 1) X)[l.length + 1]? = some X := fun X => List.getElem?_set_self gl
  have hP := natbox_pass (C := C) (es := es5) (a := a) (b := b) (s := s) hB1.box
  simp only [El.cells, Ck.cells, h193] at hF
  unfold En.cells at hEt hO
  simp (dsimp := false) [El.cells, Ck.cells, En.cells] at hz hf f193 f193' hia hr0' hM hF hEt hy
  refine Does_wp (n := 122) (rs := [.tmp 6, .cell 7 37]) Tryz.func9 (by kernel_rfl) rfl rfl rfl (by simp) fun σ hg => ?_
  simp (dsimp := false) [hg, hz, hf, hia, hfa, hr0', ht, hF, f193, f193', h193, hEt, splice]
  refine (W_anyF (F := [(3, 5)]) (by kernel_rfl)).2 ?_
  simp (dsimp := false) [hg, splice]
  refine (W_anyF (F := [(3, 6), (4, 6)]) (by kernel_rfl)).2 ?_
  simp (dsimp := false) [hg, hb, hf, hM, hO, hy, gD, gR, gS, hP, splice]
  exact box_done hbb hbt hB1 hK1 (fun c hc => .inl (by have := hT1.llt hc; omega)) (by omega) (by simp) (fun c hc => hB.tab.llt hc)
end Go.Proofs.YtklbbjfbcibghaaGreat
end
section
namespace Go.Proofs.YtklbbjfbcibghaaGreat
open Go.Hl
set_option maxHeartbeats 8000000
theorem put_one {f t g : Int} {c : Ck} (hf : 1 ≤ f ∧ f < 65536) (ht : 1 ≤ t ∧ t < 65536) (hg : 1 ≤ g) (hm : c.may = true) (h1 : c.typ ≠ 1) (hl : c.put.length ≤ 1388) : ∃ s : Bs, s.length = 12 + c.put.length ∧ putP f t g [c] = sealL s 8 := by
  have ht' : togetherP f t g [c] = true := by
    unfold togetherP
    rw [if_neg (by simp only [List.length_cons, List.length_nil]; omega), if_neg (by simp)]
    have e1 : ¬ (g = 0) := by omega
    simp (dsimp := false) [e1, h1]
  have hh : (headB f t g).length = 12 := rfl
  have hp : [c].flatMap Ck.put = c.put := by simp
  refine ⟨headB f t g ++ c.put, by rw [List.length_append, hh], ?_⟩
  unfold putP
  rw [ht', if_neg (by simp), putGo_some [c] _ (by
    intro x hx
    rw [List.mem_singleton.1 hx]
    exact hm) (by rw [hp, hh]; omega), hp]
/-- A packet of one chunk is put down, and read again. -/
theorem one_back {f t g : Int} {c : Ck} (hf : 1 ≤ f ∧ f < 65536) (ht : 1 ≤ t ∧ t < 65536) (hg : 1 ≤ g ∧ g < 4294967296) (hm : c.may = true) (h1 : c.typ ≠ 1) (hl : c.put.length ≤ 1388) (hfl : c.flags < 9223372036854775808) (hu : Ck.U32 c) :
    putP f t g [c] ≠ [] ∧ getP (putP f t g [c]) = (⟨f, t, g, [c]⟩, 0) ∧ (putP f t g [c]).length ≤ 1400 := by
  obtain ⟨s, hs, hp⟩ := put_one hf ht hg.1 hm h1 hl
  have hsl := sealL_len (s := s) (k := 8) (by omega)
  have hn : putP f t g [c] ≠ [] := by
    rw [hp]
    intro h
    rw [h] at hsl
    simp at hsl
    omega
  refine ⟨hn, putP_back (fun x hx => ?_) ⟨by omega, hg.2⟩ hn, by rw [hp, hsl]; omega⟩
  rw [List.mem_singleton.1 hx]
  exact ⟨hfl, hu⟩
def beatC (x : UInt8) : Ck := { ck0 with typ := 4, data := [x] }
theorem odd_04 : decide (IntKind.i64.wrap (oddBits 0 4) = 0) = true := by decide
theorem odd_39 : decide (IntKind.i64.wrap (oddBits 3 9) = 0) = true := by decide
theorem odd_0193 : decide (IntKind.i64.wrap (oddBits 0 193) = 0) = true := by decide
theorem beat_may (x : UInt8) : (beatC x).may = true := by
  unfold Ck.may Ck.lists Ck.body Ck.plain Ck.same
  simp (dsimp := false) [beatC, ck0, isInit, isErr, isConf, isBare, isBeat, word, rising, risingL, Pm.put, Pm.may, filled, be2_len, padN]
  exact odd_04
theorem beat_put (x : UInt8) : (beatC x).put.length ≤ 1388 := by
  unfold Ck.put
  rw [if_pos (beat_may x), filled_len]
  simp (dsimp := false) [beatC, ck0, Ck.body, isInit, isErr, isConf, isBare, isBeat, Pm.put, Pm.may, filled, be2_len, padN]
theorem said_put_len {s : Bs} : (putAll (saidC 9 3 177 s).causes).length ≤ 48 := by
  have hv : (s.take 40).length ≤ 40 := by
    simp
    omega
  have hm : Pm.may ⟨177, s.take 40⟩ = true := by
    unfold Pm.may
    simp only [Bool.and_eq_true, decide_eq_true_eq]
    omega
  have : putAll (saidC 9 3 177 s).causes = Pm.put ⟨177, s.take 40⟩ := by simp (dsimp := false) [putAll, saidC]
  rw [this]
  unfold Pm.put
  rw [if_pos hm, filled_len]
  simp only [List.length_append, be2_len, padN]
  omega
theorem said_may {s : Bs} : (saidC 9 3 177 s).may = true := by
  have hv : (s.take 40).length ≤ 40 := by
    simp
    omega
  have hm : Pm.may ⟨177, s.take 40⟩ = true := by
    unfold Pm.may
    simp only [Bool.and_eq_true, decide_eq_true_eq]
    omega
  have hb := said_put_len (s := s)
  have hbl : (saidC 9 3 177 s).body = putAll (saidC 9 3 177 s).causes := rfl
  unfold Ck.may
  rw [hbl]
  generalize (putAll (saidC 9 3 177 s).causes).length = n at *
  have h1 : (saidC 9 3 177 s).lists = true := by
    unfold Ck.lists saidC
    simp (dsimp := false) [hm, ck0]
  have h2 : (saidC 9 3 177 s).same (saidC 9 3 177 s).plain = true := by
    unfold Ck.same Ck.plain
    simp (dsimp := false) [saidC, ck0, isInit, isErr]
  rw [h1, h2]
  have hn : n ≤ 65531 := by omega
  simp (dsimp := false) [saidC, ck0, isInit, word, rising, risingL, hn]
  exact odd_39
theorem said_put {s : Bs} : (saidC 9 3 177 s).put.length ≤ 1388 := by
  have hb := said_put_len (s := s)
  have hbl : (saidC 9 3 177 s).body = putAll (saidC 9 3 177 s).causes := rfl
  unfold Ck.put
  rw [if_pos said_may, filled_len, hbl]
  simp only [List.length_append, be2_len, padN, List.length_cons, List.length_nil]
  omega
/-- Both tags. -/
def confC (mine yours : Int) : Ck := { ck0 with typ := 193, tsn := 5, params := [⟨49160, be4 5 ++ (be4 mine ++ be4 yours)⟩] }
theorem conf_put_len {mine yours : Int} : (putAll (confC mine yours).params).length = 16 := by
  have hm : Pm.may ⟨49160, be4 5 ++ (be4 mine ++ be4 yours)⟩ = true := by
    unfold Pm.may
    simp (dsimp := false) [be4_len]
  have : putAll (confC mine yours).params = Pm.put ⟨49160, be4 5 ++ (be4 mine ++ be4 yours)⟩ := by simp (dsimp := false) [putAll, confC]
  rw [this]
  unfold Pm.put
  rw [if_pos hm, filled_len]
  simp (dsimp := false) [be2_len, be4_len, padN]
theorem conf_may {mine yours : Int} : (confC mine yours).may = true := by
  have hm : Pm.may ⟨49160, be4 5 ++ (be4 mine ++ be4 yours)⟩ = true := by
    unfold Pm.may
    simp (dsimp := false) [be4_len]
  have hb := conf_put_len (mine := mine) (yours := yours)
  have hbl : (confC mine yours).body = be4 5 ++ putAll (confC mine yours).params := rfl
  have hbn : (confC mine yours).body.length = 20 := by
    rw [hbl, List.length_append, hb, be4_len]
  unfold Ck.may
  have h1 : (confC mine yours).lists = true := by
    unfold Ck.lists confC
    simp (dsimp := false) [hm, ck0]
  have h2 : (confC mine yours).same (confC mine yours).plain = true := by
    unfold Ck.same Ck.plain
    simp (dsimp := false) [confC, ck0, isInit, isErr, isConf]
  rw [h1, h2, hbn]
  simp (dsimp := false) [confC, ck0, isInit, word, rising, risingL]
  exact odd_0193
theorem conf_put {mine yours : Int} : (confC mine yours).put.length ≤ 1388 := by
  have hb := conf_put_len (mine := mine) (yours := yours)
  have hbl : (confC mine yours).body = be4 5 ++ putAll (confC mine yours).params := rfl
  unfold Ck.put
  rw [if_pos conf_may, filled_len, hbl]
  simp only [List.length_append, be2_len, be4_len, padN, List.length_cons, List.length_nil]
  omega
theorem beat_u (x : UInt8) : Ck.U32 (beatC x) := by simp (dsimp := false) [Ck.U32, beatC, ck0]
theorem said_u {s : Bs} : Ck.U32 (saidC 9 3 177 s) := by simp (dsimp := false) [Ck.U32, saidC, ck0]
theorem conf_u {mine yours : Int} : Ck.U32 (confC mine yours) := by simp (dsimp := false) [Ck.U32, confC, ck0]
end Go.Proofs.YtklbbjfbcibghaaGreat
end
section
namespace Go.Proofs.YtklbbjfbcibghaaGreat
open Go.Hl
set_option maxHeartbeats 16000000
variable {h : H} {l : List Blk} {es : List (Nat × Nat)}
theorem or_1u {x : Int} (h0 : 0 ≤ x) (h1 : x < 4294967296) : ∃ m : Nat, 1 ≤ m ∧ m < 4294967296 ∧ bitsOp .or .u32 x 1 = some (m : Int) := by
  obtain ⟨n, rfl⟩ : ∃ n : Nat, x = (n : Int) := ⟨x.toNat, by omega⟩
  have e1 : (BitVec.ofInt 32 1).toNat = 1 := by decide
  have e2 : (BitVec.ofInt 32 (n : Int)).toNat = n := by
    simp
    omega
  have h : (BitVec.ofInt 32 (n : Int) ||| BitVec.ofInt 32 1).toNat = n ||| 1 := by rw [BitVec.toNat_or, e1, e2]
  have h1 : n ||| 1 < 4294967296 := Nat.or_lt_two_pow (n := 32) (by omega) (by decide)
  refine ⟨n ||| 1, Nat.right_le_or, h1, ?_⟩
  show some (IntKind.u32.wrap ((BitVec.ofInt 32 (n : Int) ||| BitVec.ofInt 32 1).toNat : Int)) = _
  rw [h, wrap_u32 (by omega)]
theorem put_beat {x : UInt8} {f t g : Int} : Does Tryz.prog putC 8 [.agg [.int .i64 f, .int .i64 t, .int .u32 g, .sl l.length 0 1 0 15 false]] ⟨l ++ [⟨(beatC x).cells .nils .nils .nils .nils, 0, 0, false⟩], es⟩ = some (.str (putP f t g [beatC x]), ⟨l ++ [⟨(beatC x).cells .nils .nils .nils .nils, 0, 0, false⟩], es⟩) := by
  have hk : CksIs ⟨l ++ [⟨(beatC x).cells .nils .nils .nils .nils, 0, 0, false⟩], es⟩ [⟨beatC x, .nils, .nils, .nils, .nils⟩] (.sl l.length 0 1 0 15 false) :=
    ⟨.inr ⟨_, _, _, _, ⟨(beatC x).cells .nils .nils .nils .nils, 0, 0, false⟩, rfl, by simp, Nat.le_refl 0, Nat.le_refl 0, by simp (dsimp := false) [El.cells, Ck.cells], by simp (dsimp := false) [El.cells, Ck.cells]⟩, by
      intro e he
      rw [List.mem_singleton.1 he]
      exact ⟨Sl.nil _ 2, Sl.nil _ 2, Sl.nil _ 2, Sl.nil _ 1⟩⟩
  have hP := rdoc7_Put (f := f) (t := t) (tag := g) hk (show 1 ≤ 1000000 by decide) (by
    intro e he
    rw [List.mem_singleton.1 he]
    exact ⟨by simp (dsimp := false) [beatC, ck0], by simp (dsimp := false) [beatC, ck0], by simp (dsimp := false) [beatC, ck0], by simp (dsimp := false) [beatC, ck0], by simp (dsimp := false) [beatC]⟩) (by
    intro e he g hg
    rw [List.mem_singleton.1 he] at hg
    cases hg)
  have e1 : [(⟨beatC x, .nils, .nils, .nils, .nils⟩ : El)].map El.c = [beatC x] := rfl
  rw [e1, putP_eq (by
    intro c hc
    rw [List.mem_singleton.1 hc]
    exact show (0 : Int) < 9223372036854775808 by decide)] at hP
  exact hP
theorem put_conf {f t g mine yours : Int} : Does Tryz.prog putC 8 [.agg [.int .i64 f, .int .i64 t, .int .u32 g, .sl (l.length + 1) 0 1 0 15 false]] ⟨l ++ [⟨[.int .i64 49160, .str (be4 5 ++ (be4 mine ++ be4 yours))], 0, 0, false⟩, ⟨(confC mine yours).cells (.sl l.length 0 1 0 2 false) .nils .nils .nils, 0, 0, false⟩], es⟩ =
    some (.str (putP f t g [confC mine yours]), ⟨l ++ [⟨[.int .i64 49160, .str (be4 5 ++ (be4 mine ++ be4 yours))], 0, 0, false⟩, ⟨(confC mine yours).cells (.sl l.length 0 1 0 2 false) .nils .nils .nils, 0, 0, false⟩], es⟩) := by
  have hk : CksIs ⟨l ++ [⟨[.int .i64 49160, .str (be4 5 ++ (be4 mine ++ be4 yours))], 0, 0, false⟩, ⟨(confC mine yours).cells (.sl l.length 0 1 0 2 false) .nils .nils .nils, 0, 0, false⟩], es⟩ [⟨confC mine yours, .sl l.length 0 1 0 2 false, .nils, .nils, .nils⟩] (.sl (l.length + 1) 0 1 0 15 false) :=
    ⟨.inr ⟨_, _, _, _, ⟨(confC mine yours).cells (.sl l.length 0 1 0 2 false) .nils .nils .nils, 0, 0, false⟩, rfl, by simp, Nat.le_refl 0, Nat.le_refl 0, by simp (dsimp := false) [El.cells, Ck.cells], by simp (dsimp := false) [El.cells, Ck.cells]⟩, by
      intro e he
      rw [List.mem_singleton.1 he]
      exact ⟨.inr ⟨_, _, _, _, ⟨[.int .i64 49160, .str (be4 5 ++ (be4 mine ++ be4 yours))], 0, 0, false⟩, rfl, by simp, Nat.le_refl 0, Nat.le_refl 0, by simp (dsimp := false) [confC, Pm.cells], by simp (dsimp := false) [confC, Pm.cells]⟩, Sl.nil _ 2, Sl.nil _ 2, Sl.nil _ 1⟩⟩
  have hP := rdoc7_Put (f := f) (t := t) (tag := g) hk (show 1 ≤ 1000000 by decide) (by
    intro e he
    rw [List.mem_singleton.1 he]
    exact ⟨by simp (dsimp := false) [confC], by simp (dsimp := false) [confC, ck0], by simp (dsimp := false) [confC, ck0], by simp (dsimp := false) [confC, ck0], by simp (dsimp := false) [confC, ck0]⟩) (by
    intro e he g hg
    rw [List.mem_singleton.1 he] at hg
    cases hg)
  have e1 : [(⟨confC mine yours, .sl l.length 0 1 0 2 false, .nils, .nils, .nils⟩ : El)].map El.c = [confC mine yours] := rfl
  rw [e1, putP_eq (by
    intro c hc
    rw [List.mem_singleton.1 hc]
    exact show (0 : Int) < 9223372036854775808 by decide)] at hP
  exact hP
set_option maxRecDepth 100000 in
theorem natboxAgain_row {a b : Int} (ha : (Lit.int .u32 a).wf = true) (hb : (Lit.int .u32 b).wf = true) :
    Ok (Does Tryz.prog putC 3 [.int .u32 a, .int .u32 b] h) fun x => x.1 = .bool true := by
  simp (dsimp := false) [Lit.wf, IntKind.min, IntKind.max, IntKind.bits, IntKind.signed] at ha hb
  obtain ⟨mi, m1, m2, m3⟩ := or_1u (x := a) (by omega) (by omega)
  obtain ⟨yo, y1, y2, y3⟩ := or_1u (x := b) (by omega) (by omega)
  have mi0 : ¬ (mi : Int) = 0 := by omega
  have yo0 : ¬ (yo : Int) = 0 := by omega
  -- the packets
  obtain ⟨n1, g1, k1⟩ := one_back (f := 5) (t := 7) (g := (yo : Int)) (c := beatC 120) (by omega) (by omega) (by omega) (beat_may 120) (by decide) (beat_put 120) (by decide) (beat_u 120)
  obtain ⟨s1, hs1⟩ : ∃ s, s = putP 5 7 (yo : Int) [beatC 120] := ⟨_, rfl⟩
  rw [← hs1] at n1 g1 k1
  obtain ⟨n2, g2, k2⟩ := one_back (f := 7) (t := 5) (g := (yo : Int)) (c := saidC 9 3 177 s1) (by omega) (by omega) (by omega) said_may (show (9 : Int) ≠ 1 by decide) said_put (show (3 : Int) < 9223372036854775808 by decide) said_u
  obtain ⟨s2, hs2⟩ : ∃ s, s = putP 7 5 (yo : Int) [saidC 9 3 177 s1] := ⟨_, rfl⟩
  rw [← hs2] at n2 g2 k2
  obtain ⟨n3, g3, k3⟩ := one_back (f := 5) (t := 7) (g := (yo : Int)) (c := confC mi yo) (by omega) (by omega) (by omega) conf_may (show (193 : Int) ≠ 1 by decide) conf_put (show (0 : Int) < 9223372036854775808 by decide) conf_u
  obtain ⟨s3, hs3⟩ : ∃ s, s = putP 5 7 (yo : Int) [confC mi yo] := ⟨_, rfl⟩
  rw [← hs3] at n3 g3 k3
  obtain ⟨n4, g4, k4⟩ := one_back (f := 7) (t := 5) (g := (mi : Int)) (c := beatC 121) (by omega) (by omega) (by omega) (beat_may 121) (by decide) (beat_put 121) (by decide) (beat_u 121)
  obtain ⟨s4, hs4⟩ : ∃ s, s = putP 7 5 (mi : Int) [beatC 121] := ⟨_, rfl⟩
  rw [← hs4] at n4 g4 k4
  -- the first packet has no entry
  have hN := natbox_New (C := putC) (h := ⟨h.blks, []⟩) (o := 100) (n := 9) (by decide) (by decide)
  have hB0 : BoxIs (h.blks ++ [⟨[.int .i64 9, .nils], 0, 0, false⟩, ⟨[.int .u32 100, .ptr h.blks.length 0 0 2], 0, 0, false⟩]) (h.blks.length + 1) h.blks.length 100 9 [] none := ⟨by simp, by omega, by simp, by simp, rfl⟩
  have hP1 := put_beat (l := h.blks ++ [⟨[.int .i64 9, .nils], 0, 0, false⟩, ⟨[.int .u32 100, .ptr h.blks.length 0 0 2], 0, 0, false⟩]) (es := []) (x := 120) (f := 5) (t := 7) (g := (yo : Int))
  rw [← hs1] at hP1
  obtain ⟨⟨x1, x2⟩, hx1, l1, es1, lb1, heq1, hB1, hK1, hE1⟩ := natbox_Out_answer (C := putC) (a := 1) (b := 9) (now := 5) (s := s1) (r := s2) (es := []) (hB0.app [⟨(beatC 120).cells .nils .nils .nils .nils, 0, 0, false⟩]) (by simp) (by omega) g1 rfl (by decide) rfl rfl rfl (show (-1 : Int) < 0 by decide) hs2.symm n2
  obtain ⟨rfl, rfl⟩ := Prod.mk.inj heq1
  -- its answer
  obtain ⟨⟨x1, x2⟩, hG, u, hu, ⟨m6, es6, he6, hes6⟩, w, l4, hw, hl4, hlc⟩ := rdoc7_Get (C := putC) (h := ⟨l1 ++ [⟨[.int .u32 9, .int .u32 1, .str s2], 0, 0, false⟩], es1⟩) s2 (by omega)
  rw [getP_eq, g2] at hu hw hlc
  simp only at hu he6 hl4
  subst hu he6 hw
  have h41 : l4.length = 1 := by
    have := congrArg List.length hlc
    rw [List.length_map] at this
    exact this
  obtain ⟨e4, rfl⟩ := List.length_eq_one_iff.1 h41
  have hlc : e4.c = saidC 9 3 177 s1 := (List.cons.inj hlc).1
  obtain ⟨⟨x1, x2⟩, haw, hb7, m7, es7, he7⟩ := awake12 (h := ⟨l1 ++ (⟨[.int .u32 9, .int .u32 1, .str s2], 0, 0, false⟩ :: (m6 ++ [⟨[.int .i64 7, .int .i64 5, .int .u32 yo, w], 0, 0, false⟩])), es1 ++ es6⟩)
  simp only at hb7 he7
  subst hb7 he7
  have hS := CksIs.app (es' := es7) hl4 (⟨[.int .i64 7, .int .i64 5, .int .u32 yo, w], 0, 0, false⟩ :: m7)
  have hf := hl4.sl.facts
  obtain ⟨q, qf, hia, -, hfa, hrf⟩ := hS.sl.atF El.cells_len
  have hia := hia 0 (by simp)
  have hfa := hfa 0 (by simp)
  have r0 := hrf 0 (by simp) 0 (by decide) _ (Ext.refl _)
  have r1 := hrf 0 (by simp) 1 (by decide) _ (Ext.refl _)
  have r12 := hrf 0 (by simp) 12 (by decide) _ (Ext.refl _)
  simp only [List.getElem_cons_zero, El.cells, Ck.cells, hlc] at r0 r1 r12
  have hsc := (hS.el e4 (by simp)).sc
  rw [hlc] at hsc
  have hcl := hsc.len Tryz.underlying28
  obtain ⟨cq, cf, cia, -, cfa, crf⟩ := Sl.atF (l := (saidC 9 3 177 s1).causes) hsc Pm.cells_len
  have cia := cia 0 (by simp (dsimp := false) [saidC])
  have cfa := cfa 0 (by simp (dsimp := false) [saidC])
  have cr0 := crf 0 (by simp (dsimp := false) [saidC]) 0 (by decide) _ (Ext.refl _)
  simp (dsimp := false) [saidC, Pm.cells] at cia cr0 hcl r0 r1 r12
  simp (dsimp := false) [beatC, ck0, Ck.cells] at hN hP1 hx1 hG haw hf hia
  have hF := fun x h => law_four (C := putC) (x := x) (h := h)
  refine Does_wp (n := 158) (rs := [.tmp 4]) Tryz.func3 (by kernel_rfl) rfl rfl rfl (by simp) fun σ hg => ?_
  simp (dsimp := false) [hg, splice, m3, y3, hN, hP1, hx1, hG, haw, hf, hia, hfa, r0, r1, r12, hcl, cia, cfa, cr0, hF]
  -- a conf with both tags
  have e5 : be4 5 ++ (be4 (mi : Int) ++ be4 (yo : Int)) = 0 :: 0 :: 0 :: 5 :: (be4 (mi : Int) ++ be4 (yo : Int)) := rfl
  have hP3 := put_conf (l := l1 ++ (⟨[.int .u32 9, .int .u32 1, .str s2], 0, 0, false⟩ :: (m6 ++ (⟨[.int .i64 7, .int .i64 5, .int .u32 yo, w], 0, 0, false⟩ :: (m7 ++ [⟨[.int .i64 49160, .str (0 :: 0 :: 0 :: 5 :: (be4 (mi : Int) ++ be4 (yo : Int)))], 0, 0, false⟩]))))) (es := es7) (f := 5) (t := 7) (g := (yo : Int)) (mine := mi) (yours := yo)
  rw [← hs3, e5] at hP3
  have i1 : (l1 ++ (⟨[.int .u32 9, .int .u32 1, .str s2], 0, 0, false⟩ :: (m6 ++ (⟨[.int .i64 7, .int .i64 5, .int .u32 yo, w], 0, 0, false⟩ :: (m7 ++ [(⟨[.int .i64 49160, .str (0 :: 0 :: 0 :: 5 :: (be4 (mi : Int) ++ be4 (yo : Int)))], 0, 0, false⟩ : Blk)]))))).length + 1 = l1.length + (m6.length + (m7.length + 2 + 1) + 1) := by
    simp
    omega
  rw [i1] at hP3
  simp (dsimp := false) [confC, ck0, Ck.cells] at hP3
  simp (dsimp := false) [hg, splice, be4_len, hP3]
  have hA2 : addN [] 9 ⟨1, 5, 9, 7, mi, yo, 6⟩ = (0, [⟨1, 5, 9, 7, mi, yo, 6⟩]) := by
    unfold addN
    rw [if_neg mi0]
    rfl
  obtain ⟨⟨x1, x2⟩, hx2, l2, es2, lb2, heq2, hB2, hK2, hE2⟩ := natbox_Out_conf (C := putC) (a := 1) (b := 9) (now := 6) (id := 5) (mine := mi) (s := s3) (es := es7) (hB1.app (⟨[.int .u32 9, .int .u32 1, .str s2], 0, 0, false⟩ :: (m6 ++ (⟨[.int .i64 7, .int .i64 5, .int .u32 yo, w], 0, 0, false⟩ :: (m7 ++ [⟨[.int .i64 49160, .str (0 :: 0 :: 0 :: 5 :: (be4 (mi : Int) ++ be4 (yo : Int)))], 0, 0, false⟩, ⟨[.int .i64 49160, .str (0 :: 0 :: 0 :: 5 :: (be4 (mi : Int) ++ be4 (yo : Int)))], 0, 0, false⟩, ⟨(confC mi yo).cells (.sl (l1.length + (m6.length + (m7.length + 1 + 1) + 1)) 0 1 0 2 false) .nils .nils .nils, 0, 0, false⟩]))))) (by simp) (by decide) (by omega) g3 rfl rfl (by simp (dsimp := false) [confC]) rfl (by decide) ⟨by omega, by omega⟩ ⟨show (0 : Int) ≤ (yo : Int) by omega, show (yo : Int) < 4294967296 by omega⟩ mi0 yo0 (by simp only [hA2])
  obtain ⟨rfl, rfl⟩ := Prod.mk.inj heq2
  simp only [hA2] at hB2
  simp (dsimp := false) [confC, ck0, Ck.cells] at hx2
  have o3 : outN [⟨1, 5, 9, 7, mi, yo, 6⟩] ⟨1, 5, 9, 7, yo, yo, 7⟩ (mirroredP [beatC 120]) = ((0 : Nat) : Int) := by
    have : mirroredP [beatC 120] = false := by decide
    rw [this]
    simp (dsimp := false) [outN, idxN]
    omega
  obtain ⟨⟨x1, x2⟩, hx3, l3, es3, lb3, heq3, hB3, hK3, hE3⟩ := natbox_Out_pass (C := putC) (a := 1) (b := 9) (now := 7) (s := s1) (es := es7 ++ es2) (n := 0) (x := ⟨1, 5, 9, 7, mi, yo, 6⟩) (hB2.app [⟨[.int .u32 100, .int .u32 9, .str s3], 0, 0, false⟩]) (by simp) (by omega) g1 rfl (by decide) rfl o3 rfl
  obtain ⟨rfl, rfl⟩ := Prod.mk.inj heq3
  simp at hx3
  have hP4 := put_beat (l := l3 ++ [⟨[.int .u32 100, .int .u32 9, .str s1], 0, 0, false⟩]) (es := (es7 ++ es2) ++ es3) (x := 121) (f := 7) (t := 5) (g := (mi : Int))
  rw [← hs4] at hP4
  simp (dsimp := false) [beatC, ck0, Ck.cells] at hP4
  have o4 : inN [⟨1, 5, 9, 7, mi, yo, 7⟩] ⟨0, 5, 9, 7, mi, mi, 0⟩ (mirroredP [beatC 121]) = ((0 : Nat) : Int) := by
    have : mirroredP [beatC 121] = false := by decide
    rw [this]
    simp (dsimp := false) [inN, idxN]
  obtain ⟨⟨x1, x2⟩, hx4, l4, es4, lb4, heq4, hB4, hK4, hE4⟩ := natbox_In (C := putC) (a := 9) (s := s4) (n := 0) (y := ⟨1, 5, 9, 7, mi, yo, 7⟩) (es := (es7 ++ es2) ++ es3) (hB3.app [⟨[.int .u32 100, .int .u32 9, .str s1], 0, 0, false⟩, ⟨(beatC 121).cells .nils .nils .nils .nils, 0, 0, false⟩]) (by simp) (by omega) g4 rfl (by decide) mi0 o4 rfl
  obtain ⟨rfl, rfl⟩ := Prod.mk.inj heq4
  simp (dsimp := false) [beatC, ck0, Ck.cells] at hx4
  simp (dsimp := false) [hg, splice, hx2, hx3, hP4, hx4]
end Go.Proofs.YtklbbjfbcibghaaGreat
end
section
namespace Go.Proofs.YtklbbjfbcibghaaGreat
open Go.Hl
set_option maxHeartbeats 4000000
variable {X : Type} {enc : TypeId × Value → X} {W : World}
theorem list3 {cs : List Value} (h : cs.length = 3) : ∃ a b c, cs = [a, b, c] := by
  match cs, h with
  | [a, b, c], _ => exact ⟨a, b, c, rfl⟩
set_option maxRecDepth 100000 in
/-- A datagram that is handed in. -/
theorem open_datagram {ι : Map} {h : H} {r : Reach} {base : Nat} {v : Value} {d : DataW X} {ps : List MemPlace} (hval : Value.okWide Tryz.prog W r base 37 v) (hT : DataW.Trod enc Tryz.prog W 0 (fun _ => true) true 37 v d ps) :
    ∃ (a b : Int) (s : Bs), RelV ι h (.agg [.int .u32 a, .int .u32 b, .str s]) v ∧ (Lit.int .u32 a).wf = true ∧ (Lit.int .u32 b).wf = true := by
  obtain ⟨cs, rfl, hsz, ts, hts, -, hcell⟩ := agg_of (P := Tryz.prog) (t := 37) (by kernel_rfl) hval
  obtain ⟨fuel, hT⟩ := hT
  have hl3 : cs.toList.length = 3 := by
    rw [Array.length_toList, hsz]
    kernel_rfl
  obtain ⟨hl, n, hf⟩ := trod_flds (by kernel_rfl) hT
  obtain ⟨_, y0⟩ := hf 0 25 0 1 (by kernel_rfl)
  obtain ⟨_, y1⟩ := hf 1 25 1 1 (by kernel_rfl)
  obtain ⟨_, y2⟩ := hf 2 9 2 1 (by kernel_rfl)
  have hcl : (Value.agg cs).cells.toList = cs.toList := rfl
  rw [hcl] at y0 y1 y2
  obtain ⟨a0, e0, w0⟩ := int_leaf Tryz.underlying25 y0
  obtain ⟨a1, e1, w1⟩ := int_leaf Tryz.underlying25 y1
  obtain ⟨a2, e2, w2⟩ := str_leaf Tryz.underlying9 y2
  obtain ⟨v0, v1, v2, hv⟩ := list3 hl3
  have hcs : cs = #[v0, v1, v2] := by rw [← @Array.toArray_toList _ cs, hv]
  subst hcs
  simp only [List.getElem?_cons_zero, List.getElem?_cons_succ, Option.some.injEq] at e0 e1 e2
  subst e0 e1 e2
  exact ⟨a0, a1, a2, by simp (dsimp := false) [RelV, RelVs], w0, w1⟩
end Go.Proofs.YtklbbjfbcibghaaGreat
end
