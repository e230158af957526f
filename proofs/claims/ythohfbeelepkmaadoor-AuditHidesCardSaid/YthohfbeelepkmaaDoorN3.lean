/- dialtoneref40: SameTotal, SamePath, Same. -/
import Derived.Test.YthohfbeelepkmaaDoorM3
namespace Go.Proofs.YthohfbeelepkmaaDoor
open Go.RowKit Go.Shelf

set_option maxHeartbeats 1000000 in
theorem SameTotal_calls (v u : Value) (l m : List Int) (d e : ByteArray) (w : World) (hv : Ints w v .i64 l) (hu : Ints w u .i64 m) :
    Calls Tryd.prog 23 #[.agg #[v, .string d], .agg #[u, .string e]] w fun r w' => r = .returned (.bool (decide (d = e) && decide (l = m))) ∧ Below w.heap.size w w' := by
  have hI := fun W (h : Below w.heap.size w W) => Ints_calls v u l m W (hv.below h) (hu.below h)
  have hB2 := below_alloc (below_one w (.cells #[v, .string d] 35)) (.cells #[u, .string e] 35)
  have hI2 := hI _ hB2
  obtain ⟨_, A, cap, rfl, _⟩ := hv.openD
  obtain ⟨_, A2, cap2, rfl, _⟩ := hu.openD
  have HB2 := Lib.hid hB2
  clear hI hv hu hB2
  by_cases hde : d = e
  · subst hde
    rw [show (decide (d = d) && decide (l = m)) = decide (l = m) by simp]
    generalize decide (l = m) = bb at *
    go_enter Tryd.func23, Tryd.ntmps23
    go_wp2_with fail
    refine hI2.mono ?_
    rintro r w1 ⟨rfl, hb1⟩
    have HB3 := Lib.hid (below_then HB2.out hb1)
    clear hb1
    go_wp2_with fail
    go_ret
    exact ⟨rfl, HB3.out⟩
  · have h1 : (d.toList == e.toList) = false := by rw [← beq_toListBytes, beq_bytes]; simpa using hde
    rw [show (decide (d = e) && decide (l = m)) = false by simp [hde]]
    clear hI2
    go_enter Tryd.func23, Tryd.ntmps23
    clear hde
    go_wp2_with fail
    go_ret
    exact ⟨rfl, HB2.out⟩

/-- Two totals are one. -/
def sameT (t u : TT) : Bool := decide (t.2 = u.2) && decide (t.1 = u.1)
theorem sameT_iff (t u : TT) : sameT t u = true ↔ t = u := by
  obtain ⟨a, b⟩ := t
  obtain ⟨c, d⟩ := u
  simp only [sameT, Bool.and_eq_true, decide_eq_true_eq, Prod.mk.injEq]
  exact ⟨fun h => ⟨h.2, h.1⟩, fun h => ⟨h.2, h.1⟩⟩

theorem Pth.openD {w : World} {v : Value} {L : List TT} (h : Pth w v L) : L.length ≤ 140737488355328 ∧ ∃ A cap, v = .slice A L.length cap ∧ L.length ≤ cap ∧
    ∀ k (hk : k < L.length), ∃ b off x, A = some ⟨b, off, none⟩ ∧ b < w.heap.size ∧ w.cell? ⟨b, off + k * 2, none⟩ = some x ∧ w.cell? ⟨b, off + k * 2 + 1, none⟩ = some (.string L[k].2) ∧ Ints w x .i64 L[k].1 := by
  obtain ⟨L', rfl, ⟨_, hl, A, cap, e, hc, hat⟩, hi⟩ := h
  simp only [List.length_map] at *
  refine ⟨hl, A, cap, e, hc, fun k hk => ?_⟩
  obtain ⟨b, off, rfl, hb, hcell⟩ := hat (by omega)
  have hg : (L'.map fun p => [p.1, Value.string p.2.2])[k]? = some [L'[k].1, .string L'[k].2.2] := by simp [hk]
  refine ⟨b, off, L'[k].1, rfl, hb, ?_, ?_, ?_⟩
  · have := hcell k 0 _ _ hg rfl
    simpa using this
  · have := hcell k 1 _ _ hg rfl
    simpa using this
  · simpa using hi _ (List.getElem_mem hk)

set_option maxHeartbeats 2000000 in
set_option maxRecDepth 100000 in
theorem SamePath_calls (v u : Value) (L M : List TT) (w : World) (hv : Pth w v L) (hu : Pth w u M) :
    Calls Tryd.prog 55 #[v, u] w fun e w' => e = .returned (.bool (decide (L = M))) ∧ Below w.heap.size w w' := by
  obtain ⟨hlen, A, cap, rfl, hcap, hat⟩ := hv.openD
  obtain ⟨hlen2, A2, cap2, rfl, hcap2, hat2⟩ := hu.openD
  have hlt0 : L.length < 9223372036854775808 := by omega
  have hlt1 : M.length < 9223372036854775808 := by omega
  clear hv hu
  by_cases hlm : L.length = M.length
  · rw [← hlm]
    have HLM := Lib.hid hlm
    clear hlm
    go_enter Tryd.func55, Tryd.ntmps55
    go_wp2
    go_loopw [5] (fun s5 wr => ∃ k : Nat, k ≤ L.length ∧ s5 = .int .i64 k ∧ Aside (Below w.heap.size w wr ∧ L.take k = M.take k)) (fun s5 _ => L.length - (intOf s5).toNat)
    case atStart => exact ⟨0, Nat.zero_le _, rfl, Below.refl _ _, rfl⟩
    case round =>
      obtain ⟨k, hk, rfl, hB⟩ := hrel
      by_cases hlt : k < L.length
      · obtain ⟨b, off, x, rfl, hb1, c0, c1, hi1⟩ := hat k hlt
        obtain ⟨b2, off2, y, rfl, hb2, d0, d1, hi2⟩ := hat2 k (by have := HLM.out; omega)
        have hBb := hB.out.1
        replace c0 := (hBb.cell (p := ⟨b, _, none⟩) hb1).trans c0
        replace c1 := (hBb.cell (p := ⟨b, _, none⟩) hb1).trans c1
        replace d0 := (hBb.cell (p := ⟨b2, _, none⟩) hb2).trans d0
        replace d1 := (hBb.cell (p := ⟨b2, _, none⟩) hb2).trans d1
        have hlk : L[k]? = some L[k] := List.getElem?_eq_getElem hlt
        have hkM : k < M.length := by have := HLM.out; omega
        have hmk : M[k]? = some M[k] := List.getElem?_eq_getElem hkM
        have HLK := Lib.hid hlk
        have HMK := Lib.hid hmk
        have hC := fun W (h : Below w.heap.size w W) => SameTotal_calls x y L[k].1 M[k].1 L[k].2 M[k].2 W (hi1.below h) (hi2.below h)
        obtain ⟨_, Ax, cx, rfl, _⟩ := hi1.openD
        obtain ⟨_, Ay, cy, rfl, _⟩ := hi2.openD
        clear hlk hmk hat hat2 hi1 hi2
        generalize L[k] = t at *
        generalize M[k] = t' at *
        obtain ⟨tl, td⟩ := t
        obtain ⟨tl', td'⟩ := t'
        dsimp only at c0 c1 d0 d1 hC
        generalize tl.length = nx at *
        generalize tl'.length = ny at *
        have hC0 := hC wr.drew (below_drew hBb)
        generalize hbb : (decide (td = td') && decide (tl = tl')) = bb at hC0
        have HBB := Lib.hid hbb
        have HC := Lib.hid hC0
        have k0 : (0 : Int) ≤ (k : Int) := by omega
        have HLB := Lib.hid (show b < wr.drew.heap.size from Nat.lt_of_lt_of_le hb1 hBb.size)
        have HLB2 := Lib.hid (show b2 < wr.drew.heap.size from Nat.lt_of_lt_of_le hb2 hBb.size)
        clear hbb hC hC0 hBb
        go_wp2_with fail
        go_region_held3 (fun w' => w'.cell? ⟨b, off + k * 2, none⟩ = some (.slice Ax nx cx) ∧ w'.cell? ⟨b, off + k * 2 + 1, none⟩ = some (.string td) ∧ w'.cell? ⟨b2, off2 + k * 2, none⟩ = some (.slice Ay ny cy) ∧ w'.cell? ⟨b2, off2 + k * 2 + 1, none⟩ = some (.string td')) (first | (exact ⟨(hq0.cell (p := ⟨b, _, none⟩) HLB.out).trans c0, (hq0.cell (p := ⟨b, _, none⟩) HLB.out).trans c1, (hq0.cell (p := ⟨b2, _, none⟩) HLB2.out).trans d0, (hq0.cell (p := ⟨b2, _, none⟩) HLB2.out).trans d1⟩) | go_keep)
          (first | (go_at_call 23; ((with_reducible refine (HC.out).mono ?_)); rintro e w1 ⟨rfl, hq0⟩; have hq := below_then (below_drew hB.out.1) hq0))
        have HQ := Lib.hid hq
        clear c0 c1 d0 d1 hq hq0
        cases bb with
        | true =>
          have hcd : ((tl, td) : TT) = (tl', td') := (sameT_iff (tl, td) (tl', td')).1 HBB.out
          have htk : L.take (k + 1) = M.take (k + 1) := by
            rw [List.take_add_one, List.take_add_one, HLK.out, HMK.out, hB.out.2, hcd]
          have HT := Lib.hid htk
          clear htk hcd HLK HMK
          go_wp2
          go_roundw
          case measure => simp [intOf]; omega
          case rel => exact ⟨k + 1, by omega, by go_num, HQ.out, HT.out⟩
        | false =>
          have hne : decide (L = M) = false := by
            simp only [decide_eq_false_iff_not]
            rintro rfl
            have := HLK.out.symm.trans HMK.out
            simp only [Option.some.injEq] at this
            have h2 := (sameT_iff (tl, td) (tl', td')).2 this
            have h3 : sameT (tl, td) (tl', td') = false := HBB.out
            rw [h3] at h2; cases h2
          have HNE := Lib.hid hne
          clear hne
          go_wp2
          go_ret
          exact ⟨by rw [HNE.out]; rfl, HQ.out⟩
      · have hkl : k = L.length := by omega
        subst hkl
        clear hat hat2
        have he : decide (L = M) = true := by
          have := hB.out.2
          rw [List.take_length, HLM.out, List.take_length] at this
          simpa using this
        have HE := Lib.hid he
        clear he
        go_wp2
        go_ret
        exact ⟨by rw [HE.out]; rfl, hB.out.1⟩
  · have he : L ≠ M := fun h => hlm (congrArg List.length h)
    rw [show decide (L = M) = false by simp [he]]
    have hli : (L.length : Int) ≠ (M.length : Int) := by omega
    clear hat hat2
    go_enter Tryd.func55, Tryd.ntmps55
    go_wp2
    go_ret
    exact ⟨rfl, Below.refl _ _⟩

set_option maxHeartbeats 2000000 in
set_option maxRecDepth 100000 in
/-- Accounts of one customer with one salt. -/
theorem Same_calls (cu : Int) (salt : ByteArray) (vC vD vP vQ : Value) (C D : List Ch) (L M : List TT) (w : World) (hC : Chs w vC C) (hD : Chs w vD D) (hP : Pth w vP L) (hQ : Pth w vQ M) :
    Calls Tryd.prog 28 #[.agg #[.int .i64 cu, vC, .string salt, vP], .agg #[.int .i64 cu, vD, .string salt, vQ]] w fun e w' => e = .returned (.bool (sameL C D && decide (L = M))) ∧ Below w.heap.size w w' := by
  have hB2 := below_alloc (below_one w (.cells #[.int .i64 cu, vC, .string salt, vP] 51)) (.cells #[.int .i64 cu, vD, .string salt, vQ] 51)
  have hS := fun W (h : Below w.heap.size w W) => SameCharges_calls vC vD C D W (hC.below h) (hD.below h)
  have hT := fun W (h : Below w.heap.size w W) => SamePath_calls vP vQ L M W (hP.below h) (hQ.below h)
  obtain ⟨A1, a1, rfl⟩ := hC.slice
  obtain ⟨A2, a2, rfl⟩ := hD.slice
  obtain ⟨A3, a3, rfl⟩ := hP.slice
  obtain ⟨A4, a4, rfl⟩ := hQ.slice
  have hS2 := hS _ hB2
  have HG : ∀ W, Below ((w.alloc (.cells #[.int .i64 cu, .slice A1 C.length a1, .string salt, .slice A3 L.length a3] 51)).alloc (.cells #[.int .i64 cu, .slice A2 D.length a2, .string salt, .slice A4 M.length a4] 51)).heap.size ((w.alloc (.cells #[.int .i64 cu, .slice A1 C.length a1, .string salt, .slice A3 L.length a3] 51)).alloc (.cells #[.int .i64 cu, .slice A2 D.length a2, .string salt, .slice A4 M.length a4] 51)) W →
      W.cell? ⟨w.heap.size, 3, none⟩ = some (.slice A3 L.length a3) ∧ W.cell? ⟨w.heap.size + 1, 3, none⟩ = some (.slice A4 M.length a4) := fun W h => by
    refine ⟨(h.cell (p := ⟨w.heap.size, 3, none⟩) (by simp only [World.size_alloc]; omega)).trans ?_, (h.cell (p := ⟨w.heap.size + 1, 3, none⟩) (by simp only [World.size_alloc]; omega)).trans ?_⟩
    · refine cellA ?_ _
      unfold World.cell?; rw [heap_new]; rfl
    · have := heap_new (w.alloc (.cells #[.int .i64 cu, .slice A1 C.length a1, .string salt, .slice A3 L.length a3] 51)) (.cells #[.int .i64 cu, .slice A2 D.length a2, .string salt, .slice A4 M.length a4] 51)
      rw [World.size_alloc] at this
      unfold World.cell?; rw [this]; rfl
  have HB2 := Lib.hid hB2
  have HT := Lib.hid hT
  have HGG := Lib.hid HG
  generalize sameL C D = bb at *
  generalize decide (L = M) = bc at *
  clear hS hT hC hD hP hQ hB2 HG
  go_enter Tryd.func28, Tryd.ntmps28
  go_wp2_with fail
  refine hS2.mono ?_
  rintro r w1 ⟨rfl, hb1⟩
  clear hS2
  obtain ⟨q3, q4⟩ := HGG.out w1 hb1
  have HB3 := Lib.hid (below_then HB2.out hb1)
  have hT1 := HT.out w1 HB3.out
  clear hb1 HGG HT
  cases bb with
  | true =>
    go_wp2_with fail
    refine hT1.mono ?_
    rintro r w2 ⟨rfl, hb2⟩
    have HB4 := Lib.hid (below_then HB3.out hb2)
    clear hb2
    go_wp2_with fail
    go_ret
    exact ⟨by simp, HB4.out⟩
  | false =>
    clear hT1
    go_wp2_with fail
    go_ret
    exact ⟨by simp, HB3.out⟩
theorem Pth.openG {w : World} {v : Value} {L : List TT} (h : Pth w v L) : L.length ≤ 140737488355328 ∧ ∃ A cap, v = .slice A L.length cap ∧ L.length ≤ cap ∧
    ∀ k, k < L.length → ∃ b off x, A = some ⟨b, off, none⟩ ∧ b < w.heap.size ∧ w.cell? ⟨b, off + k * 2, none⟩ = some x ∧ w.cell? ⟨b, off + k * 2 + 1, none⟩ = some (.string (L.getD k ([], ⟨#[]⟩)).2) ∧ Ints w x .i64 (L.getD k ([], ⟨#[]⟩)).1 := by
  obtain ⟨h1, A, cap, h2, h3, h4⟩ := h.openD
  refine ⟨h1, A, cap, h2, h3, fun k hk => ?_⟩
  rw [show L.getD k ([], ⟨#[]⟩) = L[k] by rw [List.getD_eq_getElem?_getD, List.getElem?_eq_getElem hk]; rfl]
  exact h4 k hk
end Go.Proofs.YthohfbeelepkmaaDoor
