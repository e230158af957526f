/- dialtonelaw40.AuditGrows: the walk. -/
import Derived.Test.YthohfbeelepkmaaDoorM5
namespace Go.Proofs.YthohfbeelepkmaaDoor
open Go.RowKit Go.Shelf

set_option maxHeartbeats 40000000 in
set_option maxRecDepth 100000 in
theorem Grows_calls (key : Int) (v : Value) (X : List Five) (q : Five) (customer : Int) (w : World) (hkey : I64 key) (hv : Fives w v X) (hX : ∀ q ∈ X, q.ok) (hq : q.ok) (hcu : I64 customer) (hRd : Rd w) :
    Calls Tryd.prog 9 #[.int .i64 key, v, .agg q.cells.toArray, .int .i64 customer] w fun e w' => e = .returned (.bool true) ∧ Below w.heap.size w w' := by
  have hS := fun W (h : Below w.heap.size w W) => sane_calls W (hRd.below h)
  have hM := fun W (h : Below w.heap.size w W) => Made_calls key v X W hkey (hv.below h) hX
  have hval := madeValid key X
  have hok := madeL_ok X
  have hlen : (madeL X).length ≤ 10 := by simp [madeL]; omega
  obtain ⟨x0, x1, x2, x3, x4⟩ := q
  obtain ⟨y0, y1, y2, y3, y4⟩ := hq
  dsimp only at y0 y1 y2 y3 y4
  have hO := fun W => One_calls x0 x1 x2 x3 x4 W y0 y1 y2 y3 y4
  have hcok : (oneC x0 x1 x2 x3 x4).ok = true := oneC_ok ⟨x0, x1, x2, x3, x4⟩
  have hokM : okChs (madeL X ++ [oneC x0 x1 x2 x3 x4]) = true := by
    simp only [okChs, Bool.and_eq_true, decide_eq_true_eq, List.all_append, List.length_append] at hok ⊢
    refine ⟨by simp; omega, hok.2, by simp [hcok]⟩
  have hvalM : validB (keyL key) (madeL X ++ [oneC x0 x1 x2 x3 x4]) = true := by simp only [validB, hokM, keyL_size, Bool.and_true, decide_true]
  have hck := fun m (h : m < 64) => check_account (keyL key) hokM (cu := m) h
  have hr1 := root_sums (keyL key) hok
  have hr2 := root_sums (keyL key) hokM
  have hpl := pickI_bound customer 8 (by decide)
  have hPk := fun W => pickLaw_calls customer 8 W hcu.1 hcu.2 (by decide) (by decide)
  obtain ⟨m, hm⟩ := Int.eq_ofNat_of_zero_le hpl.1
  rw [hm] at hPk hpl
  have hm8 : m < 8 := by omega
  clear hm hpl hcu
  generalize keyL key = KB at *
  generalize madeL X = l at *
  generalize oneC x0 x1 x2 x3 x4 = ch at *
  have hca := Ch.ok_facts hcok
  obtain ⟨c0, c1, c2, c3, c4⟩ := ch
  dsimp only at hca
  simp only [Ch.val, Ch.cells] at hO
  have HOK := Lib.hid hok
  have HOKM := Lib.hid hokM
  have HVAL := Lib.hid hval
  have HVALM := Lib.hid hvalM
  have HCK := Lib.hid hck
  have HR1 := Lib.hid hr1
  have HR2 := Lib.hid hr2
  have HRD := Lib.hid hRd
  have HM := Lib.hid hM
  have HLEN := Lib.hid hlen
  have HCA := Lib.hid hca
  have HM8 := Lib.hid hm8
  have HS := Lib.hid hS
  have HO := Lib.hid hO
  have HPK := Lib.hid hPk
  clear hok hokM hval hvalM hck hr1 hr2 hRd hM hlen hca hm8 hS hO hPk hcok hv hX hkey y0 y1 y2 y3 y4
  obtain ⟨W0, hW0⟩ : ∃ W0, W0 = w.alloc (.cells #[.int .i64 x0, .int .i64 x1, .int .i64 x2, .int .i64 x3, .int .i64 x4] 68) := ⟨_, rfl⟩
  have h6 : W0.heap[w.heap.size]? = some (.cells #[.int .i64 x0, .int .i64 x1, .int .i64 x2, .int .i64 x3, .int .i64 x4] 68 (0, 0)) := by rw [hW0]; exact heap_new w _
  have HB0 : Hid (Below w.heap.size w W0) := Lib.hid (by rw [hW0]; exact below_one w _)
  have HF0 : ∀ W, Below W0.heap.size W0 W → (W.cell? ⟨w.heap.size, 0, none⟩ = some (.int .i64 x0) ∧ W.cell? ⟨w.heap.size, 1, none⟩ = some (.int .i64 x1) ∧ W.cell? ⟨w.heap.size, 2, none⟩ = some (.int .i64 x2) ∧ W.cell? ⟨w.heap.size, 3, none⟩ = some (.int .i64 x3) ∧ W.cell? ⟨w.heap.size, 4, none⟩ = some (.int .i64 x4)) := fun W h => by
    have hq := (h.block _ (Array.getElem?_eq_some_iff.1 h6).1).trans h6
    refine ⟨?_, ?_, ?_, ?_, ?_⟩ <;> (unfold World.cell?; rw [hq]; rfl)
  have HW0 := Lib.hid hW0
  clear h6 hW0
  simp only [Five.cells]
  go_enter Tryd.func9, Tryd.ntmps9
  go_wp2_with fail
  rw [← HW0.out] at *
  refine (HS.out W0 HB0.out).mono ?_
  rintro e w1 ⟨rfl, hb1⟩
  have HB1 := Lib.hid (below_then HB0.out hb1)
  have HX1 := Lib.hid hb1
  clear hb1
  go_wp2_with fail
  refine (HM.out w1 HB1.out).mono ?_
  rintro e w2 ⟨A, n, c, rfl, hC, hb2⟩
  obtain ⟨_, cc, ecc⟩ := hC.slice
  simp only [Value.slice.injEq] at ecc
  obtain ⟨rfl, rfl, rfl⟩ := ecc
  obtain ⟨W2, hW2⟩ : ∃ W2, W2 = w2.alloc (.cells #[.string KB, .slice A l.length c] 26) := ⟨_, rfl⟩
  have hbx : Below w1.heap.size w1 W2 := by rw [hW2]; exact below_alloc hb2 _
  have HX2 := Lib.hid (below_then HX1.out hbx)
  have HB2 := Lib.hid (below_then HB1.out hbx)
  have HG10 : Hid (W2.heap[w2.heap.size]? = some (.cells #[.string KB, .slice A l.length c] 26 (0, 0))) := Lib.hid (by rw [hW2]; exact heap_new w2 _)
  have HC2 : Hid (Chs W2 (.slice A l.length c) l) := Lib.hid (by rw [hW2]; exact hC.below (below_one w2 _))
  have HW2 := Lib.hid hW2
  obtain ⟨k0, k1, k2, k3, k4⟩ := HF0 W2 HX2.out
  rw [hW2] at k0 k1 k2 k3 k4
  clear hW2 hbx hC hb2
  go_wp2_with fail
  rw [← HW2.out] at *
  refine (HO.out W2).mono ?_
  rintro e w3 ⟨rfl, hb3⟩
  clear k0 k1 k2 k3 k4 HF0
  obtain ⟨W3, hW3⟩ : ∃ W3, W3 = w3.alloc (.cells #[.int .i64 c0, .int .i64 c1, .int .i64 c2, .int .i64 c3, .string c4] 30) := ⟨_, rfl⟩
  have hbx : Below W2.heap.size W2 W3 := by rw [hW3]; exact below_alloc hb3 _
  have HB3 := Lib.hid (below_then HB2.out hbx)
  have HG10' : Hid (W3.heap[w2.heap.size]? = some (.cells #[.string KB, .slice A l.length c] 26 (0, 0))) := Lib.hid ((hbx.block _ (Array.getElem?_eq_some_iff.1 HG10.out).1).trans HG10.out)
  have HG11 : Hid (W3.heap[w3.heap.size]? = some (.cells #[.int .i64 c0, .int .i64 c1, .int .i64 c2, .int .i64 c3, .string c4] 30 (0, 0))) := Lib.hid (by rw [hW3]; exact heap_new w3 _)
  have HC3 : Hid (Chs W3 (.slice A l.length c) l) := Lib.hid (HC2.out.below hbx)
  have HW3 := Lib.hid hW3
  clear hW3 hbx hb3 HG10 HC2
  go_wp2_with fail
  rw [← HW3.out] at *
  refine grow_region W3 w2.heap.size w3.heap.size l.length l c0 c1 c2 c3 c4 KB (.slice A l.length c) _ _ _ _ _ _ _ _ _ _ _ _ _ _ _ _ _ _ _ _ _ _ _ _ _ _ _ _ _ _ _ _ _ _ _ _ _ _ _ _ _ _ _ _ _ _ _ _ _ _ _ _ _ _ _ _ _ _ _ _ _ _ _ _ _ _ _ _ _ _ _ _ _ _ _ _ _ _ _ _ _ _ _ _ _ _ _ _ _ _ _ _ _ _ _ _ _ _ _ _ _ _ _ _ _ _ _ _ _ _ _ _ _ _ _ _ _ _ _ _ _ _ _ _ _ _ _ _ _ _ _ _ _ _ _ _ _ _ _ _ _ _ _ _ _ _ _ _ _ _ _ _ _ _ _ _ _ _ _ _ _ _ _ _ _ _ _ _ _ _ _ _ _ HG10'.out HG11.out HC3.out rfl (by have := HLEN.out; omega) ?_
  intro w4 b v' v32 v33 v34 v35 v36 v37 v38 v39 v40 v41 v12 e12 h12 hge hCM hb4
  subst e12
  obtain ⟨AM, cM, rfl⟩ := hCM.slice
  have HB4 := Lib.hid (below_then HB3.out hb4)
  have h10 := (hb4.block _ (Array.getElem?_eq_some_iff.1 HG10'.out).1).trans HG10'.out
  have h11 := (hb4.block _ (Array.getElem?_eq_some_iff.1 HG11.out).1).trans HG11.out
  have hCL := HC3.out.below hb4
  have hRd4 := HRD.out.below HB4.out
  have hSl := fun W (h : Below w4.heap.size w4 W) => Seal_calls KB A _ c l W (hCL.below h) HVAL.out (hRd4.below h)
  have hSm := fun W (h : Below w4.heap.size w4 W) => Seal_calls KB AM _ cM _ W (hCM.below h) HVALM.out (hRd4.below h)
  have hAl := fun W (h : Below w4.heap.size w4 W) => Account_gen KB _ l m W (hCL.below h) HVAL.out (by have := HM8.out; omega) (hRd4.below h)
  have hAm := fun W (h : Below w4.heap.size w4 W) => Account_gen KB _ _ m W (hCM.below h) HVALM.out (by have := HM8.out; omega) (hRd4.below h)
  have HF := Lib.hid (show ∀ W, Below w4.heap.size w4 W → (W.cell? ⟨w2.heap.size, 0, none⟩ = some (.string KB) ∧ W.cell? ⟨w2.heap.size, 1, none⟩ = some (.slice A l.length c)) ∧ (W.cell? ⟨b, 0, none⟩ = some (.string KB) ∧ W.cell? ⟨b, 1, none⟩ = some (.slice AM (l ++ [(⟨c0, c1, c2, c3, c4⟩ : Ch)]).length cM)) ∧
      (W.cell? ⟨w3.heap.size, 0, none⟩ = some (.int .i64 c0) ∧ W.cell? ⟨w3.heap.size, 1, none⟩ = some (.int .i64 c1) ∧ W.cell? ⟨w3.heap.size, 2, none⟩ = some (.int .i64 c2) ∧ W.cell? ⟨w3.heap.size, 3, none⟩ = some (.int .i64 c3) ∧ W.cell? ⟨w3.heap.size, 4, none⟩ = some (.string c4)) from fun W h => by
    have q1 := (h.block _ (Array.getElem?_eq_some_iff.1 h10).1).trans h10
    have q2 := (h.block _ (Array.getElem?_eq_some_iff.1 h12).1).trans h12
    have q3 := (h.block _ (Array.getElem?_eq_some_iff.1 h11).1).trans h11
    refine ⟨⟨?_, ?_⟩, ⟨?_, ?_⟩, ?_, ?_, ?_, ?_, ?_⟩ <;> (unfold World.cell?; first | (rw [q1]; rfl) | (rw [q2]; rfl) | (rw [q3]; rfl)))
  have HSL := Lib.hid hSl
  have HSM := Lib.hid hSm
  have HAL := Lib.hid hAl
  have HAM := Lib.hid hAm
  have HRD4 := Lib.hid hRd4
  clear hSl hSm hAl hAm h10 h11 h12 hge hb4 HG10' HG11 HC3 HB3 hCL hRd4 hCM HW0 HW2 HW3 HB2 HX2
  generalize hMM : l ++ [(⟨c0, c1, c2, c3, c4⟩ : Ch)] = M at *
  have HMM := Lib.hid hMM
  clear hMM
  obtain ⟨⟨k0, k1⟩, ⟨k2, k3⟩, _⟩ := HF.out w4 (Below.refl _ _)
  go_wp2_with fail
  refine (HSL.out w4 (Below.refl _ _)).mono ?_
  rintro e w5 ⟨vs, rfl, hI5, ⟨gs, cs, rfl⟩, hb5⟩
  rw [HR1.out] at hI5
  generalize (rootT KB l).2 = dg at *
  obtain ⟨W5, hW5⟩ : ∃ W5, W5 = w5.alloc (.cells #[.slice (some ⟨gs, 0, none⟩) 8 cs, .string dg] 35) := ⟨_, rfl⟩
  have HX5 : Hid (Below w4.heap.size w4 W5) := Lib.hid (by rw [hW5]; exact below_alloc hb5 _)
  have HI5 : Hid (Ints W5 (.slice (some ⟨gs, 0, none⟩) 8 cs) .i64 (sumsL l)) := Lib.hid (by rw [hW5]; exact hI5.alloc _)
  have HG13 : Hid (W5.heap[w5.heap.size]? = some (.cells #[.slice (some ⟨gs, 0, none⟩) 8 cs, .string dg] 35 (0, 0))) := Lib.hid (by rw [hW5]; exact heap_new w5 _)
  have HW5 := Lib.hid hW5
  clear k0 k1 k2 k3
  obtain ⟨_, ⟨k2, k3⟩, _⟩ := HF.out W5 HX5.out
  rw [hW5] at k2 k3
  clear hW5 hI5 hb5
  go_wp2_with fail
  rw [← HW5.out] at *
  refine (HSM.out W5 HX5.out).mono ?_
  rintro e w6 ⟨vs, rfl, hI6, ⟨gt, ct, rfl⟩, hb6⟩
  rw [HR2.out] at hI6
  obtain ⟨W6, hW6⟩ : ∃ W6, W6 = w6.alloc (.cells #[.slice (some ⟨gt, 0, none⟩) 8 ct, .string (rootT KB M).2] 35) := ⟨_, rfl⟩
  have hbx : Below W5.heap.size W5 W6 := by rw [hW6]; exact below_alloc hb6 _
  have HX6 : Hid (Below w4.heap.size w4 W6) := Lib.hid (below_then HX5.out hbx)
  have HI5' : Hid (Ints W6 (.slice (some ⟨gs, 0, none⟩) 8 cs) .i64 (sumsL l)) := Lib.hid (HI5.out.below hbx)
  have HI6 : Hid (Ints W6 (.slice (some ⟨gt, 0, none⟩) 8 ct) .i64 (sumsL M)) := Lib.hid (by rw [hW6]; exact hI6.alloc _)
  have HG13' := Lib.hid ((hbx.block _ (Array.getElem?_eq_some_iff.1 HG13.out).1).trans HG13.out)
  have HG15 : Hid (W6.heap[w6.heap.size]? = some (.cells #[.slice (some ⟨gt, 0, none⟩) 8 ct, .string (rootT KB M).2] 35 (0, 0))) := Lib.hid (by rw [hW6]; exact heap_new w6 _)
  have HW6 := Lib.hid hW6
  clear k2 k3
  have HT := Lib.hid (show ∀ W, Below W6.heap.size W6 W → (W.cell? ⟨w5.heap.size, 0, none⟩ = some (.slice (some ⟨gs, 0, none⟩) 8 cs) ∧ (W.cell? ⟨w6.heap.size, 0, none⟩ = some (.slice (some ⟨gt, 0, none⟩) 8 ct) ∧ W.cell? ⟨w6.heap.size, 1, none⟩ = some (.string (rootT KB M).2))) from fun W h => by
    have q1 := (h.block _ (Array.getElem?_eq_some_iff.1 HG13'.out).1).trans HG13'.out
    have q2 := (h.block _ (Array.getElem?_eq_some_iff.1 HG15.out).1).trans HG15.out
    refine ⟨?_, ?_, ?_⟩ <;> (unfold World.cell?; first | (rw [q1]; rfl) | (rw [q2]; rfl)))
  obtain ⟨k0, k1, _⟩ := HT.out W6 (Below.refl _ _)
  rw [hW6] at k0 k1
  clear hW6 hI6 hb6 hbx HI5 HG13 HG13' HG15
  go_wp2_with fail
  rw [← HW6.out] at *
  clear k0 k1 HW5 HW6
  have hla := sumsL_length l
  have hlb := sumsL_length M
  obtain ⟨_, A7, c7, e7, _, hat7⟩ := HI5'.out.openD
  obtain ⟨_, A8, c8, e8, _, hat8⟩ := HI6.out.openD
  rw [hla] at hat7
  rw [hlb] at hat8
  simp only [Value.slice.injEq] at e7 e8
  obtain ⟨b7, o7, q7, _, hat7⟩ := hat7 (by decide)
  obtain ⟨b8, o8, q8, _, hat8⟩ := hat8 (by decide)
  obtain ⟨e7, -, -⟩ := e7
  obtain ⟨e8, -, -⟩ := e8
  rw [q7] at e7
  rw [q8] at e8
  simp only [Option.some.injEq, Addr.mk.injEq] at e7 e8
  obtain ⟨rfl, rfl, -⟩ := e7
  obtain ⟨rfl, rfl, -⟩ := e8
  have HAT7 := Lib.hid hat7
  have HAT8 := Lib.hid hat8
  have HB60 := Lib.hid (sumsL_bound60 HOK.out)
  have HGS := Lib.hid (grow_sums l ⟨c0, c1, c2, c3, c4⟩ (by have := HCA.out; dsimp only; omega) (by have := HCA.out; dsimp only; omega))
  have HLA := Lib.hid hla
  clear hat7 hat8 q7 q8 hla hlb
  go_loopw [17] (fun z17 wr => ∃ k : Nat, k ≤ 8 ∧ z17 = .int .i64 k ∧ Aside (Below W6.heap.size W6 wr)) (fun z17 _ => 8 - (intOf z17).toNat)
  case atStart => exact ⟨0, by omega, rfl, Below.refl _ _⟩
  case round =>
    obtain ⟨k, hk, rfl, hB⟩ := hrel
    by_cases hlt : k < 8
    · obtain ⟨t0, t1, _⟩ := HT.out wr hB.out
      obtain ⟨_, _, _, f1, f2, f3, _⟩ := HF.out wr (below_then HX6.out hB.out)
      have a7 := HAT7.out wr hB.out k hlt
      have a8 := HAT8.out wr hB.out k hlt
      simp only [Nat.zero_add] at a7 a8
      have hs : -60000000000 ≤ (sumsL l).getD k 0 ∧ (sumsL l).getD k 0 ≤ 60000000000 := HB60.out _ (by rw [List.getD_eq_getElem?_getD, List.getElem?_eq_getElem (by rw [HLA.out]; exact hlt)]; simp)
      have hgs := HGS.out k
      rw [HMM.out] at hgs
      dsimp only at hgs
      have hca := HCA.out
      have hklt : (k : Int) < 8 := by omega
      generalize hsl : (sumsL l).getD k 0 = sl at *
      generalize (sumsL M).getD k 0 = sm at *
      have hpe : (c2.toNat = k) ↔ ((k : Int) = c2) := by omega
      have hpa : (c1.toNat = k) ↔ ((k : Int) = c1) := by omega
      obtain ⟨hs1, hs2⟩ := hs
      have hc31 : 0 ≤ c3 := by omega
      have hc32 : c3 ≤ 1000000000 := by omega
      have hne12 : c1.toNat ≠ c2.toNat := by omega
      by_cases h1 : (k : Int) = c1
      · have h2 : ¬ (k : Int) = c2 := by omega
        rw [if_neg (fun h => h2 (hpe.1 h)), if_pos (hpa.2 h1)] at hgs
        subst hgs
        clear hca hpe hpa hne12 hsl
        subst h1
        go_wp2_with fail
        go_roundw
        case measure => simp [intOf]; omega
        case rel => exact ⟨k + 1, by omega, by go_num, hB.out⟩
      · by_cases h2 : (k : Int) = c2
        · rw [if_pos (hpe.2 h2), if_neg hne12, hpe.2 h2, hsl] at hgs
          have hnq : (sm != sl + c3) = false := by rw [hgs]; simp
          have hnr : (sm == sl + c3) = true := by rw [hgs]; simp
          clear hgs
          clear hca hpe hpa hne12 hsl
          subst h2
          go_wp2_with fail
          go_roundw
          case measure => simp [intOf]; omega
          case rel => exact ⟨k + 1, by omega, by go_num, hB.out⟩
        · rw [if_neg (fun h => h2 (hpe.1 h)), if_neg (fun h => h1 (hpa.1 h))] at hgs
          subst hgs
          clear hca hpe hpa hne12 hsl
          go_wp2_with fail
          go_roundw
          case measure => simp [intOf]; omega
          case rel => exact ⟨k + 1, by omega, by go_num, hB.out⟩
    · have hk8 : k = 8 := by omega
      subst hk8
      have HBr := Lib.hid hB.out
      clear HAT7 HAT8 HB60 HGS HLA HI5' hB
      have hpk := HPK.out wr
      go_wp2_with fail
      refine hpk.mono ?_
      rintro e w7 ⟨rfl, rfl⟩
      clear hpk
      have HX7 := Lib.hid (below_then HX6.out HBr.out)
      obtain ⟨⟨k0, k1⟩, ⟨k2, k3⟩, _⟩ := HF.out wr HX7.out
      go_wp2_with fail
      refine (HAL.out wr HX7.out).mono ?_
      rintro e w8 ⟨A8, a8, B8, b8, rfl, hC8, _, hb8⟩
      obtain ⟨W8, hW8⟩ : ∃ W8, W8 = w8.alloc (.cells #[.int .i64 m, .slice A8 (ofL l m).length a8, .string (saltH KB m), .slice B8 6 b8] 51) := ⟨_, rfl⟩
      have hbx : Below wr.heap.size wr W8 := by rw [hW8]; exact below_alloc hb8 _
      have HX8 := Lib.hid (below_then HX7.out hbx)
      have HBR8 := Lib.hid (below_then HBr.out hbx)
      have HC8 : Hid (Chs W8 (.slice A8 (ofL l m).length a8) (ofL l m)) := Lib.hid (by rw [hW8]; exact hC8.below (below_one w8 _))
      have HG20 : Hid (W8.heap[w8.heap.size]? = some (.cells #[.int .i64 m, .slice A8 (ofL l m).length a8, .string (saltH KB m), .slice B8 6 b8] 51 (0, 0))) := Lib.hid (by rw [hW8]; exact heap_new w8 _)
      have HW8 := Lib.hid hW8
      clear k0 k1 k2 k3
      obtain ⟨_, ⟨k2, k3⟩, _⟩ := HF.out W8 HX8.out
      rw [hW8] at k2 k3
      clear hW8 hC8 hb8 hbx
      go_wp2_with fail
      rw [← HW8.out] at *
      refine (HAM.out W8 HX8.out).mono ?_
      rintro e w9 ⟨A9, a9, B9, b9, rfl, hC9, hP9, hb9⟩
      obtain ⟨W9, hW9⟩ : ∃ W9, W9 = w9.alloc (.cells #[.int .i64 m, .slice A9 (ofL M m).length a9, .string (saltH KB m), .slice B9 6 b9] 51) := ⟨_, rfl⟩
      have hbx : Below W8.heap.size W8 W9 := by rw [hW9]; exact below_alloc hb9 _
      have HX9 := Lib.hid (below_then HX8.out hbx)
      have HBR9 := Lib.hid (below_then HBR8.out hbx)
      have HC8' := Lib.hid (HC8.out.below hbx)
      have HC9 : Hid (Chs W9 (.slice A9 (ofL M m).length a9) (ofL M m)) := Lib.hid (by rw [hW9]; exact hC9.below (below_one w9 _))
      have HP9 : Hid (Pth W9 (.slice B9 6 b9) (pathL KB M m 6)) := Lib.hid (by rw [hW9]; exact hP9.below (below_one w9 _))
      have HG20' := Lib.hid ((hbx.block _ (Array.getElem?_eq_some_iff.1 HG20.out).1).trans HG20.out)
      have HG22 : Hid (W9.heap[w9.heap.size]? = some (.cells #[.int .i64 m, .slice A9 (ofL M m).length a9, .string (saltH KB m), .slice B9 6 b9] 51 (0, 0))) := Lib.hid (by rw [hW9]; exact heap_new w9 _)
      have HW9 := Lib.hid hW9
      clear k2 k3
      have HU := Lib.hid (show ∀ W, Below W9.heap.size W9 W → (W.cell? ⟨w8.heap.size, 1, none⟩ = some (.slice A8 (ofL l m).length a8) ∧ W.cell? ⟨w8.heap.size, 2, none⟩ = some (.string (saltH KB m))) ∧
          (W.cell? ⟨w9.heap.size, 0, none⟩ = some (.int .i64 m) ∧ W.cell? ⟨w9.heap.size, 1, none⟩ = some (.slice A9 (ofL M m).length a9) ∧ W.cell? ⟨w9.heap.size, 2, none⟩ = some (.string (saltH KB m)) ∧ W.cell? ⟨w9.heap.size, 3, none⟩ = some (.slice B9 6 b9)) from fun W h => by
        have q1 := (h.block _ (Array.getElem?_eq_some_iff.1 HG20'.out).1).trans HG20'.out
        have q2 := (h.block _ (Array.getElem?_eq_some_iff.1 HG22.out).1).trans HG22.out
        refine ⟨⟨?_, ?_⟩, ?_, ?_, ?_, ?_⟩ <;> (unfold World.cell?; first | (rw [q1]; rfl) | (rw [q2]; rfl)))
      have hck := Check_calls (.slice (some ⟨gt, 0, none⟩) 8 ct) (sumsL M) (rootT KB M).2 m (.slice A9 (ofL M m).length a9) (ofL M m) (saltH KB m) (.slice B9 6 b9) (pathL KB M m 6) W9 (HI6.out.below HBR9.out) HC9.out HP9.out (HRD4.out.below HX9.out)
      have hcv : (decide ((sumsL M).length = 8) && checkB (sumsL M) (rootT KB M).2 m (saltH KB m) (ofL M m) (pathL KB M m 6)) = true := by
        have := HCK.out m (by have := HM8.out; omega)
        rw [HR2.out] at this
        rw [this, sumsL_length]; rfl
      rw [hcv] at hck
      have HCHK := Lib.hid hck
      obtain ⟨⟨k0, k1⟩, k2, k3, k4, k5⟩ := HU.out W9 (Below.refl _ _)
      obtain ⟨_, t1, t2⟩ := HT.out W9 HBR9.out
      rw [hW9] at k0 k1 k2 k3 k4 k5 t1 t2
      clear hW9 hC9 hP9 hb9 hbx hck hcv HG20 HG20' HG22 HP9
      go_wp2_with fail
      rw [← HW9.out] at *
      ((with_reducible refine HCHK.out.mono ?_))
      rintro e w10 ⟨rfl, hb10⟩
      have HC8'' := Lib.hid (HC8'.out.below hb10)
      have HC9' := Lib.hid (HC9.out.below hb10)
      have HX10 := Lib.hid (below_then HX9.out hb10)
      have HY10 := Lib.hid hb10
      clear k0 k1 k2 k3 k4 k5 t1 t2 HCHK HC8' HC9 HC8 hb10
      obtain ⟨_, _, f0, f1, f2, f3, f4⟩ := HF.out w10 HX10.out
      obtain ⟨⟨k0, k1⟩, k2, k3, k4, k5⟩ := HU.out w10 HY10.out
      have hofM : ofL M m = if (m : Int) = c0 then ofL l m ++ [⟨c0, c1, c2, c3, c4⟩] else ofL l m := by
        rw [← HMM.out]
        unfold ofL
        rw [List.filter_append]
        by_cases h : (m : Int) = c0
        · rw [if_pos h]; simp [h]
        · rw [if_neg h]; simp [Ne.symm h]
      have hl9 : (ofL M m).length ≤ 1000 := Nat.le_trans (List.length_filter_le _ _) (by have := (okChs_facts HOKM.out).1; omega)
      have HBf := Lib.hid (below_then HB4.out HX10.out)
      have e3 := World.block_lt_of_cell? w10 _ f0
      have e8 := World.block_lt_of_cell? w10 _ k0
      have e9 := World.block_lt_of_cell? w10 _ k3
      have HE3 := Lib.hid e3
      have HE8 := Lib.hid e8
      have HE9 := Lib.hid e9
      have HL9 := Lib.hid hl9
      clear e3 e8 e9 hl9
      by_cases hmc : (m : Int) = c0
      · rw [if_pos hmc] at hofM
        have HOF := Lib.hid hofM
        have HMC := Lib.hid hmc
        have hmb : ((m : Int) == c0) = true := by simp [hmc]
        clear hofM hmc
        go_wp2_with fail
        refine grow_tail w w10 w3.heap.size w8.heap.size w9.heap.size m c0 c1 c2 c3 c4 (ofL l m) (ofL M m) A8 A9 a8 a9 _ _ _ _ _ _ _ _ _ _ _ _ _ _ _ _ _ _ _ _ _ _ _ _ _ _ _ _ _ _ _ _ _ _ _ _ _ _ _ _ _ _ _ _ _ _ _ _ _ _ _ _ _ _ _ _ _ _ _ _ _ _ _ _ _ _ _ _ _ _ _ _ _ _ _ _ _ _ _ _ _ _ _ _ _ _ _ _ _ _ _ _ _ _ _ _ _ _ _ _ _ _ _ _ _ _ _ _ _ _ _ _ _ _ _ _ _ _ _ _ _ _ _ _ _ _ _ _ _ _ _ _ _ _ _ _ _ _ _ _ _ _ _ _ _ _ _ _ _ _ _ _ _ _ _ _ _ _ _ _ _ _ _ _ _ _ _ _ _ _ _ HE3.out f0 f1 f2 f3 f4 HE8.out k0 HE9.out k3 HC8''.out HC9'.out HMC.out HOF.out HL9.out HBf.out ?_
        intro W' a hB' h8 hd
        go_wp2_with fail
        refine bodyPost_ret (results_tmp Tryd.results9 a.tmps Tryd.prog W') hd ?_
        rw [h8]
        exact ⟨rfl, hB'⟩
      · rw [if_neg hmc] at hofM
        have hS := SameCharges_calls (.slice A8 (ofL l m).length a8) (.slice A9 (ofL M m).length a9) (ofL l m) (ofL M m) w10 HC8''.out HC9'.out
        rw [(sameL_iff (ofL l m) (ofL M m)).2 hofM.symm] at hS
        have HSF := Lib.hid hS
        clear hS hofM
        go_wp2_with fail
        refine HSF.out.mono ?_
        rintro e w11 ⟨rfl, hb11⟩
        have HB11 := Lib.hid (below_then HBf.out hb11)
        clear hb11
        go_wp2_with fail
        go_ret
        exact ⟨rfl, HB11.out⟩

end Go.Proofs.YthohfbeelepkmaaDoor
