/- dialtonelaw40.AuditTotals: the walk. -/
import Derived.Test.YthohfbeelepkmaaDoorH1
import Derived.Test.YthohfbeelepkmaaDoorF1
import Derived.Test.YthohfbeelepkmaaDoorA15
namespace Go.Proofs.YthohfbeelepkmaaDoor
open Go.RowKit Go.Shelf

theorem root_sums (key : ByteArray) {l : List Ch} (h : okChs l = true) : (rootT key l).1 = sumsL l := by
  unfold rootT
  rw [nodeT_sums key l (okChs_ends h), blockL_root l (okChs_cu h)]
theorem madeValid (key : Int) (X : List Five) : validB (keyL key) (madeL X) = true := by simp [validB, keyL_size, madeL_ok]
def zeros8 : Array Value := ((List.replicate 8 (0 : Int)).map fun n => Value.int .i64 n).toArray
theorem make8 (W : World) : (Instr.makeSlice 33 (.int .i64 8) (.int .i64 8)).run Tryd.prog W = .ok (.slice (some ⟨W.heap.size, 0, none⟩) 8 8) (W.alloc (.cells zeros8 3)) := by
  obtain ⟨i0, hi, hz0, hz1, hz2⟩ := info_parts (show (Tryd.prog.info? 3).map (fun i => (i.zero, i.size, i.bytes)) = some (some (.int .i64 0), 1, 8) by kernel_rfl)
  have := run_makeSlice (P := Tryd.prog) W 33 3 i0 (.int .i64 0) (by kernel_rfl) hi hz0 .i64 .i64 8 8 (by decide) (by decide) (by rw [hz1]; decide) (by rw [hz2]; decide) (by decide)
  rw [this, hz1]
  have e : madeCells (Value.int IntKind.i64 0).cells ((8 : Int).toNat * 1) = zeros8 := by kernel_rfl
  rw [e]
  rfl

def psum (l : List Int) (k : Nat) : Int := (l.take k).sum
theorem psum_succ (l : List Int) (k : Nat) (h : k < l.length) : psum l (k + 1) = psum l k + l.getD k 0 := by
  unfold psum
  rw [List.take_add_one, List.sum_append, List.getElem?_eq_getElem h]
  simp [List.getD_eq_getElem?_getD, h]
theorem psum_bound (l : List Int) (hl : ∀ n ∈ l, -60000000000 ≤ n ∧ n ≤ 60000000000) : ∀ k : Nat, -(60000000000 * k : Int) ≤ psum l k ∧ psum l k ≤ 60000000000 * k := by
  intro k
  induction k with
  | zero => simp [psum]
  | succ k ih =>
    by_cases h : k < l.length
    · rw [psum_succ l k h]
      have := hl (l.getD k 0) (by simp [List.getD_eq_getElem?_getD, h])
      push_cast
      omega
    · have : psum l (k + 1) = psum l k := by unfold psum; rw [List.take_of_length_le (by omega), List.take_of_length_le (by omega)]
      rw [this]
      push_cast
      omega
/-- The first k of two lists added, the others as they were. -/
def partK (a b : List Int) (k : Nat) : List Int := (addT a b).take k ++ a.drop k
theorem partK_zero (a b : List Int) : partK a b 0 = a := by simp [partK]
theorem partK_eight (a b : List Int) (ha : a.length = 8) (hb : b.length = 8) : partK a b 8 = addT a b := by
  unfold partK
  rw [List.take_of_length_le (by simp [addT, ha, hb]), List.drop_eq_nil_of_le (by omega), List.append_nil]
theorem partK_length (a b : List Int) (ha : a.length = 8) (hb : b.length = 8) (k : Nat) (hk : k ≤ 8) : (partK a b k).length = 8 := by
  simp [partK, addT, ha, hb]; omega
theorem partK_getD (a b : List Int) (ha : a.length = 8) (hb : b.length = 8) (k : Nat) (hk : k < 8) : (partK a b k).getD k 0 = a.getD k 0 := by
  obtain ⟨a0, a1, a2, a3, a4, a5, a6, a7, rfl⟩ := len8 ha
  obtain ⟨b0, b1, b2, b3, b4, b5, b6, b7, rfl⟩ := len8 hb
  match k, hk with
  | 0, _ => rfl
  | 1, _ => rfl
  | 2, _ => rfl
  | 3, _ => rfl
  | 4, _ => rfl
  | 5, _ => rfl
  | 6, _ => rfl
  | 7, _ => rfl
theorem partK_set (a b : List Int) (ha : a.length = 8) (hb : b.length = 8) (k : Nat) (hk : k < 8) : (partK a b k).set k (a.getD k 0 + b.getD k 0) = partK a b (k + 1) := by
  obtain ⟨a0, a1, a2, a3, a4, a5, a6, a7, rfl⟩ := len8 ha
  obtain ⟨b0, b1, b2, b3, b4, b5, b6, b7, rfl⟩ := len8 hb
  match k, hk with
  | 0, _ => rfl
  | 1, _ => rfl
  | 2, _ => rfl
  | 3, _ => rfl
  | 4, _ => rfl
  | 5, _ => rfl
  | 6, _ => rfl
  | 7, _ => rfl

set_option maxHeartbeats 4000000 in
set_option maxRecDepth 100000 in
theorem Totals_calls (key : Int) (v : Value) (X : List Five) (w : World) (hkey : I64 key) (hv : Fives w v X) (hX : ∀ q ∈ X, q.ok) (hRd : Rd w) :
    Calls Tryd.prog 4 #[.int .i64 key, v] w fun e w' => e = .returned (.bool true) ∧ Below w.heap.size w w' := by
  have hS := sane_calls w hRd
  have hM := fun W (h : Below w.heap.size w W) => Made_calls key v X W hkey (hv.below h) hX
  have hval := madeValid key X
  have hok := madeL_ok X
  have hroot := root_sums (keyL key) hok
  generalize keyL key = KB at *
  generalize madeL X = l at *
  have HOK := Lib.hid hok
  have HROOT := Lib.hid hroot
  have HVAL := Lib.hid hval
  have HRD := Lib.hid hRd
  have HM := Lib.hid hM
  clear hok hroot hval hRd hM
  go_enter Tryd.func4, Tryd.ntmps4
  go_wp2_with fail
  refine hS.mono ?_
  rintro e w1 ⟨rfl, hb1⟩
  have HB1 := Lib.hid hb1
  clear hb1 hS
  go_wp2_with fail
  refine (HM.out w1 HB1.out).mono ?_
  rintro e w2 ⟨A, n, c, rfl, hC, hb2⟩
  have hb12 := below_then HB1.out hb2
  have h6 := heap_new w2 (.cells #[.string KB, .slice A n c] 26)
  have hbW := below_alloc hb12 (.cells #[.string KB, .slice A n c] 26)
  have hCW : Chs (w2.alloc (.cells #[.string KB, .slice A n c] 26)) (.slice A n c) l := hC.below (below_one w2 _)
  have k0 : (w2.alloc (.cells #[.string KB, .slice A n c] 26)).cell? ⟨w2.heap.size, 0, none⟩ = some (.string KB) := by unfold World.cell?; rw [h6]; rfl
  have k1 : (w2.alloc (.cells #[.string KB, .slice A n c] 26)).cell? ⟨w2.heap.size, 1, none⟩ = some (.slice A n c) := by unfold World.cell?; rw [h6]; rfl
  have hseal := Seal_calls KB A n c l (w2.alloc (.cells #[.string KB, .slice A n c] 26)) hCW HVAL.out (HRD.out.below hbW)
  have HC := Lib.hid hCW
  have H6 := Lib.hid h6
  have HBW := Lib.hid hbW
  clear hC hb2 hb12 h6 hbW hCW
  go_wp2_with fail
  refine hseal.mono ?_
  rintro e w3 ⟨vs, rfl, hIs, ⟨gs, cs, rfl⟩, hb3⟩
  clear hseal k0 k1
  rw [HROOT.out] at hIs
  generalize (rootT KB l).2 = dg at *
  have h7 := heap_new w3 (.cells #[.slice (some ⟨gs, 0, none⟩) 8 cs, .string dg] 35)
  have hb3W := below_alloc hb3 (.cells #[.slice (some ⟨gs, 0, none⟩) 8 cs, .string dg] 35)
  have hIsW := hIs.alloc (.cells #[.slice (some ⟨gs, 0, none⟩) 8 cs, .string dg] 35)
  have h6W := (hb3W.block _ (Array.getElem?_eq_some_iff.1 H6.out).1).trans H6.out
  have HCW := Lib.hid (HC.out.below hb3W)
  have hsums := Sums_calls (.slice A n c) l _ HCW.out HOK.out
  have HBW3 := Lib.hid (below_then HBW.out hb3W)
  have k1 : (w3.alloc (.cells #[.slice (some ⟨gs, 0, none⟩) 8 cs, .string dg] 35)).cell? ⟨w2.heap.size, 1, none⟩ = some (.slice A n c) := by unfold World.cell?; rw [h6W]; rfl
  have HIS := Lib.hid hIsW
  have H6W := Lib.hid h6W
  have H7 := Lib.hid h7
  clear hIs hb3 h7 hb3W hIsW h6W HC H6 HBW
  go_wp2_with fail
  refine hsums.mono ?_
  rintro e w4 ⟨va, rfl, hIa, hb4⟩
  clear hsums k1
  have h74 := (hb4.block _ (Array.getElem?_eq_some_iff.1 H7.out).1).trans H7.out
  have h64 := (hb4.block _ (Array.getElem?_eq_some_iff.1 H6W.out).1).trans H6W.out
  have k7 : w4.cell? ⟨w3.heap.size, 0, none⟩ = some (.slice (some ⟨gs, 0, none⟩) 8 cs) := by unfold World.cell?; rw [h74]; rfl
  have hints := Ints_calls (.slice (some ⟨gs, 0, none⟩) 8 cs) va (sumsL l) (sumsL l) w4 (HIS.out.below hb4) hIa
  simp only [decide_true] at hints
  have hl8 := sumsL_length l
  obtain ⟨_, A9, c9, rfl, hc9, hat9⟩ := hIa.openD
  rw [hl8] at hc9 hat9 hints ⊢
  obtain ⟨b9, o9, rfl, hb9, hat9⟩ := hat9 (by decide)
  have HAT9 := Lib.hid hat9
  have HIA := Lib.hid hIa
  have HB4 := Lib.hid (below_then HBW3.out hb4)
  have HC4 := Lib.hid (HCW.out.below hb4)
  have H64 := Lib.hid h64
  clear h74 h64 hb4 hat9 hIa HIS H7 H6W HCW HBW3
  go_wp2_with fail
  refine hints.mono ?_
  rintro e w5 ⟨rfl, hb5⟩
  clear hints k7
  have hm8 := make8 w5
  have HB5 := Lib.hid (below_then HB4.out hb5)
  have HX5 := Lib.hid hb5
  clear hb5
  go_wp2_with fail
  have hA6 : Arr (w5.alloc (.cells zeros8 3)) w5.heap.size .i64 3 (List.replicate 8 0) := heap_new w5 (.cells zeros8 3)
  have hb6 : Below w5.heap.size w5 (w5.alloc (.cells zeros8 3)) := below_one w5 _
  generalize w5.alloc (.cells zeros8 3) = W6 at *
  have HA6 := Lib.hid hA6
  have HB6 := Lib.hid hb6
  have hS8 := sumsL_length l
  have hSB := sumsL_bound60 HOK.out
  have HSB := Lib.hid hSB
  have HS8 := Lib.hid hS8
  have HPB := Lib.hid (psum_bound (sumsL l) hSB)
  have HPS := Lib.hid (psum_succ (sumsL l))
  have HSUM := Lib.hid (sumsL_sum l (okChs_ends HOK.out))
  clear hA6 hb6 hm8 hS8 hSB
  go_loopw [11, 13] (fun z11 z13 wr => ∃ k : Nat, k ≤ 8 ∧ z11 = .int .i64 (psum (sumsL l) k) ∧ z13 = .int .i64 k ∧ Aside (Arr wr w5.heap.size .i64 3 (List.replicate 8 0)) ∧ Aside (Below w5.heap.size w5 wr)) (fun _ z13 _ => 8 - (intOf z13).toNat)
  case atStart => exact ⟨0, by omega, rfl, rfl, HA6.out, HB6.out⟩
  case round =>
    obtain ⟨k, hk, rfl, rfl, hA, hB⟩ := hrel
    by_cases hlt : k < 8
    · have x9 := HAT9.out wr (HX5.out.trans (hB.out.mono HX5.out.size)) k hlt
      have hp := HPB.out k
      have hs : -60000000000 ≤ (sumsL l).getD k 0 ∧ (sumsL l).getD k 0 ≤ 60000000000 := HSB.out _ (by rw [List.getD_eq_getElem?_getD, List.getElem?_eq_getElem (by rw [HS8.out]; exact hlt)]; simp)
      have hps := Lib.hid (HPS.out k (by rw [HS8.out]; exact hlt))
      generalize (sumsL l).getD k 0 = sk at *
      generalize psum (sumsL l) k = pk at *
      have hwr := wrapI64 (pk + sk) (by omega)
      go_wp2_with fail
      go_roundw
      case measure => simp [intOf]; omega
      case rel => exact ⟨k + 1, by omega, by rw [hps.out], by go_num, hA.out, hB.out⟩
    · have hk8 : k = 8 := by omega
      subst hk8
      have hp0 : psum (sumsL l) 8 = 0 := by unfold psum; rw [List.take_of_length_le (by rw [HS8.out]; omega)]; exact HSUM.out
      rw [hp0]
      clear hp0
      go_wp2_with fail
      rw [show ((8 : Nat) : Int) = 8 from rfl]
      obtain ⟨_, AC, cC, eC, _, hatC⟩ := Chs.open_ (show Chs w4 (.slice A n c) l from HC4.out)
      simp only [Value.slice.injEq] at eC
      obtain ⟨rfl, rfl, rfl⟩ := eC
      have HATC := Lib.hid hatC
      have hlen60 := (okChs_facts HOK.out).1
      obtain ⟨i0, hi, hz0, hz1, hz2⟩ := info_parts (show (Tryd.prog.info? 30).map (fun i => (i.zero, i.size, i.bytes)) = some (some (.agg #[.int .i64 0, .int .i64 0, .int .i64 0, .int .i64 0, .string ⟨#[]⟩]), 5, 48) by kernel_rfl)
      have HLOW := Lib.hid (low_succ l (okChs_ends HOK.out))
      have HLALL := Lib.hid (lowL_all l (okChs_cu HOK.out))
      have HA60 : Hid (Arr wr w5.heap.size .i64 3 (sumsL (lowL l 0))) := Lib.hid (by rw [lowL_zero]; exact hA.out)
      have HB60 := Lib.hid hB.out
      have H65 : Hid (∀ W, Below w5.heap.size w5 W → W.cell? ⟨w2.heap.size, 1, none⟩ = some (.slice A l.length c)) := Lib.hid (fun W h => by
        have hq := ((HX5.out.trans (h.mono HX5.out.size)).block _ (Array.getElem?_eq_some_iff.1 H64.out).1).trans H64.out
        unfold World.cell?; rw [hq]; rfl)
      have HLT2 := Lib.hid (Nat.lt_of_lt_of_le (Array.getElem?_eq_some_iff.1 H64.out).1 HX5.out.size)
      clear hatC hA hB
      go_loopw [14] (fun z14 wr => ∃ h : Nat, h ≤ 64 ∧ z14 = .int .i64 h ∧ Aside (Arr wr w5.heap.size .i64 3 (sumsL (lowL l h))) ∧ Aside (Below w5.heap.size w5 wr)) (fun z14 _ => 64 - (intOf z14).toNat)
      case atStart => exact ⟨0, by omega, rfl, HA60.out, HB60.out⟩
      case round =>
        obtain ⟨h, hh, rfl, hA, hB⟩ := hrel
        by_cases hlth : h < 64
        · have hmh : ∀ c ∈ ofL l h, c ∈ l := fun c hc => (List.mem_filter.1 hc).1
          have hlth' : (h : Int) < 64 := by omega
          go_wp2_with fail
          go_loopw [15, 16] (fun z15 z16 wq => ∃ i : Nat, i ≤ l.length ∧ z16 = .int .i64 i ∧ Aside (wq.ownsRow (w5.heap.size + 1) 30 5 z15 (ofL (l.take i) h).length (chCells (ofL (l.take i) h))) ∧ Aside (Arr wq w5.heap.size .i64 3 (sumsL (lowL l h))) ∧ Aside (Below w5.heap.size w5 wq)) (fun _ z16 _ => l.length - (intOf z16).toNat)
          case atStart => exact ⟨0, by omega, rfl, World.ownsRow_nil _ _ _ _, hA.out, hB.out⟩
          case round =>
            obtain ⟨i, hi', rfl, hR, hA2, hB2⟩ := hrel
            have q6 := H65.out wr hB2.out
            by_cases hlti : i < l.length
            · have HBE := Lib.hid (HX5.out.trans (hB2.out.mono HX5.out.size))
              obtain ⟨b, off, rfl, hb, c0, c1, c2, c3, c4⟩ := HATC.out i hlti
              have HT := Lib.hid (take_succ_snoc l i hlti)
              replace c0 := (HBE.out.cell (p := ⟨b, _, none⟩) hb).trans c0
              replace c1 := (HBE.out.cell (p := ⟨b, _, none⟩) hb).trans c1
              replace c2 := (HBE.out.cell (p := ⟨b, _, none⟩) hb).trans c2
              replace c3 := (HBE.out.cell (p := ⟨b, _, none⟩) hb).trans c3
              replace c4 := (HBE.out.cell (p := ⟨b, _, none⟩) hb).trans c4
              have hmem := List.getElem_mem hlti
              generalize l[i] = ch at *
              obtain ⟨cu, pa, pe, am, tx⟩ := ch
              dsimp only at c0 c1 c2 c3 c4
              have HN := Lib.hid (ofL_snoc (l.take i) ⟨cu, pa, pe, am, tx⟩ h)
              have hol : (ofL (l.take i) h).length ≤ i := Nat.le_trans (List.length_filter_le _ _) (by simp; omega)
              generalize ofL (l.take i) h = O at *
              have hsz := hB2.out.size
              have hltA := hA2.out.lt
              clear hmh hmem
              by_cases hcu : cu = (h : Int)
              · subst hcu
                have hnew := cells_new_add wr [.int .i64 h, .int .i64 pa, .int .i64 pe, .int .i64 am, .string tx] 30
                go_wp2_with (at_builtin; refine wpList_append_own _ rfl _ _ 24 rfl (w5.heap.size + 1) 30 i0 _ 5 48 (by kernel_rfl) hi hz0 hz1 hz2 rfl (by decide) _ O.length (chCells O) rfl (hR.out.alloc _) ⟨wr.heap.size, 0, none⟩ 1 1 [.int .i64 h, .int .i64 pa, .int .i64 pe, .int .i64 am, .string tx] rfl rfl hnew (by simp [Value.oneCell']) ?z1 ?z2 ?z3 ?_)
                case z1 => unfold maxLen; omega
                case z2 => omega
                intro v' w7 hown hgrow _
                clear hnew
                have hb7 : Below w5.heap.size w5 w7 := (below_alloc hB2.out _).grown hgrow (by simp; omega) (fun k hk => by have := (hR.out.lt k hk).1; omega)
                have hA7 : Arr w7 w5.heap.size .i64 3 (sumsL (lowL l h)) := by
                  have h1 := hA2.out.alloc (.cells #[.int .i64 h, .int .i64 pa, .int .i64 pe, .int .i64 am, .string tx] 30)
                  exact (hgrow.block _ h1.lt (by
                    rcases hR.out.2 with ⟨e, _⟩ | ⟨g, _, _, e, hg, _⟩
                    · rw [e]; simp [Value.ownBlock]
                    · rw [e]; simp only [Value.ownBlock, ne_eq, Option.some.injEq]; omega)).trans h1
                obtain ⟨g', cap', rfl⟩ := ownsRow_succ hown
                have HOW := Lib.hid hown
                have HB7 := Lib.hid hb7
                have HA7 := Lib.hid hA7
                clear hown hgrow hR hb7 hA7 hA2 hB2
                go_wp2_with fail
                go_roundw
                case measure => simp [intOf]; omega
                case rel =>
                  refine ⟨i + 1, by omega, by go_num, (show World.ownsRow _ _ _ _ _ _ _ from ?_), HA7.out, HB7.out⟩
                  rw [HT.out, HN.out]
                  have := HOW.out
                  simpa [chCells, Ch.cells] using this
              · have hcu' : (cu == (h : Int)) = false := by simpa using hcu
                go_wp2_with fail
                go_roundw
                case measure => simp [intOf]; omega
                case rel =>
                  refine ⟨i + 1, by omega, by go_num, (show World.ownsRow _ _ _ _ _ _ _ from ?_), hA2.out, hB2.out⟩
                  rw [HT.out, HN.out, if_neg hcu]
                  exact hR.out
            · have hil : i = l.length := by omega
              subst hil
              have hR' := hR.out
              rw [List.take_length] at hR'
              have hs := ownsRow_chs hR' (Nat.le_trans (List.length_filter_le _ _) (by omega))
              have hsn := Sums_new _ _ wr hs (okChs_filter HOK.out fun c => c.cu == (h : Int))
              have HSN8 := Lib.hid (sumsL_length (ofL l h))
              have HSW8 := Lib.hid (sumsL_length (lowL l h))
              have HSNB := Lib.hid (sumsL_bound60 (okChs_filter HOK.out fun c => c.cu == (h : Int)))
              have HSWB := Lib.hid (sumsL_bound60 (okChs_filter HOK.out fun c => decide (0 ≤ c.cu) && decide (c.cu < (h : Int))))
              have hlow := Lib.hid (HLOW.out h)
              have HAL := Lib.hid hA2.out
              have HBL := Lib.hid hB2.out
              clear hR hR' hs hA2 hB2 hA hB
              change Calls _ _ _ _ fun e w' => ∃ g, e = _ ∧ _ ∧ Arr w' g .i64 79 (sumsL (ofL l h)) ∧ _ at hsn
              change Hid (∀ n ∈ sumsL (ofL l h), _) at HSNB
              change Hid (∀ n ∈ sumsL (lowL l h), _) at HSWB
              generalize sumsL (ofL l h) = SN at *
              generalize hSW : sumsL (lowL l h) = SW at *
              have HSWE := Lib.hid hSW
              clear hSW
              go_wp2_with fail
              refine hsn.mono ?_
              rintro e w8 ⟨g8, rfl, hg8, hA8, hb8⟩
              have hAW := HAL.out.below hb8
              have hne8 : w5.heap.size ≠ g8 := by have := HAL.out.lt; omega
              rw [← partK_zero SW SN] at hAW
              have HA8 := Lib.hid hA8
              have HAW := Lib.hid hAW
              have HB8 := Lib.hid (HBL.out.trans (hb8.mono HBL.out.size))
              have HG8 := Lib.hid (Nat.le_trans HBL.out.size hg8)
              clear hsn hA8 hAW hb8 q6
              go_wp2_with fail
              go_loopw [19] (fun z19 wq => ∃ c : Nat, c ≤ 8 ∧ z19 = .int .i64 c ∧ Aside (Arr wq w5.heap.size .i64 3 (partK SW SN c)) ∧ Aside (Arr wq g8 .i64 79 SN) ∧ Aside (Below w5.heap.size w5 wq)) (fun z19 _ => 8 - (intOf z19).toNat)
              case atStart => exact ⟨0, by omega, rfl, HAW.out, HA8.out, HB8.out⟩
              case round =>
                obtain ⟨cc, hcc, rfl, hAW, hA8, hB8⟩ := hrel
                by_cases hltc : cc < 8
                · have x1 := hAW.out.cellD cc (by rw [partK_length SW SN HSW8.out HSN8.out cc hcc]; exact hltc)
                  have f1 := hAW.out.frozen cc
                  have x2 := hA8.out.cellD cc (by rw [HSN8.out]; exact hltc)
                  have hb1 : -60000000000 ≤ SW.getD cc 0 ∧ SW.getD cc 0 ≤ 60000000000 := HSWB.out _ (by rw [List.getD_eq_getElem?_getD, List.getElem?_eq_getElem (by rw [HSW8.out]; exact hltc)]; simp)
                  have hb2 : -60000000000 ≤ SN.getD cc 0 ∧ SN.getD cc 0 ≤ 60000000000 := HSNB.out _ (by rw [List.getD_eq_getElem?_getD, List.getElem?_eq_getElem (by rw [HSN8.out]; exact hltc)]; simp)
                  have HPK := Lib.hid (partK_set SW SN HSW8.out HSN8.out cc hltc)
                  rw [partK_getD SW SN HSW8.out HSN8.out cc hltc] at x1
                  generalize SW.getD cc 0 = sw at *
                  generalize SN.getD cc 0 = sn at *
                  have hwr := wrapI64 (sw + sn) (by omega)
                  have HST := Lib.hid (hAW.out.set cc (sw + sn))
                  rw [HPK.out] at HST
                  have HS8' := Lib.hid (hA8.out.other (a := ⟨w5.heap.size, cc, none⟩) hne8 (.int .i64 (sw + sn)))
                  go_wp2_with fail
                  go_still_tail 12, (by kernel_rfl)
                  go_wp2_with fail
                  go_roundw
                  case measure => simp [intOf]; omega
                  case rel => exact ⟨cc + 1, by omega, by go_num, HST.out.drew, HS8'.out.drew, (hB8.out.setCell (p := ⟨w5.heap.size, cc, none⟩) (Nat.le_refl _) _).drew⟩
                · have hc8 : cc = 8 := by omega
                  subst hc8
                  have hfin := hAW.out
                  rw [partK_eight SW SN HSW8.out HSN8.out, hlow.out] at hfin
                  have HFIN := Lib.hid hfin
                  clear hfin
                  go_wp2_with fail
                  go_roundw
                  case measure => simp [intOf]; omega
                  case rel => exact ⟨h + 1, by omega, by go_num, HFIN.out, hB8.out⟩
        · have hh64 : h = 64 := by omega
          subst hh64
          have hAe := hA.out
          rw [HLALL.out] at hAe
          have hIA8 : Ints w4 (.slice (some ⟨b9, o9, none⟩) 8 c9) .i64 (sumsL l) := by have := HIA.out; rwa [HS8.out] at this
          have hie := Ints_calls (.slice (some ⟨b9, o9, none⟩) 8 c9) (.slice (some ⟨w5.heap.size, 0, none⟩) 8 8) (sumsL l) (sumsL l) wr (hIA8.below (HX5.out.trans (hB.out.mono HX5.out.size))) (hAe.ints 8 HS8.out (by omega))
          simp only [decide_true] at hie
          have HBE := Lib.hid (HB5.out.trans (hB.out.mono HB5.out.size))
          clear hA hB hAe
          go_wp2_with fail
          refine hie.mono ?_
          rintro e w9 ⟨rfl, hb9'⟩
          have HFB := Lib.hid (below_then HBE.out hb9')
          clear hie hb9'
          go_wp2_with fail
          go_ret
          exact ⟨rfl, HFB.out⟩

end Go.Proofs.YthohfbeelepkmaaDoor

