/- audit.Check. -/
import Derived.Test.YthohfbeelepkmaaDoorD6
namespace Go.Proofs.YthohfbeelepkmaaDoor
open Go.RowKit Go.Shelf

theorem beq_bytes (a b : ByteArray) : (a == b) = decide (a = b) := by
  obtain ⟨⟨x⟩⟩ := a
  obtain ⟨⟨y⟩⟩ := b
  show ((⟨x⟩ : Array UInt8) == ⟨y⟩) = _
  rw [Bool.eq_iff_iff]
  simp
theorem within_nonneg {cu : Int} (h : within cu 0 63 = true) : 0 ≤ cu := by
  simp only [within, Bool.and_eq_true, decide_eq_true_eq] at h
  omega
theorem shr_bit {cu : Int} (h : 0 ≤ cu) (k : Nat) : (((cu / 2 ^ k).tmod 2 == 1) = true → cu.toNat / 2 ^ k % 2 = 1) ∧ (((cu / 2 ^ k).tmod 2 == 1) = false → ¬ cu.toNat / 2 ^ k % 2 = 1) := by
  obtain ⟨m, rfl⟩ := Int.eq_ofNat_of_zero_le h
  have e : ((m : Int) / 2 ^ k).tmod 2 = ((m / 2 ^ k % 2 : Nat) : Int) := by
    rw [Int.tmod_eq_emod_of_nonneg (Int.ediv_nonneg (by omega) (Int.pow_nonneg (by omega)))]
    push_cast
    rfl
  rw [e]
  simp only [beq_iff_eq, beq_eq_false_iff_ne, ne_eq, Int.toNat_natCast]
  omega
theorem Tot.alloc' {w : World} {b : Nat} {l : List Int} {d : ByteArray} (h : Tot w b l d) (o : Obj) : Tot (w.alloc o) b l d := h.below (below_one w o)

set_option maxHeartbeats 4000000 in
set_option maxRecDepth 100000 in
theorem Check_calls (sv : Value) (S : List Int) (dS : ByteArray) (cu : Int) (vC : Value) (C : List Ch) (salt : ByteArray) (vP : Value) (L : List TT) (w : World) (hs : Ints w sv .i64 S) (hC : Chs w vC C) (hP : Pth w vP L) (hRd : Rd w) :
    Calls Tryd.prog 30 #[.agg #[sv, .string dS], .agg #[.int .i64 cu, vC, .string salt, vP]] w fun e w' => e = .returned (.bool (decide (S.length = 8) && checkB S dS cu salt C L)) ∧ Below w.heap.size w w' := by
  obtain ⟨L', hL', hPs, hPi⟩ := hP
  obtain ⟨lC, AC, cC, rfl, hcC, hatC⟩ := hC.open_
  obtain ⟨hlS, AS, cS, rfl, hcS, hatS⟩ := hs.openD
  obtain ⟨_, hlP, AP, cP, rfl, hcP, hatP⟩ := hPs
  simp only [List.length_map] at *
  have hlen : L'.length = L.length := by rw [← hL']; simp
  rw [hlen] at hlP hcP ⊢
  obtain ⟨W0, hW0⟩ : ∃ W0, W0 = (w.alloc (.cells #[.slice AS S.length cS, .string dS] 35)).alloc (.cells #[.int .i64 cu, .slice AC C.length cC, .string salt, .slice AP L.length cP] 51) := ⟨_, rfl⟩
  have r1 : W0.heap[w.heap.size]? = some (.cells #[.slice AS S.length cS, .string dS] 35 (0, 0)) := by
    rw [hW0, Below.heap_alloc _ _ _ (by simp)]; exact heap_new w _
  have r2 : W0.heap[w.heap.size + 1]? = some (.cells #[.int .i64 cu, .slice AC C.length cC, .string salt, .slice AP L.length cP] 51 (0, 0)) := by
    rw [hW0]; have := heap_new (w.alloc (.cells #[.slice AS S.length cS, .string dS] 35)) (.cells #[.int .i64 cu, .slice AC C.length cC, .string salt, .slice AP L.length cP] 51); rwa [World.size_alloc] at this
  have hb0 : Below w.heap.size w W0 := by rw [hW0]; exact below_alloc (below_one w _) _
  have hs0 : W0.heap.size = w.heap.size + 2 := by rw [hW0]; simp
  have HF : ∀ W, Below W0.heap.size W0 W → W.cell? ⟨w.heap.size + 1, 0, none⟩ = some (.int .i64 cu) ∧ W.cell? ⟨w.heap.size + 1, 1, none⟩ = some (.slice AC C.length cC) ∧ W.cell? ⟨w.heap.size + 1, 2, none⟩ = some (.string salt) ∧ W.cell? ⟨w.heap.size + 1, 3, none⟩ = some (.slice AP L.length cP) ∧
      W.cell? ⟨w.heap.size, 0, none⟩ = some (.slice AS S.length cS) ∧ W.cell? ⟨w.heap.size, 1, none⟩ = some (.string dS) := fun W h => by
    have q1 := (h.block _ (by omega)).trans r1
    have q2 := (h.block _ (by omega)).trans r2
    refine ⟨?_, ?_, ?_, ?_, ?_, ?_⟩ <;> (unfold World.cell?; first | (rw [q2]; rfl) | (rw [q1]; rfl))
  have hP : ∀ W, Below W0.heap.size W0 W → PredCh 56 #[.pointer (some ⟨w.heap.size + 1, 0, none⟩)] (fun c => c.cu != cu) W := fun W h W' x hb =>
    Check1_calls (w.heap.size + 1) cu x.cu x.pa x.pe x.am x.tx W' (HF W' (below_then h hb)).1
  have hC45 : ∀ W, Below W0.heap.size W0 W → _ := fun W h => areCharges_calls (.slice AC C.length cC) C W (hC.below (hb0.trans (h.mono hb0.size)))
  have hC57 : ∀ W, Below W0.heap.size W0 W → _ := fun W h => containsFuncCh (.slice AC C.length cC) C 56 #[.pointer (some ⟨w.heap.size + 1, 0, none⟩)] (enters_of Tryd.func56 (by kernel_rfl) rfl) (fun c => c.cu != cu) W (hC.below (hb0.trans (h.mono hb0.size))) (hP W h)
  have HW0 := Lib.hid hW0
  have HB0 := Lib.hid hb0
  have HR1 := Lib.hid r1
  have HR2 := Lib.hid r2
  have HS0 := Lib.hid hs0
  have hWi := fun W => isWithin_calls cu 0 63 W
  unfold checkB formedB
  obtain ⟨t0, ht0⟩ : ∃ t0 : TT, t0 = (sumsL C, leafDig salt C) := ⟨_, rfl⟩
  rw [← ht0]
  have HT0 := Lib.hid ht0
  clear ht0
  generalize hob : okChs C = ob at *
  generalize hwb : within cu 0 63 = wb at *
  generalize hab : (C.any fun c => c.cu != cu) = ab at *
  have HOB := Lib.hid hob
  have HWB := Lib.hid hwb
  clear hW0 hb0 r1 r2 hs0 hob hwb hab
  obtain ⟨k0, k1, k2, k3, k4, k5⟩ := HF W0 (Below.refl _ _)
  have hC45a := hC45 W0 (Below.refl _ _)
  rw [HW0.out] at k0 k1 k2 k3 k4 k5
  go_enter Tryd.func30, Tryd.ntmps30
  go_wp2_with fail
  rw [← HW0.out] at *
  refine (hWi W0).mono ?_
  rintro e w1 ⟨rfl, rfl⟩
  cases wb
  · go_wp2_with fail
    go_ret
    exact ⟨by simp, HB0.out⟩
  · go_wp2_with fail
    refine hC45a.mono ?_
    rintro e w1 ⟨rfl, hb1⟩
    have HB1 := Lib.hid (HB0.out.trans (hb1.mono HB0.out.size))
    have hC57a := hC57 w1 hb1
    clear hC45 hC57 hC45a k0 k1 k2 k3 k4 k5
    obtain ⟨k0, k1, k2, k3, k4, k5⟩ := HF w1 hb1
    cases ob
    · clear hC57a
      go_wp2_with fail
      go_ret
      exact ⟨by simp, HB1.out⟩
    · go_wp2_with fail
      refine hC57a.mono ?_
      rintro e w2 ⟨rfl, hb2⟩
      have hb12 := below_then hb1 hb2
      have HB2 := Lib.hid (HB0.out.trans (hb12.mono HB0.out.size))
      have HB12 := Lib.hid hb12
      clear hC57a k0 k1 k2 k3 k4 k5
      obtain ⟨k0, k1, k2, k3, k4, k5⟩ := HF w2 hb12
      clear hb1 hb2 hb12
      cases ab
      · by_cases h32 : salt.size = 32
        · by_cases h6 : L.length = 6
          · have h6' : (L.length : Int) = 6 := by omega
            obtain ⟨bp, op, rfl, hbp, hcp⟩ := hatP (by omega)
            have h32' : (salt.size : Int) = 32 := by omega
            have hok2 := okChs_facts HOB.out
            have hlf := leaf_calls salt (.slice AC C.length cC) C w2 (hC.below HB2.out) hok2.1 hok2.2 (by omega) (hRd.below HB2.out)
            have HBND : Hid (BndT 0 t0) := Lib.hid (by rw [HT0.out]; exact ⟨sumsL_length C, fun n hn => by have := sumsL_bound60 HOB.out n hn; simp; omega, leafH_size _⟩)
            have I81 := Lib.hid (show (Tryd.prog.info? 81).map (·.size) = some 9 by kernel_rfl)
            change Calls _ _ _ _ fun e w' => e = .returned (.agg (totC (sumsL C, leafDig salt C).1 (sumsL C, leafDig salt C).2).toArray) ∧ _ at hlf
            rw [← HT0.out] at hlf
            clear hok2
            obtain ⟨X, hX⟩ : ∃ X, X = (totC t0.1 t0.2).toArray := ⟨_, rfl⟩
            rw [← hX] at hlf
            have hX9 : X.size = 9 := by rw [hX]; simp [totC, HBND.out.1]
            have hX1 : X.all (·.oneCell') = true := by rw [hX]; simp [totC, Value.oneCell']
            have HX := Lib.hid hX
            clear hX
            go_wp2_with fail
            refine hlf.mono ?_
            rintro e w3 ⟨rfl, hb3⟩
            have hz3 := heap_new w3 (.cells #[.int .i64 0, .int .i64 0, .int .i64 0, .int .i64 0, .int .i64 0, .int .i64 0, .int .i64 0, .int .i64 0, .string ⟨#[]⟩] 81)
            have hlt2 := HB12.out.size
            have hlt3 := hb3.size
            have HB3 := Lib.hid (below_then HB12.out hb3)
            clear k0 k1 k2 k3 k4 k5 hlf hb3
            go_wp2_with (refine wpList_store_row rfl 81 (.tmp 6) (.tmp 44) rfl w3.heap.size rfl 81 _ X rfl hz3 (I81.out.trans (by rw [hX9])) (by rw [hX9]; rfl) hX1 ?_; have HT4 := Lib.hid (setRow_heap (w3.alloc (.cells #[.int .i64 0, .int .i64 0, .int .i64 0, .int .i64 0, .int .i64 0, .int .i64 0, .int .i64 0, .int .i64 0, .string ⟨#[]⟩] 81)) w3.heap.size _ X 81 (0, 0) hz3); have HB4 := Lib.hid (below_setRow (below_alloc HB3.out (.cells #[.int .i64 0, .int .i64 0, .int .i64 0, .int .i64 0, .int .i64 0, .int .i64 0, .int .i64 0, .int .i64 0, .string ⟨#[]⟩] 81)) (Nat.le_trans hlt2 hlt3) X); obtain ⟨k0, k1, k2, k3, k4, k5⟩ := HF _ HB4.out; generalize (w3.alloc (.cells #[.int .i64 0, .int .i64 0, .int .i64 0, .int .i64 0, .int .i64 0, .int .i64 0, .int .i64 0, .int .i64 0, .string ⟨#[]⟩] 81)).setRow w3.heap.size X = w4 at *)
            clear hz3
            have HB6 := Lib.hid (Nat.le_trans hlt2 hlt3)
            generalize w3.heap.size = b6 at *
            have HS0L := Lib.hid HB0.out.size
            rw [HX.out] at HT4
            have HT5 : Hid (Tot w4 b6 t0.1 t0.2) := HT4
            clear HT4 hlt2 hlt3 k0 k1 k2 k3 k4 k5 hX9 hX1
            have HL6 := Lib.hid h6
            have HFF := Lib.hid HF
            have HPI := Lib.hid hPi
            clear HF hPi HX
            go_loopw [48] (fun z48 wr => ∃ k : Nat, k ≤ 6 ∧ z48 = .int .i64 k ∧ Aside (∀ j, j < k → okTT (L.getD j ([], ⟨#[]⟩)) = true) ∧ Aside (Tot wr b6 (walkN cu.toNat t0 L k).1 (walkN cu.toNat t0 L k).2) ∧ Aside (Below W0.heap.size W0 wr)) (fun z48 _ => 6 - (intOf z48).toNat)
            case atStart => exact ⟨0, by omega, rfl, fun j hj => absurd hj (by omega), HT5.out, HB4.out⟩
            case round =>
              obtain ⟨k, hk, rfl, hO, hT, hB⟩ := hrel
              by_cases hlt : k < 6
              · have hkl : k < L'.length := by rw [hlen, HL6.out]; exact hlt
                have hbw := HB0.out.trans (hB.out.mono HB0.out.size)
                have hm : (L'.map fun p => [p.1, Value.string p.2.2])[k]? = some [L'[k].1, .string L'[k].2.2] := by simp [hkl]
                have x0 := (hbw.cell (p := ⟨bp, op + k * 2 + 0, none⟩) hbp).trans (hcp k 0 _ _ hm rfl)
                have x1 := (hbw.cell (p := ⟨bp, op + k * 2 + 1, none⟩) hbp).trans (hcp k 1 _ _ hm rfl)
                have hpi := HPI.out L'[k] (List.getElem_mem _)
                have HLK : Hid (L.getD k ([], ⟨#[]⟩) = L'[k].2) := Lib.hid (by rw [← hL', List.getD_eq_getElem?_getD, List.getElem?_map, List.getElem?_eq_getElem hkl]; rfl)
                generalize L'[k] = p at *
                obtain ⟨pv, pl, pd⟩ := p
                dsimp only at x0 x1 hpi HLK
                have hread := fun W (h : Below w.heap.size w W) => read_calls pv pl pd W (hpi.below h)
                have hreadn := fun W (h : Below w.heap.size w W) => read_not pv pl pd W (hpi.below h)
                obtain ⟨_, PA, pc, rfl, _, _⟩ := hpi.openD
                rw [Nat.add_zero] at x0
                have HBW := Lib.hid hbw
                clear hm hbw
                have HRN := Lib.hid hreadn
                have hY9 : pl.length = 8 → (totC pl pd).toArray.size = 9 := fun h => by simp [totC, h]
                have hY1 : (totC pl pd).toArray.all (·.oneCell') = true := by simp [totC, Value.oneCell']
                clear hreadn
                go_wp2_with fail
                have hbA : Below wr.heap.size wr (wr.alloc (.cells #[.slice PA pl.length pc, .string pd] 35)) := below_one wr _
                have hsz := hB.out.size
                have hbB : Below W0.heap.size W0 (wr.alloc (.cells #[.slice PA pl.length pc, .string pd] 35)) := below_alloc hB.out _
                by_cases hokk : okT pl pd = true
                · have hokF := okT_facts (t := (pl, pd)) hokk
                  have hrd := hread _ (HB0.out.trans (hbB.mono HB0.out.size)) hokk
                  have hY9 := hY9 hokF.1
                  obtain ⟨Y, hY⟩ : ∃ Y, Y = (totC pl pd).toArray := ⟨_, rfl⟩
                  rw [← hY] at hrd hY9 hY1
                  have HY := Lib.hid hY
                  clear hY hread
                  refine hrd.mono ?_
                  rintro e w5 ⟨rfl, hb5⟩
                  have hB5 := below_then hbB hb5
                  have HT5 := Lib.hid ((hT.out.below hbA).below hb5)
                  have hz5 := heap_new w5 (.cells #[.int .i64 0, .int .i64 0, .int .i64 0, .int .i64 0, .int .i64 0, .int .i64 0, .int .i64 0, .int .i64 0, .string ⟨#[]⟩] 81)
                  have HB5 := Lib.hid hB5
                  clear hrd hb5 hbA hbB hB5 x0 x1
                  obtain ⟨V, hVV⟩ : ∃ V, V = (totC (walkN cu.toNat t0 L k).1 (walkN cu.toNat t0 L k).2).toArray := ⟨_, rfl⟩
                  have hwb := walkN_bnd (cu := cu.toNat) HBND.out k hO.out
                  have hV9 : V.size = 9 := by rw [hVV]; simp [totC, hwb.1]
                  have hT5' : w5.heap[b6]? = some (.cells V 81 (0, 0)) := by rw [hVV]; exact HT5.out
                  have HVV := Lib.hid hVV
                  have HWB2 := Lib.hid hwb
                  have hb65 := Nat.ne_of_lt HT5.out.lt
                  have HT6a := Lib.hid ((setRow_other (w5.alloc (.cells #[.int .i64 0, .int .i64 0, .int .i64 0, .int .i64 0, .int .i64 0, .int .i64 0, .int .i64 0, .int .i64 0, .string ⟨#[]⟩] 81)) w5.heap.size b6 Y hb65).trans ((Below.heap_alloc w5 (.cells #[.int .i64 0, .int .i64 0, .int .i64 0, .int .i64 0, .int .i64 0, .int .i64 0, .int .i64 0, .int .i64 0, .string ⟨#[]⟩] 81) b6 HT5.out.lt).trans hT5'))
                  have HN9 := Lib.hid hb65
                  have hj1 := fun W (h : Below W0.heap.size W0 W) => join_calls pl (walkN cu.toNat t0 L k).1 pd (walkN cu.toNat t0 L k).2 W hokF.1 hwb.1 (fun n hn => by have : -1000000000000 ≤ n ∧ n ≤ 1000000000000 := hokF.2.1 n hn; omega) (hwb.small hk) (by have : pd.size = 32 := hokF.2.2; omega) (by have := hwb.2.2; omega) (hRd.below (HB0.out.trans (h.mono HB0.out.size)))
                  have hj2 := fun W (h : Below W0.heap.size W0 W) => join_calls (walkN cu.toNat t0 L k).1 pl (walkN cu.toNat t0 L k).2 pd W hwb.1 hokF.1 (hwb.small hk) (fun n hn => by have : -1000000000000 ≤ n ∧ n ≤ 1000000000000 := hokF.2.1 n hn; omega) (by have := hwb.2.2; omega) (by have : pd.size = 32 := hokF.2.2; omega) (hRd.below (HB0.out.trans (h.mono HB0.out.size)))
                  rw [← HVV.out, ← HY.out] at hj1 hj2
                  obtain ⟨R1, hR1⟩ : ∃ R, R = (totC (addT pl (walkN cu.toNat t0 L k).1) (nodeH (codeB pl pd) (codeB (walkN cu.toNat t0 L k).1 (walkN cu.toNat t0 L k).2))).toArray := ⟨_, rfl⟩
                  obtain ⟨R2, hR2⟩ : ∃ R, R = (totC (addT (walkN cu.toNat t0 L k).1 pl) (nodeH (codeB (walkN cu.toNat t0 L k).1 (walkN cu.toNat t0 L k).2) (codeB pl pd))).toArray := ⟨_, rfl⟩
                  rw [← hR1] at hj1
                  rw [← hR2] at hj2
                  have h19 : R1.size = 9 := by rw [hR1]; simp [totC, addT, hwb.1, hokF.1]
                  have h29 : R2.size = 9 := by rw [hR2]; simp [totC, addT, hwb.1, hokF.1]
                  have h11 : R1.all (·.oneCell') = true := by rw [hR1]; simp [totC, Value.oneCell']
                  have h21 : R2.all (·.oneCell') = true := by rw [hR2]; simp [totC, Value.oneCell']
                  have HR1 := Lib.hid hR1
                  have HR2 := Lib.hid hR2
                  clear hR1 hR2
                  clear hVV hwb hT5' hb65
                  go_wp2_with (first | (refine wpList_store_row rfl 81 (.tmp 9) (.tmp 56) rfl w5.heap.size rfl 81 _ Y rfl hz5 (I81.out.trans (by rw [hY9])) (by rw [hY9]; rfl) hY1 ?_; have HT9 := Lib.hid (setRow_heap (w5.alloc (.cells #[.int .i64 0, .int .i64 0, .int .i64 0, .int .i64 0, .int .i64 0, .int .i64 0, .int .i64 0, .int .i64 0, .string ⟨#[]⟩] 81)) w5.heap.size _ Y 81 (0, 0) hz5); have HB7 := Lib.hid (below_setRow (below_alloc HB5.out (.cells #[.int .i64 0, .int .i64 0, .int .i64 0, .int .i64 0, .int .i64 0, .int .i64 0, .int .i64 0, .int .i64 0, .string ⟨#[]⟩] 81)) HB5.out.size Y); obtain ⟨k0, k1, k2, k3, k4, k5⟩ := HFF.out _ HB7.out; generalize (w5.alloc (.cells #[.int .i64 0, .int .i64 0, .int .i64 0, .int .i64 0, .int .i64 0, .int .i64 0, .int .i64 0, .int .i64 0, .string ⟨#[]⟩] 81)).setRow w5.heap.size Y = w6 at *; generalize w5.heap.size = b9 at *) | (refine wpList_load_row rfl 81 (.tmp 9) rfl b9 rfl 81 _ (0, 0) _ HT9.out Tryd.underlying81 rfl (I81.out.trans (by rw [hY9])) ?_) | (refine wpList_load_row rfl 81 (.tmp 6) rfl b6 rfl 81 _ (0, 0) _ HT6a.out Tryd.underlying81 rfl (I81.out.trans (by rw [hV9])) ?_))
                  · refine (hj1 w6 HB7.out).mono ?_
                    rintro e w7 ⟨rfl, hb7⟩
                    have hT7 : w7.heap[b6]? = some (.cells V 81 (0, 0)) := (hb7.block b6 (Array.getElem?_eq_some_iff.1 HT6a.out).1).trans HT6a.out
                    have HB8 := Lib.hid (below_then HB7.out hb7)
                    clear hj1 hj2 hb7 k0 k1 k2 k3 k4 k5
                    go_wp2_with (refine wpList_store_row rfl 81 (.tmp 6) (.tmp 73) rfl b6 rfl 81 _ R1 rfl hT7 (I81.out.trans (by rw [h19])) (by rw [h19, hV9]) h11 ?_)
                    go_roundw
                    case measure => simp [intOf]; omega
                    case rel =>
                      refine ⟨k + 1, by omega, by go_num, ?_, ?_, below_setRow HB8.out HB6.out _⟩
                      · intro j hj
                        rcases Nat.lt_or_ge j k with h | h
                        · exact hO.out j h
                        · obtain rfl : j = k := by omega
                          rw [HLK.out]; exact hokk
                      · have he : (totC (walkN cu.toNat t0 L (k + 1)).1 (walkN cu.toNat t0 L (k + 1)).2).toArray = R1 := by
                          rw [HR1.out]
                          simp only [walkN, HLK.out]
                          rw [if_pos ((shr_bit (within_nonneg HWB.out) k).1 (by assumption))]
                          rfl
                        unfold Aside Tot
                        rw [he]
                        exact setRow_heap w7 b6 _ _ 81 (0, 0) hT7
                  · refine (hj2 w6 HB7.out).mono ?_
                    rintro e w7 ⟨rfl, hb7⟩
                    have hT7 : w7.heap[b6]? = some (.cells V 81 (0, 0)) := (hb7.block b6 (Array.getElem?_eq_some_iff.1 HT6a.out).1).trans HT6a.out
                    have HB8 := Lib.hid (below_then HB7.out hb7)
                    clear hj1 hj2 hb7 k0 k1 k2 k3 k4 k5
                    go_wp2_with (refine wpList_store_row rfl 81 (.tmp 6) (.tmp 60) rfl b6 rfl 81 _ R2 rfl hT7 (I81.out.trans (by rw [h29])) (by rw [h29, hV9]) h21 ?_)
                    go_roundw
                    case measure => simp [intOf]; omega
                    case rel =>
                      refine ⟨k + 1, by omega, by go_num, ?_, ?_, below_setRow HB8.out HB6.out _⟩
                      · intro j hj
                        rcases Nat.lt_or_ge j k with h | h
                        · exact hO.out j h
                        · obtain rfl : j = k := by omega
                          rw [HLK.out]; exact hokk
                      · have he : (totC (walkN cu.toNat t0 L (k + 1)).1 (walkN cu.toNat t0 L (k + 1)).2).toArray = R2 := by
                          rw [HR2.out]
                          simp only [walkN, HLK.out]
                          rw [if_neg ((shr_bit (within_nonneg HWB.out) k).2 (by assumption))]
                          rfl
                        unfold Aside Tot
                        rw [he]
                        exact setRow_heap w7 b6 _ _ 81 (0, 0) hT7
                · have hokk' : okT pl pd = false := by simpa using hokk
                  have hrd := HRN.out _ (HB0.out.trans (hbB.mono HB0.out.size)) hokk'
                  have hZ8 : (totC (List.replicate 8 0) ⟨#[]⟩).toArray = #[.int .i64 0, .int .i64 0, .int .i64 0, .int .i64 0, .int .i64 0, .int .i64 0, .int .i64 0, .int .i64 0, .string ⟨#[]⟩] := rfl
                  rw [hZ8] at hrd
                  clear hread hZ8
                  refine hrd.mono ?_
                  rintro e w5 ⟨rfl, hb5⟩
                  have hB5 := below_then hbB hb5
                  have hz5 := heap_new w5 (.cells #[.int .i64 0, .int .i64 0, .int .i64 0, .int .i64 0, .int .i64 0, .int .i64 0, .int .i64 0, .int .i64 0, .string ⟨#[]⟩] 81)
                  have HB5 := Lib.hid hB5
                  clear hrd hb5 hbA hbB hB5 x0 x1
                  go_wp2_with (refine wpList_store_row rfl 81 (.tmp 9) (.tmp 56) rfl w5.heap.size rfl 81 _ #[.int .i64 0, .int .i64 0, .int .i64 0, .int .i64 0, .int .i64 0, .int .i64 0, .int .i64 0, .int .i64 0, .string ⟨#[]⟩] rfl hz5 I81.out rfl (by simp [Value.oneCell']) ?_)
                  go_ret
                  refine ⟨ret_v (by
                    have : L.all okTT = false := by
                      rw [List.all_eq_false]
                      refine ⟨(pl, pd), ?_, by simpa [okTT] using hokk'⟩
                      rw [← HLK.out, List.getD_eq_getElem?_getD, List.getElem?_eq_getElem (by omega)]
                      exact List.getElem_mem _
                    rw [this]; simp), ?_⟩
                  exact HB0.out.trans ((below_setRow (below_alloc HB5.out _) HB5.out.size _).mono HB0.out.size)
              · have hk6 : k = 6 := by omega
                subst hk6
                have hbw := HB0.out.trans (hB.out.mono HB0.out.size)
                have HBW := Lib.hid hbw
                have hall : L.all okTT = true := by
                  rw [List.all_eq_true]
                  intro x hx
                  obtain ⟨j, hj, rfl⟩ := List.getElem_of_mem hx
                  have := hO.out j (by rw [HL6.out] at hj; exact hj)
                  rwa [List.getD_eq_getElem?_getD, List.getElem?_eq_getElem hj] at this
                have HALL := Lib.hid hall
                clear hall
                obtain ⟨k0, k1, k2, k3, k4, k5⟩ := HFF.out wr hB.out
                by_cases h8 : S.length = 8
                · obtain ⟨bs, os, rfl, hbs, hcs⟩ := hatS (by omega)
                  have hwb := walkN_bnd (cu := cu.toNat) HBND.out 6 hO.out
                  have hT := hT.out
                  obtain ⟨tl, td, hwk⟩ : ∃ tl td, walkN cu.toNat t0 L 6 = (tl, td) := ⟨_, _, rfl⟩
                  rw [hwk] at hwb hT
                  have HWK := Lib.hid hwk
                  clear hwk
                  obtain ⟨a0, a1, a2, a3, a4, a5, a6, a7, rfl⟩ := len8 hwb.1
                  have hcs' := hcs wr hbw
                  clear hcs hwb
                  obtain ⟨s0, s1, s2, s3, s4, s5, s6, s7, rfl⟩ := len8 h8
                  have y0 : wr.cell? ⟨bs, os, none⟩ = some (.int .i64 s0) := hcs' 0 (by simp)
                  have y1 : wr.cell? ⟨bs, os + 1, none⟩ = some (.int .i64 s1) := hcs' 1 (by simp)
                  have y2 : wr.cell? ⟨bs, os + 2, none⟩ = some (.int .i64 s2) := hcs' 2 (by simp)
                  have y3 : wr.cell? ⟨bs, os + 3, none⟩ = some (.int .i64 s3) := hcs' 3 (by simp)
                  have y4 : wr.cell? ⟨bs, os + 4, none⟩ = some (.int .i64 s4) := hcs' 4 (by simp)
                  have y5 : wr.cell? ⟨bs, os + 5, none⟩ = some (.int .i64 s5) := hcs' 5 (by simp)
                  have y6 : wr.cell? ⟨bs, os + 6, none⟩ = some (.int .i64 s6) := hcs' 6 (by simp)
                  have y7 : wr.cell? ⟨bs, os + 7, none⟩ = some (.int .i64 s7) := hcs' 7 (by simp)
                  have z0 : wr.cell? ⟨b6, 0, none⟩ = some (.int .i64 a0) := by unfold World.cell?; rw [hT]; rfl
                  have z1 : wr.cell? ⟨b6, 1, none⟩ = some (.int .i64 a1) := by unfold World.cell?; rw [hT]; rfl
                  have z2 : wr.cell? ⟨b6, 2, none⟩ = some (.int .i64 a2) := by unfold World.cell?; rw [hT]; rfl
                  have z3 : wr.cell? ⟨b6, 3, none⟩ = some (.int .i64 a3) := by unfold World.cell?; rw [hT]; rfl
                  have z4 : wr.cell? ⟨b6, 4, none⟩ = some (.int .i64 a4) := by unfold World.cell?; rw [hT]; rfl
                  have z5 : wr.cell? ⟨b6, 5, none⟩ = some (.int .i64 a5) := by unfold World.cell?; rw [hT]; rfl
                  have z6 : wr.cell? ⟨b6, 6, none⟩ = some (.int .i64 a6) := by unfold World.cell?; rw [hT]; rfl
                  have z7 : wr.cell? ⟨b6, 7, none⟩ = some (.int .i64 a7) := by unfold World.cell?; rw [hT]; rfl
                  have z8 : wr.cell? ⟨b6, 8, none⟩ = some (.string td) := by unfold World.cell?; rw [hT]; rfl
                  have hAA : ∀ W, Sem.run Tryd.prog (Instr.arrayAt 79 (.slice (some ⟨bs, os, none⟩) 8 cS)) W = .ok (.pointer (some ⟨bs, os, none⟩)) W := fun W => by
                    simp [Instr.arrayAt, run_underlying Tryd.underlying79, Result.andThen]
                  have hEQ : ∀ W, (Op.equalIn 10000 81 (.agg #[.int .i64 a0, .int .i64 a1, .int .i64 a2, .int .i64 a3, .int .i64 a4, .int .i64 a5, .int .i64 a6, .int .i64 a7, .string td]) (.agg #[.int .i64 s0, .int .i64 s1, .int .i64 s2, .int .i64 s3, .int .i64 s4, .int .i64 s5, .int .i64 s6, .int .i64 s7, .string dS])).run Tryd.prog W = .ok (decide ([a0, a1, a2, a3, a4, a5, a6, a7] = [s0, s1, s2, s3, s4, s5, s6, s7]) && (td == dS)) W := fun W => eq81 [a0, a1, a2, a3, a4, a5, a6, a7] [s0, s1, s2, s3, s4, s5, s6, s7] td dS rfl rfl W
                  have hGD : Tryd.prog.eqGuardType Tryd.prog.depth 81 = false := by kernel_rfl
                  generalize hbb : (decide ([a0, a1, a2, a3, a4, a5, a6, a7] = [s0, s1, s2, s3, s4, s5, s6, s7]) && (td == dS)) = bb at hEQ
                  have HBBB := Lib.hid hbb
                  clear hT hcs' h8 hbw hatP hbb
                  go_wp2_with fail
                  go_quiet (fail)
                  have hbn := below_drewN HBW.out nq
                  clear hEQ hAA y0 y1 y2 y3 y4 y5 y6 y7 z0 z1 z2 z3 z4 z5 z6 z7 z8 k0 k1 k2 k3 k4 k5
                  go_wp2
                  go_ret
                  refine ⟨show Ending.returned (Value.bool bb) = Ending.returned (Value.bool _) from congrArg (fun b => Ending.returned (Value.bool b)) ?_, hbn⟩
                  rw [HALL.out, ← HBBB.out, HWK.out]
                  simp only [h32, HL6.out, Bool.and_true, Bool.not_false, List.length_cons, List.length_nil, decide_true, Bool.true_and, Prod.mk.injEq, Bool.decide_and]
                  rw [beq_bytes]
                · go_wp2_with fail
                  go_ret
                  exact ⟨by simp [h8], HBW.out⟩
          · have h6' : ¬ (L.length : Int) = 6 := by omega
            have h32' : (salt.size : Int) = 32 := by omega
            go_wp2_with fail
            go_ret
            exact ⟨by simp [h6], HB2.out⟩
        · have h32' : ¬ (salt.size : Int) = 32 := by omega
          go_wp2_with fail
          go_ret
          exact ⟨by simp [h32], HB2.out⟩
      · go_wp2_with fail
        go_ret
        exact ⟨by simp, HB2.out⟩

end Go.Proofs.YthohfbeelepkmaaDoor
