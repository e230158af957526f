/- dialtoneref40.One: a charge that integers determine. -/
import Derived.Test.YthohfbeelepkmaaDoorB1
import Derived.Test.YthohfbeelepkmaaDoorC1
import Derived.Test.YthohfbeelepkmaaDoorA19
namespace Go.Proofs.YthohfbeelepkmaaDoor
open Go.RowKit Go.Shelf

theorem pickI_bound (c : Int) (n : Nat) (hn : 0 < n) : 0 ≤ pickI c n ∧ pickI c n < n := by
  unfold pickI
  have h1 := Int.emod_nonneg (if c < 0 then -(c + 1) else c) (show (n : Int) ≠ 0 by omega)
  have h2 := Int.emod_lt_of_pos (if c < 0 then -(c + 1) else c) (show (0 : Int) < n by omega)
  exact ⟨h1, h2⟩

theorem wrapI64 (x : Int) (h : -9223372036854775808 ≤ x ∧ x ≤ 9223372036854775807) : IntKind.i64.wrap x = x := by
  simp [IntKind.wrap, IntKind.bits, IntKind.signed]
  omega
def I64 (x : Int) : Prop := -9223372036854775808 ≤ x ∧ x ≤ 9223372036854775807
theorem tdiv4 (x : Int) (h : -9223372036854775808 ≤ x ∧ x ≤ 9223372036854775807) : -9223372036854775808 ≤ x.tdiv 4 ∧ x.tdiv 4 ≤ 9223372036854775807 := by
  rcases Int.le_total 0 x with h0 | h0
  · rw [Int.tdiv_eq_ediv_of_nonneg h0]; omega
  · have : x.tdiv 4 = -((-x) / 4) := by
      rw [← Int.tdiv_eq_ediv_of_nonneg (by omega), Int.neg_tdiv, Int.neg_neg]
    rw [this]; omega
/-- What lies there while One runs: the five numbers, the result's zero, the charge. -/
def OneSt (W : World) (b1 b2 b3 : Nat) (x0 x1 x2 x3 x4 : Int) (cs : Array Value) : Prop :=
  W.heap[b1]? = some (.cells #[.int .i64 x0, .int .i64 x1, .int .i64 x2, .int .i64 x3, .int .i64 x4] 68 (0, 0)) ∧ W.heap[b2]? = some (.cells #[.int .i64 0, .int .i64 0, .int .i64 0, .int .i64 0, .string ⟨#[]⟩] 30 (0, 0)) ∧
  W.heap[b3]? = some (.cells cs 30 (0, 0)) ∧ b1 ≠ b3 ∧ b2 ≠ b3 ∧ b1 ≠ b2
theorem OneSt.set {W : World} {b1 b2 b3 : Nat} {x0 x1 x2 x3 x4 : Int} {cs : Array Value} (h : OneSt W b1 b2 b3 x0 x1 x2 x3 x4 cs) (i : Nat) (v : Value) : OneSt (W.setCell ⟨b3, i, none⟩ v) b1 b2 b3 x0 x1 x2 x3 x4 (cs.setIfInBounds i v) := by
  obtain ⟨h1, h2, h3, h4, h5, h6⟩ := h
  refine ⟨?_, ?_, ?_, h4, h5, h6⟩
  · rw [Below.heap_setCell _ _ _ _ h4]; exact h1
  · rw [Below.heap_setCell _ _ _ _ h5]; exact h2
  · simp only [World.setCell, Array.getElem?_modify, h3, Option.map_some, if_true]; rfl
theorem OneSt.cells {W : World} {b1 b2 b3 : Nat} {x0 x1 x2 x3 x4 : Int} {v0 v1 v2 v3 v4 : Value} (h : OneSt W b1 b2 b3 x0 x1 x2 x3 x4 #[v0, v1, v2, v3, v4]) :
    (W.cell? ⟨b1, 0, none⟩ = some (.int .i64 x0) ∧ W.cell? ⟨b1, 1, none⟩ = some (.int .i64 x1) ∧ W.cell? ⟨b1, 2, none⟩ = some (.int .i64 x2) ∧ W.cell? ⟨b1, 3, none⟩ = some (.int .i64 x3) ∧ W.cell? ⟨b1, 4, none⟩ = some (.int .i64 x4)) ∧
    (W.cell? ⟨b3, 0, none⟩ = some v0 ∧ W.cell? ⟨b3, 1, none⟩ = some v1 ∧ W.cell? ⟨b3, 2, none⟩ = some v2 ∧ W.cell? ⟨b3, 3, none⟩ = some v3 ∧ W.cell? ⟨b3, 4, none⟩ = some v4) ∧
    (W.frozen? ⟨b3, 0, none⟩ = false ∧ W.frozen? ⟨b3, 2, none⟩ = false ∧ W.frozen? ⟨b3, 3, none⟩ = false ∧ W.frozen? ⟨b3, 4, none⟩ = false) := by
  obtain ⟨h1, h2, h3, _⟩ := h
  refine ⟨⟨?_, ?_, ?_, ?_, ?_⟩, ⟨?_, ?_, ?_, ?_, ?_⟩, ⟨?_, ?_, ?_, ?_⟩⟩
  all_goals first
    | (unfold World.cell?; rw [h1]; rfl)
    | (unfold World.cell?; rw [h3]; rfl)
    | (unfold World.frozen?; rw [h3]; simp)

def oneCu (x0 : Int) : Int := if pickI x0 8 = 7 then pickI x0 64 else pickI x0 6
def onePe (x1 x2 : Int) : Int := (pickI x1 8 + 1 + pickI x2 7) % 8
def oneAm (x3 : Int) : Int := if pickI x3 16 = 15 then pickI x3 1000000001 else pickI x3 1000
def oneByte (x4 : Int) : UInt8 := UInt8.ofNat (97 + pickI (x4.tdiv 4) 26).toNat
def oneTx (x4 : Int) (k : Nat) : ByteArray := ⟨(List.replicate k (oneByte x4)).toArray⟩
def oneC (x0 x1 x2 x3 x4 : Int) : Ch := ⟨oneCu x0, pickI x1 8, onePe x1 x2, oneAm x3, oneTx x4 (pickI x4 4).toNat⟩

theorem oneTx_snoc (x4 : Int) (k : Nat) : oneTx x4 k ++ ⟨#[oneByte x4]⟩ = oneTx x4 (k + 1) := by
  apply ByteArray.ext
  apply Array.ext'
  simp [oneTx, List.replicate_succ']
theorem strOne (x4 : Int) : strOfNums [97 + pickI (x4.tdiv 4) 26] = ⟨#[oneByte x4]⟩ := by
  simp [strOfNums, oneByte]

def oneReg : Code → Code
  | .seq _ (.seq _ (.seq _ (.seq _ (.seq _ (.seq (.seq _ (.block _ (.loop (.seq _ (.seq (.block _ r) _))))) _))))) => r
  | c => c

def OInv (W0 : World) (b1 b3 : Nat) (x4 pz : Int) (TX BB : ByteArray) (p0 p2 p4 p5 p6 p7 p8 p9 p10 p11 p12 p13 p14 p15 p16 p17 p18 p19 p20 p21 p22 p23 p24 p25 p26 p27 p28 p29 p30 p31 p32 p33 p34 p35 p36 p37 p38 p39 p40 p41 p42 p43 p44 p45 p46 p59 : Value) (L : Array Bool) (a : Act) (w : World) : Prop :=
  (L.getD 12 false = false ∧ ∃ v47 v48 v49 v50 v51 v52 v53 v54 v55 v56 v57 v58 : Value, a = { tmps := #[p0, .pointer (some ⟨b1, 0, none⟩), p2, .pointer (some ⟨b3, 0, none⟩), p4, p5, p6, p7, p8, p9, p10, p11, p12, p13, p14, p15, p16, p17, p18, p19, p20, p21, p22, p23, p24, p25, p26, p27, p28, p29, p30, p31, p32, p33, p34, p35, p36, p37, p38, p39, p40, p41, p42, p43, p44, p45, p46, v47, v48, v49, v50, v51, v52, v53, v54, v55, v56, v57, v58, p59], defers := [] } ∧ Below W0.heap.size W0 w ∧ (L.getD 0 false = true → v47 = .pointer (some ⟨b3, 4, none⟩)) ∧ (L.getD 1 false = true → v48 = .string TX) ∧ (L.getD 2 false = true → v49 = .pointer (some ⟨b1, 4, none⟩)) ∧ (L.getD 3 false = true → v50 = .int .i64 x4) ∧ (L.getD 4 false = true → v51 = .int .i64 (x4.tdiv 4)) ∧ (L.getD 5 false = true → v52 = .int .i64 pz) ∧ (L.getD 6 false = true → v53 = .int .i64 (97 + pz)) ∧ (L.getD 7 false = true → v54 = .int .u8 (97 + pz)) ∧ (L.getD 8 false = true → ∃ h, v55 = .slice (some ⟨h, 0, none⟩) 1 1 ∧ w.heap[h]? = some (.cells #[.int .u8 (97 + pz)] 5 (0, 0))) ∧ (L.getD 9 false = true → v56 = .string BB) ∧ (L.getD 10 false = true → v57 = .string (TX ++ BB)) ∧ (L.getD 11 false = true → v58 = .pointer (some ⟨b3, 4, none⟩))) ∨
  ((∀ i, i < 13 → L.getD i false = true) ∧ ∃ v47 v48 v49 v50 v51 v52 v53 v54 v55 v56 v57 v58 : Value, a = { tmps := #[p0, .pointer (some ⟨b1, 0, none⟩), p2, .pointer (some ⟨b3, 0, none⟩), p4, p5, p6, p7, p8, p9, p10, p11, p12, p13, p14, p15, p16, p17, p18, p19, p20, p21, p22, p23, p24, p25, p26, p27, p28, p29, p30, p31, p32, p33, p34, p35, p36, p37, p38, p39, p40, p41, p42, p43, p44, p45, p46, v47, v48, v49, v50, v51, v52, v53, v54, v55, v56, v57, v58, p59], defers := [] } ∧ ∃ w1, Below W0.heap.size W0 w1 ∧ w = w1.setCell ⟨b3, 4, none⟩ (.string (TX ++ BB)))

set_option maxHeartbeats 4000000 in
set_option maxRecDepth 100000 in
theorem one_region (W0 : World) (b1 b3 : Nat) (x4 : Int) (TX : ByteArray) (p0 p2 p4 p5 p6 p7 p8 p9 p10 p11 p12 p13 p14 p15 p16 p17 p18 p19 p20 p21 p22 p23 p24 p25 p26 p27 p28 p29 p30 p31 p32 p33 p34 p35 p36 p37 p38 p39 p40 p41 p42 p43 p44 p45 p46 p47 p48 p49 p50 p51 p52 p53 p54 p55 p56 p57 p58 p59 : Value) (Q : Exit → Act → World → Prop) (h4 : I64 x4)
    (c1 : W0.cell? ⟨b1, 4, none⟩ = some (.int .i64 x4)) (c3 : W0.cell? ⟨b3, 4, none⟩ = some (.string TX)) (f3 : W0.frozen? ⟨b3, 4, none⟩ = false) (hTX : TX.size ≤ 100)
    (hQ : ∀ w1 (v47 v48 v49 v50 v51 v52 v53 v54 v55 v56 v57 v58 : Value), Below W0.heap.size W0 w1 → Q .normal { tmps := #[p0, .pointer (some ⟨b1, 0, none⟩), p2, .pointer (some ⟨b3, 0, none⟩), p4, p5, p6, p7, p8, p9, p10, p11, p12, p13, p14, p15, p16, p17, p18, p19, p20, p21, p22, p23, p24, p25, p26, p27, p28, p29, p30, p31, p32, p33, p34, p35, p36, p37, p38, p39, p40, p41, p42, p43, p44, p45, p46, v47, v48, v49, v50, v51, v52, v53, v54, v55, v56, v57, v58, p59], defers := [] } (w1.setCell ⟨b3, 4, none⟩ (.string (TX ++ ⟨#[oneByte x4]⟩)))) :
    (oneReg (Tryd.f35.body.getD .skip)).wp Tryd.prog Q { tmps := #[p0, .pointer (some ⟨b1, 0, none⟩), p2, .pointer (some ⟨b3, 0, none⟩), p4, p5, p6, p7, p8, p9, p10, p11, p12, p13, p14, p15, p16, p17, p18, p19, p20, p21, p22, p23, p24, p25, p26, p27, p28, p29, p30, p31, p32, p33, p34, p35, p36, p37, p38, p39, p40, p41, p42, p43, p44, p45, p46, p47, p48, p49, p50, p51, p52, p53, p54, p55, p56, p57, p58, p59], defers := [] } W0 := by
  have hq26 : ∀ W, Calls Tryd.prog 41 #[.int .i64 (x4.tdiv 4), .int .i64 26] W (fun e w' => e = .returned (.int .i64 (pickI (x4.tdiv 4) 26)) ∧ W = w') := fun W => by have := pick_calls (x4.tdiv 4) 26 W (tdiv4 x4 h4).1 (tdiv4 x4 h4).2 (Nat.le_of_ble_eq_true rfl) (Nat.le_of_ble_eq_true rfl); simpa using this
  have bp26 := pickI_bound (x4.tdiv 4) 26 (by decide)
  generalize hp26 : pickI (x4.tdiv 4) 26 = pz at *
  have hwr := wrapI64 _ (tdiv4 x4 h4)
  have hwr1 := wrapI64 (97 + pz) (by omega)
  have hwr2 : IntKind.u8.wrap (97 + pz) = 97 + pz := by
    simp [IntKind.wrap, IntKind.bits, IntKind.signed]
    omega
  have hstr : strOfNums [97 + pz] = ⟨#[oneByte x4]⟩ := by rw [← hp26]; exact strOne x4
  have hz2 : (⟨#[oneByte x4]⟩ : ByteArray).size = 1 := rfl
  generalize hBB : (⟨#[oneByte x4]⟩ : ByteArray) = BB at *
  have hle : ¬ (TX.size + BB.size > 9223372036854775807) := by omega
  have hle2 : ¬ (9223372036854775807 < TX.size + BB.size) := by omega
  have hle3 : TX.size + BB.size ≤ 9223372036854775807 := by omega
  clear hz2
  have hl1 := World.block_lt_of_cell? W0 _ c1
  have hl3 := World.block_lt_of_cell? W0 _ c3
  dsimp only at hl1 hl3
  have hst : ∀ (w : World) (hh : Nat), w.heap[hh]? = some (.cells #[.int .u8 (97 + pz)] 5 (0, 0)) → (convert 66 9 (.slice (some ⟨hh, 0, none⟩) 1 1)).run Tryd.prog w = .ok (.string BB) w := fun w hh hq => by
    have hI : Ints w (.slice (some ⟨hh, 0, none⟩) 1 1) .u8 [97 + pz] := by
      refine Ints.of_cells rfl (by simp) (Nat.le_refl _) (Array.getElem?_eq_some_iff.1 hq).1 fun j hj => ?_
      have : j = 0 := by simp at hj; omega
      subst this
      unfold World.cell?; rw [hq]; rfl
    rw [← hstr]
    exact Ints.toString (P := Tryd.prog) hI (by simp) 66 5 9 (by kernel_rfl) (by kernel_rfl) (by kernel_rfl)
  clear hp26 hstr hBB
  simp only [Tryd.f35, oneReg, Option.getD]
  refine wp_region_cl (OInv W0 b1 b3 x4 pz TX BB p0 p2 p4 p5 p6 p7 p8 p9 p10 p11 p12 p13 p14 p15 p16 p17 p18 p19 p20 p21 p22 p23 p24 p25 p26 p27 p28 p29 p30 p31 p32 p33 p34 p35 p36 p37 p38 p39 p40 p41 p42 p43 p44 p45 p46 p59) (by kernel_rfl) (.inl ⟨rfl, _, _, _, _, _, _, _, _, _, _, _, _, rfl, below_drew (Below.refl _ _), ?_, ?_, ?_, ?_, ?_, ?_, ?_, ?_, ?_, ?_, ?_, ?_⟩) ?_ ?_
  iterate 12 (intro h; exact absurd h (by decide))
  · intro L act w i hs hcl hI hr
    obtain ⟨hi13, hf', hpre⟩ := ready_spec hr
    have hi13 : i < 13 := hi13
    have hfi : L.getD i false = false := by
      have h8 : i < L.size := by rw [hs]; exact hi13
      simp [Array.getD, h8] at hf' ⊢; exact hf'
    rcases hI with ⟨h12, v47, v48, v49, v50, v51, v52, v53, v54, v55, v56, v57, v58, rfl, hB, k0, k1, k2, k3, k4, k5, k6, k7, k8, k9, k10, k11⟩ | ⟨hall, _⟩
    · rcases (by omega : i = 0 ∨ i = 1 ∨ i = 2 ∨ i = 3 ∨ i = 4 ∨ i = 5 ∨ i = 6 ∨ i = 7 ∨ i = 8 ∨ i = 9 ∨ i = 10 ∨ i = 11 ∨ i = 12) with rfl | rfl | rfl | rfl | rfl | rfl | rfl | rfl | rfl | rfl | rfl | rfl | rfl
      · refine wpOp_step rfl (fun K' hK => ?_)
        rw [if_pos (by rfl)]
        go_simp
        refine hK _ _ (.inl ⟨by rw [bit_set hs (by decide), h12]; rfl, _, _, _, _, _, _, _, _, _, _, _, _, rfl, hB, ?_, ?_, ?_, ?_, ?_, ?_, ?_, ?_, ?_, ?_, ?_, ?_⟩) <;> intro h
        all_goals first | rfl | (rw [bit_set hs (by decide)] at h; first | exact k0 (by simpa using h) | exact k1 (by simpa using h) | exact k2 (by simpa using h) | exact k3 (by simpa using h) | exact k4 (by simpa using h) | exact k5 (by simpa using h) | exact k6 (by simpa using h) | exact k7 (by simpa using h) | exact k8 (by simpa using h) | exact k9 (by simpa using h) | exact k10 (by simpa using h) | exact k11 (by simpa using h))
      · obtain rfl := k0 (hpre _ rfl ⟨0, .data⟩ (by simp) rfl)
        refine wpOp_step rfl (fun K' hK => ?_)
        rw [if_pos (by rfl)]
        have hc3 := (hB.cell (p := ⟨b3, 4, none⟩) hl3).trans c3
        have hc1 := (hB.cell (p := ⟨b1, 4, none⟩) hl1).trans c1
        go_simp
        refine hK _ _ (.inl ⟨by rw [bit_set hs (by decide), h12]; rfl, _, _, _, _, _, _, _, _, _, _, _, _, rfl, hB, ?_, ?_, ?_, ?_, ?_, ?_, ?_, ?_, ?_, ?_, ?_, ?_⟩) <;> intro h
        all_goals first | rfl | (rw [bit_set hs (by decide)] at h; first | exact k0 (by simpa using h) | exact k1 (by simpa using h) | exact k2 (by simpa using h) | exact k3 (by simpa using h) | exact k4 (by simpa using h) | exact k5 (by simpa using h) | exact k6 (by simpa using h) | exact k7 (by simpa using h) | exact k8 (by simpa using h) | exact k9 (by simpa using h) | exact k10 (by simpa using h) | exact k11 (by simpa using h))
      · refine wpOp_step rfl (fun K' hK => ?_)
        rw [if_pos (by rfl)]
        go_simp
        refine hK _ _ (.inl ⟨by rw [bit_set hs (by decide), h12]; rfl, _, _, _, _, _, _, _, _, _, _, _, _, rfl, hB, ?_, ?_, ?_, ?_, ?_, ?_, ?_, ?_, ?_, ?_, ?_, ?_⟩) <;> intro h
        all_goals first | rfl | (rw [bit_set hs (by decide)] at h; first | exact k0 (by simpa using h) | exact k1 (by simpa using h) | exact k2 (by simpa using h) | exact k3 (by simpa using h) | exact k4 (by simpa using h) | exact k5 (by simpa using h) | exact k6 (by simpa using h) | exact k7 (by simpa using h) | exact k8 (by simpa using h) | exact k9 (by simpa using h) | exact k10 (by simpa using h) | exact k11 (by simpa using h))
      · obtain rfl := k2 (hpre _ rfl ⟨2, .data⟩ (by simp) rfl)
        refine wpOp_step rfl (fun K' hK => ?_)
        rw [if_pos (by rfl)]
        have hc3 := (hB.cell (p := ⟨b3, 4, none⟩) hl3).trans c3
        have hc1 := (hB.cell (p := ⟨b1, 4, none⟩) hl1).trans c1
        go_simp
        refine hK _ _ (.inl ⟨by rw [bit_set hs (by decide), h12]; rfl, _, _, _, _, _, _, _, _, _, _, _, _, rfl, hB, ?_, ?_, ?_, ?_, ?_, ?_, ?_, ?_, ?_, ?_, ?_, ?_⟩) <;> intro h
        all_goals first | rfl | (rw [bit_set hs (by decide)] at h; first | exact k0 (by simpa using h) | exact k1 (by simpa using h) | exact k2 (by simpa using h) | exact k3 (by simpa using h) | exact k4 (by simpa using h) | exact k5 (by simpa using h) | exact k6 (by simpa using h) | exact k7 (by simpa using h) | exact k8 (by simpa using h) | exact k9 (by simpa using h) | exact k10 (by simpa using h) | exact k11 (by simpa using h))
      · obtain rfl := k3 (hpre _ rfl ⟨3, .data⟩ (by simp) rfl)
        refine wpOp_step rfl (fun K' hK => ?_)
        rw [if_pos (by rfl)]
        go_simp
        refine hK _ _ (.inl ⟨by rw [bit_set hs (by decide), h12]; rfl, _, _, _, _, _, _, _, _, _, _, _, _, rfl, hB, ?_, ?_, ?_, ?_, ?_, ?_, ?_, ?_, ?_, ?_, ?_, ?_⟩) <;> intro h
        all_goals first | rfl | (rw [bit_set hs (by decide)] at h; first | exact k0 (by simpa using h) | exact k1 (by simpa using h) | exact k2 (by simpa using h) | exact k3 (by simpa using h) | exact k4 (by simpa using h) | exact k5 (by simpa using h) | exact k6 (by simpa using h) | exact k7 (by simpa using h) | exact k8 (by simpa using h) | exact k9 (by simpa using h) | exact k10 (by simpa using h) | exact k11 (by simpa using h))
      · obtain rfl := k4 (hpre _ rfl ⟨4, .data⟩ (by simp) rfl)
        refine wpOp_step rfl (fun K' hK => ?_)
        rw [if_pos (by rfl)]
        go_simp
        refine (hq26 w).mono ?_
        rintro e w' ⟨rfl, rfl⟩
        refine hK _ _ (.inl ⟨by rw [bit_set hs (by decide), h12]; rfl, _, _, _, _, _, _, _, _, _, _, _, _, rfl, hB, ?_, ?_, ?_, ?_, ?_, ?_, ?_, ?_, ?_, ?_, ?_, ?_⟩) <;> intro h
        all_goals first | rfl | (rw [bit_set hs (by decide)] at h; first | exact k0 (by simpa using h) | exact k1 (by simpa using h) | exact k2 (by simpa using h) | exact k3 (by simpa using h) | exact k4 (by simpa using h) | exact k5 (by simpa using h) | exact k6 (by simpa using h) | exact k7 (by simpa using h) | exact k8 (by simpa using h) | exact k9 (by simpa using h) | exact k10 (by simpa using h) | exact k11 (by simpa using h))
      · obtain rfl := k5 (hpre _ rfl ⟨5, .data⟩ (by simp) rfl)
        refine wpOp_step rfl (fun K' hK => ?_)
        rw [if_pos (by rfl)]
        go_simp
        refine hK _ _ (.inl ⟨by rw [bit_set hs (by decide), h12]; rfl, _, _, _, _, _, _, _, _, _, _, _, _, rfl, hB, ?_, ?_, ?_, ?_, ?_, ?_, ?_, ?_, ?_, ?_, ?_, ?_⟩) <;> intro h
        all_goals first | rfl | (rw [bit_set hs (by decide)] at h; first | exact k0 (by simpa using h) | exact k1 (by simpa using h) | exact k2 (by simpa using h) | exact k3 (by simpa using h) | exact k4 (by simpa using h) | exact k5 (by simpa using h) | exact k6 (by simpa using h) | exact k7 (by simpa using h) | exact k8 (by simpa using h) | exact k9 (by simpa using h) | exact k10 (by simpa using h) | exact k11 (by simpa using h))
      · obtain rfl := k6 (hpre _ rfl ⟨6, .data⟩ (by simp) rfl)
        refine wpOp_step rfl (fun K' hK => ?_)
        rw [if_pos (by rfl)]
        go_simp
        refine hK _ _ (.inl ⟨by rw [bit_set hs (by decide), h12]; rfl, _, _, _, _, _, _, _, _, _, _, _, _, rfl, hB, ?_, ?_, ?_, ?_, ?_, ?_, ?_, ?_, ?_, ?_, ?_, ?_⟩) <;> intro h
        all_goals first | rfl | (rw [bit_set hs (by decide)] at h; first | exact k0 (by simpa using h) | exact k1 (by simpa using h) | exact k2 (by simpa using h) | exact k3 (by simpa using h) | exact k4 (by simpa using h) | exact k5 (by simpa using h) | exact k6 (by simpa using h) | exact k7 (by simpa using h) | exact k8 (by simpa using h) | exact k9 (by simpa using h) | exact k10 (by simpa using h) | exact k11 (by simpa using h))
      · obtain rfl := k7 (hpre _ rfl ⟨7, .data⟩ (by simp) rfl)
        refine wpOp_step rfl (fun K' hK => ?_)
        rw [if_pos (by rfl)]
        go_simp
        refine hK _ _ (.inl ⟨by rw [bit_set hs (by decide), h12]; rfl, _, _, _, _, _, _, _, _, _, _, _, _, rfl, below_alloc hB _, ?_, ?_, ?_, ?_, ?_, ?_, ?_, ?_, ?_, ?_, ?_, ?_⟩) <;> intro h
        all_goals first | rfl | (rw [bit_set hs (by decide)] at h; first | exact k0 (by simpa using h) | exact k1 (by simpa using h) | exact k2 (by simpa using h) | exact k3 (by simpa using h) | exact k4 (by simpa using h) | exact k5 (by simpa using h) | exact k6 (by simpa using h) | exact k7 (by simpa using h) | exact k8 (by simpa using h) | exact k9 (by simpa using h) | exact k10 (by simpa using h) | exact k11 (by simpa using h)) | exact ⟨w.heap.size, rfl, heap_new w _⟩
      · obtain ⟨hh, rfl, hq⟩ := k8 (hpre _ rfl ⟨8, .data⟩ (by simp) rfl)
        refine wpOp_step rfl (fun K' hK => ?_)
        rw [if_pos (by rfl)]
        have hsv := hst w hh hq
        go_simp
        refine hK _ _ (.inl ⟨by rw [bit_set hs (by decide), h12]; rfl, _, _, _, _, _, _, _, _, _, _, _, _, rfl, hB, ?_, ?_, ?_, ?_, ?_, ?_, ?_, ?_, ?_, ?_, ?_, ?_⟩) <;> intro h
        all_goals first | rfl | (rw [bit_set hs (by decide)] at h; first | exact k0 (by simpa using h) | exact k1 (by simpa using h) | exact k2 (by simpa using h) | exact k3 (by simpa using h) | exact k4 (by simpa using h) | exact k5 (by simpa using h) | exact k6 (by simpa using h) | exact k7 (by simpa using h) | exact k8 (by simpa using h) | exact k9 (by simpa using h) | exact k10 (by simpa using h) | exact k11 (by simpa using h)) | exact ⟨hh, rfl, hq⟩
      · obtain rfl := k1 (hpre _ rfl ⟨1, .data⟩ (by simp) rfl)
        obtain rfl := k9 (hpre _ rfl ⟨9, .data⟩ (by simp) rfl)
        refine wpOp_step rfl (fun K' hK => ?_)
        rw [if_pos (by rfl)]
        go_simp
        refine hK _ _ (.inl ⟨by rw [bit_set hs (by decide), h12]; rfl, _, _, _, _, _, _, _, _, _, _, _, _, rfl, hB, ?_, ?_, ?_, ?_, ?_, ?_, ?_, ?_, ?_, ?_, ?_, ?_⟩) <;> intro h
        all_goals first | rfl | (rw [bit_set hs (by decide)] at h; first | exact k0 (by simpa using h) | exact k1 (by simpa using h) | exact k2 (by simpa using h) | exact k3 (by simpa using h) | exact k4 (by simpa using h) | exact k5 (by simpa using h) | exact k6 (by simpa using h) | exact k7 (by simpa using h) | exact k8 (by simpa using h) | exact k9 (by simpa using h) | exact k10 (by simpa using h) | exact k11 (by simpa using h))
      · refine wpOp_step rfl (fun K' hK => ?_)
        rw [if_pos (by rfl)]
        go_simp
        refine hK _ _ (.inl ⟨by rw [bit_set hs (by decide), h12]; rfl, _, _, _, _, _, _, _, _, _, _, _, _, rfl, hB, ?_, ?_, ?_, ?_, ?_, ?_, ?_, ?_, ?_, ?_, ?_, ?_⟩) <;> intro h
        all_goals first | rfl | (rw [bit_set hs (by decide)] at h; first | exact k0 (by simpa using h) | exact k1 (by simpa using h) | exact k2 (by simpa using h) | exact k3 (by simpa using h) | exact k4 (by simpa using h) | exact k5 (by simpa using h) | exact k6 (by simpa using h) | exact k7 (by simpa using h) | exact k8 (by simpa using h) | exact k9 (by simpa using h) | exact k10 (by simpa using h) | exact k11 (by simpa using h))
      · obtain rfl := k10 (hpre _ rfl ⟨10, .data⟩ (by simp) rfl)
        have b11 := hpre _ rfl ⟨11, .data⟩ (by simp) rfl
        obtain rfl := k11 b11
        have hc := (hB.cell (p := ⟨b3, 4, none⟩) hl3).trans c3
        have hf := (hB.frozen (p := ⟨b3, 4, none⟩) hl3).trans f3
        refine wpOp_step rfl (fun K' hK => ?_)
        rw [if_pos (by rfl)]
        go_simp
        refine hK _ _ (.inr ⟨?_, _, _, _, _, _, _, _, _, _, _, _, _, rfl, w, hB, rfl⟩)
        intro q hq
        rw [bit_set hs (by decide)]
        rcases (by omega : q = 0 ∨ q = 1 ∨ q = 2 ∨ q = 3 ∨ q = 4 ∨ q = 5 ∨ q = 6 ∨ q = 7 ∨ q = 8 ∨ q = 9 ∨ q = 10 ∨ q = 11 ∨ q = 12) with rfl | rfl | rfl | rfl | rfl | rfl | rfl | rfl | rfl | rfl | rfl | rfl | rfl
        · simp [hpre _ rfl ⟨0, .phase⟩ (by simp) rfl]
        · simp [hpre _ rfl ⟨1, .phase⟩ (by simp) rfl]
        · simp [hpre _ rfl ⟨2, .phase⟩ (by simp) rfl]
        · simp [hpre _ rfl ⟨3, .phase⟩ (by simp) rfl]
        · simp [hpre _ rfl ⟨4, .phase⟩ (by simp) rfl]
        · simp [hpre _ rfl ⟨5, .phase⟩ (by simp) rfl]
        · simp [hpre _ rfl ⟨6, .phase⟩ (by simp) rfl]
        · simp [hpre _ rfl ⟨7, .phase⟩ (by simp) rfl]
        · simp [hpre _ rfl ⟨8, .phase⟩ (by simp) rfl]
        · simp [hpre _ rfl ⟨9, .phase⟩ (by simp) rfl]
        · simp [hpre _ rfl ⟨10, .phase⟩ (by simp) rfl]
        · simp [b11]
        · simp
    · rw [hall i hi13] at hfi; cases hfi
  · intro L act w hs hI hr
    have hall := all_run hs hr (backs_spec (by decide +kernel))
    rcases hI with ⟨h12, _⟩ | ⟨_, v47, v48, v49, v50, v51, v52, v53, v54, v55, v56, v57, v58, rfl, w1, hb, rfl⟩
    · rw [hall 12 (by decide)] at h12; cases h12
    · exact hQ w1 v47 v48 v49 v50 v51 v52 v53 v54 v55 v56 v57 v58 hb


end Go.Proofs.YthohfbeelepkmaaDoor

/- dialtoneref40.One, its parts joined. -/
namespace Go.Proofs.YthohfbeelepkmaaDoor
open Go.RowKit Go.Shelf

def one4 : Code → Code
  | .seq _ (.seq _ (.seq _ r)) => r
  | c => c
def one7 : Code → Code
  | .seq _ (.seq _ (.seq _ (.seq _ (.seq _ r)))) => r
  | c => c
theorem OneSt.below {W W' : World} {b1 b2 b3 : Nat} {x0 x1 x2 x3 x4 : Int} {cs : Array Value} (h : OneSt W b1 b2 b3 x0 x1 x2 x3 x4 cs) (hb : Below W.heap.size W W') : OneSt W' b1 b2 b3 x0 x1 x2 x3 x4 cs := by
  obtain ⟨h1, h2, h3, h4⟩ := h
  exact ⟨(hb.block _ (Array.getElem?_eq_some_iff.1 h1).1).trans h1, (hb.block _ (Array.getElem?_eq_some_iff.1 h2).1).trans h2, (hb.block _ (Array.getElem?_eq_some_iff.1 h3).1).trans h3, h4⟩

set_option maxHeartbeats 4000000 in
set_option maxRecDepth 100000 in
theorem one_r4 (cu am : Int) (x0 x1 x2 x3 x4 : Int) (n b1 b2 b3 : Nat) (w W : World) (p0 p4 p5 p6 p7 p8 p9 p10 p11 p12 p13 p14 p15 p16 p17 p18 p19 p20 p21 p22 p23 p24 p25 p26 p27 p28 p29 p30 p31 p32 p33 p34 p35 p36 p37 p38 p39 p40 p41 p42 p43 p44 p45 p46 p47 p48 p49 p50 p51 p52 p53 p54 p55 p56 p57 p58 p59 : Value) (R : Ending → World → Prop) (h0 : I64 x0) (h1 : I64 x1) (h2 : I64 x2) (h3 : I64 x3) (h4 : I64 x4)
    (hS : OneSt W b1 b2 b3 x0 x1 x2 x3 x4 #[.int .i64 cu, .int .i64 (pickI x1 8), .int .i64 0, .int .i64 am, .string ⟨#[]⟩]) (hb : Below n w W) (hn2 : n ≤ b2) (hn3 : n ≤ b3)
    (hR : ∀ W', Below n w W' → R (.returned ((⟨cu, pickI x1 8, onePe x1 x2, if pickI x3 16 = 15 then pickI x3 1000000001 else am, oneTx x4 (pickI x4 4).toNat⟩ : Ch)).val) W') :
    (one4 (Tryd.f35.body.getD .skip)).wp Tryd.prog (bodyPost Tryd.prog Tryd.f35 R) { tmps := #[p0, .pointer (some ⟨b1, 0, none⟩), .pointer (some ⟨b2, 0, none⟩), .pointer (some ⟨b3, 0, none⟩), p4, p5, p6, p7, p8, p9, p10, p11, p12, p13, p14, p15, p16, p17, p18, p19, p20, p21, p22, p23, p24, p25, p26, p27, p28, p29, p30, p31, p32, p33, p34, p35, p36, p37, p38, p39, p40, p41, p42, p43, p44, p45, p46, p47, p48, p49, p50, p51, p52, p53, p54, p55, p56, p57, p58, p59], defers := [] } W := by
  have hq7 : ∀ W, Calls Tryd.prog 41 #[.int .i64 (x2), .int .i64 7] W (fun e w' => e = .returned (.int .i64 (pickI (x2) 7)) ∧ W = w') := fun W => by have := pick_calls (x2) 7 W h2.1 h2.2 (Nat.le_of_ble_eq_true rfl) (Nat.le_of_ble_eq_true rfl); simpa using this
  have hq16 : ∀ W, Calls Tryd.prog 41 #[.int .i64 (x3), .int .i64 16] W (fun e w' => e = .returned (.int .i64 (pickI (x3) 16)) ∧ W = w') := fun W => by have := pick_calls (x3) 16 W h3.1 h3.2 (Nat.le_of_ble_eq_true rfl) (Nat.le_of_ble_eq_true rfl); simpa using this
  have hqB : ∀ W, Calls Tryd.prog 41 #[.int .i64 (x3), .int .i64 1000000001] W (fun e w' => e = .returned (.int .i64 (pickI (x3) 1000000001)) ∧ W = w') := fun W => by have := pick_calls (x3) 1000000001 W h3.1 h3.2 (Nat.le_of_ble_eq_true rfl) (Nat.le_of_ble_eq_true rfl); simpa using this
  have hq4 : ∀ W, Calls Tryd.prog 41 #[.int .i64 (x4), .int .i64 4] W (fun e w' => e = .returned (.int .i64 (pickI (x4) 4)) ∧ W = w') := fun W => by have := pick_calls (x4) 4 W h4.1 h4.2 (Nat.le_of_ble_eq_true rfl) (Nat.le_of_ble_eq_true rfl); simpa using this
  have I30 := Lib.hid (show (Tryd.prog.info? 30).map (·.size) = some 5 by kernel_rfl)
  simp only [Tryd.f35, one4, Option.getD]
  obtain ⟨⟨q0, q1, q2, q3, q4⟩, ⟨r0, r1, r2, r3, r4⟩, ⟨f0, f2, f3, f4⟩⟩ := hS.cells
  have HB := Lib.hid hb
  have HS := Lib.hid hS
  have HR := Lib.hid hR
  have bp4 := pickI_bound x4 4 (by decide)
  clear hb hS hR
  have bp8 := pickI_bound x1 8 (by decide)
  have bp7 := pickI_bound x2 7 (by decide)
  have hpe : onePe x1 x2 = (pickI x1 8 + 1 + pickI x2 7) % 8 := rfl
  generalize pickI x1 8 = pa at *
  generalize pickI x2 7 = p7' at *
  have htm : (pa + 1 + p7').tmod 8 = (pa + 1 + p7') % 8 := Int.tmod_eq_emod_of_nonneg (by omega)
  have hw1 := wrapI64 (pa + 1) (by omega)
  have hw2 := wrapI64 (pa + 1 + p7') (by omega)
  rw [← hpe] at htm
  generalize onePe x1 x2 = PE at *
  clear hpe
  have k1 := r1
  have k2 := q2
  have hne : b3 ≠ b1 := fun h => HS.out.2.2.2.1 h.symm
  have hA : ∀ v, (W.setCell ⟨b3, 2, none⟩ v).drew.cell? ⟨b3, 1, none⟩ = some (.int .i64 pa) ∧ (W.setCell ⟨b3, 2, none⟩ v).drew.cell? ⟨b1, 2, none⟩ = some (.int .i64 x2) := fun v => ⟨cellS (by decide) r1 v, cellF hne q2 v⟩
  go_wp2_with fail
  go_region_held3 (fun w' => w'.cell? ⟨b3, 1, none⟩ = some (.int .i64 pa) ∧ w'.cell? ⟨b1, 2, none⟩ = some (.int .i64 x2)) (first | go_keep | exact hA _)
    (first | (go_at_call 41; ((with_reducible refine (hq7 _).mono ?_)); rintro e w' ⟨rfl, rfl⟩))
  have hS2 : OneSt (W.setCell ⟨b3, 2, none⟩ (.int .i64 PE)).drew b1 b2 b3 x0 x1 x2 x3 x4 #[.int .i64 cu, .int .i64 pa, .int .i64 PE, .int .i64 am, .string ⟨#[]⟩] := HS.out.set 2 (.int .i64 PE)
  have hB2 : Below n w (W.setCell ⟨b3, 2, none⟩ (.int .i64 PE)).drew := (HB.out.setCell (p := ⟨b3, 2, none⟩) hn3 _).drew
  have HS2 := Lib.hid hS2
  have HB2 := Lib.hid hB2
  clear hS2 hB2 hA k1 k2 q0 q1 q2 q3 q4 r0 r1 r2 r3 r4 f0 f2 f3 f4 htm hw1 hw2 HS HB
  generalize (W.setCell ⟨b3, 2, none⟩ (.int .i64 PE)).drew = W2 at *
  obtain ⟨⟨q0, q1, q2, q3, q4⟩, ⟨r0, r1, r2, r3, r4⟩, ⟨f0, f2, f3, f4⟩⟩ := HS2.out.cells
  go_wp2_with fail
  refine (hq16 W2).mono ?_
  rintro e w2 ⟨rfl, rfl⟩
  by_cases h15 : pickI x3 16 = 15
  · have HR15 := Lib.hid (fun W' h => by have := HR.out W' h; rwa [if_pos h15] at this)
    go_wp2_with fail
    refine (hqB W2).mono ?_
    rintro e w2 ⟨rfl, rfl⟩
    have hS3 := HS2.out.set 3 (.int .i64 (pickI x3 1000000001))
    have hB3 := HB2.out.setCell (p := ⟨b3, 3, none⟩) hn3 (.int .i64 (pickI x3 1000000001))
    have HS := Lib.hid hS3
    have HB := Lib.hid hB3
    clear hS3 hB3 HR
    have HR := HR15
    generalize hamm : pickI x3 1000000001 = am2 at *
    clear hamm h15
    go_wp2_with fail
    go_loopw [4] (fun z4 wr => ∃ k : Nat, (k : Int) ≤ pickI x4 4 ∧ z4 = .int .i64 k ∧ Aside (OneSt wr b1 b2 b3 x0 x1 x2 x3 x4 #[.int .i64 cu, .int .i64 pa, .int .i64 PE, .int .i64 am2, .string (oneTx x4 k)]) ∧ Aside (Below n w wr)) (fun z4 _ => 4 - (intOf z4).toNat)
    case atStart => exact ⟨0, by omega, rfl, HS.out, HB.out⟩
    case round =>
      obtain ⟨k, hk, rfl, hS, hB⟩ := hrel
      clear q0 q1 q2 q3 q4 r0 r1 r2 r3 r4 f0 f2 f3 f4
      obtain ⟨⟨q0, q1, q2, q3, q4⟩, ⟨r0, r1, r2, r3, r4⟩, ⟨f0, f2, f3, f4⟩⟩ := hS.out.cells
      go_wp2_with fail
      refine (hq4 wr).mono ?_
      rintro e w1 ⟨rfl, rfl⟩
      by_cases hlt : (k : Int) < pickI x4 4
      · have hk4 : k < 4 := by omega
        have hz1 : (oneTx x4 k).size = k := by simp [oneTx, ByteArray.size]
        have HRG := Lib.hid (fun Q p0 p2 p4 p5 p6 p7 p8 p9 p10 p11 p12 p13 p14 p15 p16 p17 p18 p19 p20 p21 p22 p23 p24 p25 p26 p27 p28 p29 p30 p31 p32 p33 p34 p35 p36 p37 p38 p39 p40 p41 p42 p43 p44 p45 p46 p47 p48 p49 p50 p51 p52 p53 p54 p55 p56 p57 p58 p59 hQ => one_region wr b1 b3 x4 (oneTx x4 k) p0 p2 p4 p5 p6 p7 p8 p9 p10 p11 p12 p13 p14 p15 p16 p17 p18 p19 p20 p21 p22 p23 p24 p25 p26 p27 p28 p29 p30 p31 p32 p33 p34 p35 p36 p37 p38 p39 p40 p41 p42 p43 p44 p45 p46 p47 p48 p49 p50 p51 p52 p53 p54 p55 p56 p57 p58 p59 Q h4 q4 r4 f4 (by omega) hQ)
        clear hz1
        go_wp2_with fail
        refine HRG.out _ _ _ _ _ _ _ _ _ _ _ _ _ _ _ _ _ _ _ _ _ _ _ _ _ _ _ _ _ _ _ _ _ _ _ _ _ _ _ _ _ _ _ _ _ _ _ _ _ _ _ _ _ _ _ _ _ _ _ ?_
        intro w2 v47 v48 v49 v50 v51 v52 v53 v54 v55 v56 v57 v58 hb2
        have hS2 := (hS.out.below hb2).set 4 (.string (oneTx x4 k ++ ⟨#[oneByte x4]⟩))
        rw [oneTx_snoc] at hS2 ⊢
        have hB2 := (hB.out.trans (hb2.mono (Nat.le_of_lt (Nat.lt_of_le_of_lt hn3 (Array.getElem?_eq_some_iff.1 hS.out.2.2.1).1)))).setCell (p := ⟨b3, 4, none⟩) hn3 (.string (oneTx x4 (k + 1)))
        have HS2 := Lib.hid hS2
        have HB2 := Lib.hid hB2
        clear hS2 hB2 hb2 q0 q1 q2 q3 q4 r0 r1 r2 r3 r4 f0 f2 f3 f4 HRG
        generalize w2.setCell ⟨b3, 4, none⟩ (.string (oneTx x4 (k + 1))) = w3 at *
        go_wp2_with fail
        go_roundw
        case measure => simp [intOf]; omega
        case rel => exact ⟨k + 1, by omega, by go_num, HS2.out, HB2.out⟩
      · have hke : (k : Int) = pickI x4 4 := by omega
        have HKE := Lib.hid hke
        clear hke
        go_wp2_with (refine wpList_store_row rfl 30 (.tmp 2) (.tmp 59) rfl b2 rfl 30 _ #[.int .i64 cu, .int .i64 pa, .int .i64 PE, .int .i64 am2, .string (oneTx x4 k)] rfl hS.out.2.1 I30.out rfl (by simp [Value.oneCell']) ?_)
        refine bodyPost_row b2 30 _ _ (setRow_heap _ _ _ _ 30 (0, 0) hS.out.2.1) Tryd.underlying30 rfl I30.out rfl rfl rfl ?_
        have := HR.out (wr.setRow b2 #[.int .i64 cu, .int .i64 pa, .int .i64 PE, .int .i64 am2, .string (oneTx x4 k)]) (hB.out.trans ⟨rfl, rfl, rfl, by rw [setRow_size]; exact Nat.le_refl _, fun k hk => setRow_other _ _ _ _ (by omega)⟩)
        rw [show (pickI x4 4).toNat = k by rw [← HKE.out]; rfl] at this
        exact this
  · have HR15 := Lib.hid (fun W' h => by have := HR.out W' h; rwa [if_neg h15] at this)
    have HS := HS2
    have HB := HB2
    clear HR
    have HR := HR15
    have h15' : (pickI x3 16 == 15) = false := by simpa using h15
    go_wp2_with fail
    go_loopw [4] (fun z4 wr => ∃ k : Nat, (k : Int) ≤ pickI x4 4 ∧ z4 = .int .i64 k ∧ Aside (OneSt wr b1 b2 b3 x0 x1 x2 x3 x4 #[.int .i64 cu, .int .i64 pa, .int .i64 PE, .int .i64 am, .string (oneTx x4 k)]) ∧ Aside (Below n w wr)) (fun z4 _ => 4 - (intOf z4).toNat)
    case atStart => exact ⟨0, by omega, rfl, HS.out, HB.out⟩
    case round =>
      obtain ⟨k, hk, rfl, hS, hB⟩ := hrel
      clear q0 q1 q2 q3 q4 r0 r1 r2 r3 r4 f0 f2 f3 f4
      obtain ⟨⟨q0, q1, q2, q3, q4⟩, ⟨r0, r1, r2, r3, r4⟩, ⟨f0, f2, f3, f4⟩⟩ := hS.out.cells
      go_wp2_with fail
      refine (hq4 wr).mono ?_
      rintro e w1 ⟨rfl, rfl⟩
      by_cases hlt : (k : Int) < pickI x4 4
      · have hk4 : k < 4 := by omega
        have hz1 : (oneTx x4 k).size = k := by simp [oneTx, ByteArray.size]
        have HRG := Lib.hid (fun Q p0 p2 p4 p5 p6 p7 p8 p9 p10 p11 p12 p13 p14 p15 p16 p17 p18 p19 p20 p21 p22 p23 p24 p25 p26 p27 p28 p29 p30 p31 p32 p33 p34 p35 p36 p37 p38 p39 p40 p41 p42 p43 p44 p45 p46 p47 p48 p49 p50 p51 p52 p53 p54 p55 p56 p57 p58 p59 hQ => one_region wr b1 b3 x4 (oneTx x4 k) p0 p2 p4 p5 p6 p7 p8 p9 p10 p11 p12 p13 p14 p15 p16 p17 p18 p19 p20 p21 p22 p23 p24 p25 p26 p27 p28 p29 p30 p31 p32 p33 p34 p35 p36 p37 p38 p39 p40 p41 p42 p43 p44 p45 p46 p47 p48 p49 p50 p51 p52 p53 p54 p55 p56 p57 p58 p59 Q h4 q4 r4 f4 (by omega) hQ)
        clear hz1
        go_wp2_with fail
        refine HRG.out _ _ _ _ _ _ _ _ _ _ _ _ _ _ _ _ _ _ _ _ _ _ _ _ _ _ _ _ _ _ _ _ _ _ _ _ _ _ _ _ _ _ _ _ _ _ _ _ _ _ _ _ _ _ _ _ _ _ _ ?_
        intro w2 v47 v48 v49 v50 v51 v52 v53 v54 v55 v56 v57 v58 hb2
        have hS2 := (hS.out.below hb2).set 4 (.string (oneTx x4 k ++ ⟨#[oneByte x4]⟩))
        rw [oneTx_snoc] at hS2 ⊢
        have hB2 := (hB.out.trans (hb2.mono (Nat.le_of_lt (Nat.lt_of_le_of_lt hn3 (Array.getElem?_eq_some_iff.1 hS.out.2.2.1).1)))).setCell (p := ⟨b3, 4, none⟩) hn3 (.string (oneTx x4 (k + 1)))
        have HS2 := Lib.hid hS2
        have HB2 := Lib.hid hB2
        clear hS2 hB2 hb2 q0 q1 q2 q3 q4 r0 r1 r2 r3 r4 f0 f2 f3 f4 HRG
        generalize w2.setCell ⟨b3, 4, none⟩ (.string (oneTx x4 (k + 1))) = w3 at *
        go_wp2_with fail
        go_roundw
        case measure => simp [intOf]; omega
        case rel => exact ⟨k + 1, by omega, by go_num, HS2.out, HB2.out⟩
      · have hke : (k : Int) = pickI x4 4 := by omega
        have HKE := Lib.hid hke
        clear hke
        go_wp2_with (refine wpList_store_row rfl 30 (.tmp 2) (.tmp 59) rfl b2 rfl 30 _ #[.int .i64 cu, .int .i64 pa, .int .i64 PE, .int .i64 am, .string (oneTx x4 k)] rfl hS.out.2.1 I30.out rfl (by simp [Value.oneCell']) ?_)
        refine bodyPost_row b2 30 _ _ (setRow_heap _ _ _ _ 30 (0, 0) hS.out.2.1) Tryd.underlying30 rfl I30.out rfl rfl rfl ?_
        have := HR.out (wr.setRow b2 #[.int .i64 cu, .int .i64 pa, .int .i64 PE, .int .i64 am, .string (oneTx x4 k)]) (hB.out.trans ⟨rfl, rfl, rfl, by rw [setRow_size]; exact Nat.le_refl _, fun k hk => setRow_other _ _ _ _ (by omega)⟩)
        rw [show (pickI x4 4).toNat = k by rw [← HKE.out]; rfl] at this
        exact this

set_option maxHeartbeats 4000000 in
set_option maxRecDepth 100000 in
theorem one_r2  (x0 x1 x2 x3 x4 : Int) (n b1 b2 b3 : Nat) (w W : World) (p0 p4 p5 p6 p7 p8 p9 p10 p11 p12 p13 p14 p15 p16 p17 p18 p19 p20 p21 p22 p23 p24 p25 p26 p27 p28 p29 p30 p31 p32 p33 p34 p35 p36 p37 p38 p39 p40 p41 p42 p43 p44 p45 p46 p47 p48 p49 p50 p51 p52 p53 p54 p55 p56 p57 p58 p59 : Value) (R : Ending → World → Prop) (h0 : I64 x0) (h1 : I64 x1) (h2 : I64 x2) (h3 : I64 x3) (h4 : I64 x4)
    (hS : OneSt W b1 b2 b3 x0 x1 x2 x3 x4 #[.int .i64 (pickI x0 6), .int .i64 (pickI x1 8), .int .i64 0, .int .i64 (pickI x3 1000), .string ⟨#[]⟩]) (hb : Below n w W) (hn2 : n ≤ b2) (hn3 : n ≤ b3)
    (hR : ∀ W', Below n w W' → R (.returned (oneC x0 x1 x2 x3 x4).val) W') :
    (restOf (Tryd.f35.body.getD .skip)).wp Tryd.prog (bodyPost Tryd.prog Tryd.f35 R) { tmps := #[p0, .pointer (some ⟨b1, 0, none⟩), .pointer (some ⟨b2, 0, none⟩), .pointer (some ⟨b3, 0, none⟩), p4, p5, p6, p7, p8, p9, p10, p11, p12, p13, p14, p15, p16, p17, p18, p19, p20, p21, p22, p23, p24, p25, p26, p27, p28, p29, p30, p31, p32, p33, p34, p35, p36, p37, p38, p39, p40, p41, p42, p43, p44, p45, p46, p47, p48, p49, p50, p51, p52, p53, p54, p55, p56, p57, p58, p59], defers := [] } W := by
  have hq8 : ∀ W, Calls Tryd.prog 41 #[.int .i64 (x0), .int .i64 8] W (fun e w' => e = .returned (.int .i64 (pickI (x0) 8)) ∧ W = w') := fun W => by have := pick_calls (x0) 8 W h0.1 h0.2 (Nat.le_of_ble_eq_true rfl) (Nat.le_of_ble_eq_true rfl); simpa using this
  have hq64 : ∀ W, Calls Tryd.prog 41 #[.int .i64 (x0), .int .i64 64] W (fun e w' => e = .returned (.int .i64 (pickI (x0) 64)) ∧ W = w') := fun W => by have := pick_calls (x0) 64 W h0.1 h0.2 (Nat.le_of_ble_eq_true rfl) (Nat.le_of_ble_eq_true rfl); simpa using this
  have I30 := Lib.hid (show (Tryd.prog.info? 30).map (·.size) = some 5 by kernel_rfl)
  simp only [Tryd.f35, restOf, Option.getD]
  obtain ⟨⟨q0, q1, q2, q3, q4⟩, ⟨r0, r1, r2, r3, r4⟩, ⟨f0, f2, f3, f4⟩⟩ := hS.cells
  have HB := Lib.hid hb
  have HS := Lib.hid hS
  have HR := Lib.hid hR
  clear hb hS hR
  have HR4 := Lib.hid (fun (cu : Int) (W : World) (hS : OneSt W b1 b2 b3 x0 x1 x2 x3 x4 #[.int .i64 cu, .int .i64 (pickI x1 8), .int .i64 0, .int .i64 (pickI x3 1000), .string ⟨#[]⟩]) (hb : Below n w W) (hR : ∀ W', Below n w W' → R (.returned ((⟨cu, pickI x1 8, onePe x1 x2, oneAm x3, oneTx x4 (pickI x4 4).toNat⟩ : Ch)).val) W') p0 p4 p5 p6 p7 p8 p9 p10 p11 p12 p13 p14 p15 p16 p17 p18 p19 p20 p21 p22 p23 p24 p25 p26 p27 p28 p29 p30 p31 p32 p33 p34 p35 p36 p37 p38 p39 p40 p41 p42 p43 p44 p45 p46 p47 p48 p49 p50 p51 p52 p53 p54 p55 p56 p57 p58 p59 => one_r4 cu (pickI x3 1000) x0 x1 x2 x3 x4 n b1 b2 b3 w W p0 p4 p5 p6 p7 p8 p9 p10 p11 p12 p13 p14 p15 p16 p17 p18 p19 p20 p21 p22 p23 p24 p25 p26 p27 p28 p29 p30 p31 p32 p33 p34 p35 p36 p37 p38 p39 p40 p41 p42 p43 p44 p45 p46 p47 p48 p49 p50 p51 p52 p53 p54 p55 p56 p57 p58 p59 R h0 h1 h2 h3 h4 hS hb hn2 hn3 hR)
  go_wp2_with fail
  rename_i KA hKA KB hKB KC hKC
  have HKA := Lib.hid hKA
  clear hKA
  refine (hq8 W).mono ?_
  rintro e w1 ⟨rfl, rfl⟩
  by_cases h7 : pickI x0 8 = 7
  · have HR7 := Lib.hid (fun W' h => by have := HR.out W' h; unfold oneC oneCu at this; rwa [if_pos h7] at this)
    go_wp2_with fail
    refine (hq64 W).mono ?_
    rintro e w1 ⟨rfl, rfl⟩
    have HS3 := Lib.hid (HS.out.set 0 (.int .i64 (pickI x0 64)))
    have HB3 := Lib.hid (HB.out.setCell (p := ⟨b3, 0, none⟩) hn3 (.int .i64 (pickI x0 64)))
    go_wp2_with fail
    refine HKA.out _ _ ?_
    exact HR4.out (pickI x0 64) _ HS3.out HB3.out HR7.out _ _ _ _ _ _ _ _ _ _ _ _ _ _ _ _ _ _ _ _ _ _ _ _ _ _ _ _ _ _ _ _ _ _ _ _ _ _ _ _ _ _ _ _ _ _ _ _ _ _ _ _ _ _ _ _ _
  · have HR7 := Lib.hid (fun W' h => by have := HR.out W' h; unfold oneC oneCu at this; rwa [if_neg h7] at this)
    have h7' : (pickI x0 8 == 7) = false := by simpa using h7
    go_wp2_with fail
    refine HKA.out _ _ ?_
    exact HR4.out (pickI x0 6) _ HS.out HB.out HR7.out _ _ _ _ _ _ _ _ _ _ _ _ _ _ _ _ _ _ _ _ _ _ _ _ _ _ _ _ _ _ _ _ _ _ _ _ _ _ _ _ _ _ _ _ _ _ _ _ _ _ _ _ _ _ _ _ _


set_option maxHeartbeats 4000000 in
set_option maxRecDepth 100000 in
theorem One_calls (x0 x1 x2 x3 x4 : Int) (w : World) (h0 : I64 x0) (h1 : I64 x1) (h2 : I64 x2) (h3 : I64 x3) (h4 : I64 x4) :
    Calls Tryd.prog 35 #[.agg #[.int .i64 x0, .int .i64 x1, .int .i64 x2, .int .i64 x3, .int .i64 x4]] w fun e w' => e = .returned (oneC x0 x1 x2 x3 x4).val ∧ Below w.heap.size w w' := by
  have hp6 : ∀ W, Calls Tryd.prog 41 #[.int .i64 x0, .int .i64 6] W (fun e w' => e = .returned (.int .i64 (pickI x0 6)) ∧ W = w') := fun W => pick_calls x0 6 W h0.1 h0.2 (by decide) (by decide)
  have hp8 : ∀ W, Calls Tryd.prog 41 #[.int .i64 x1, .int .i64 8] W (fun e w' => e = .returned (.int .i64 (pickI x1 8)) ∧ W = w') := fun W => pick_calls x1 8 W h1.1 h1.2 (by decide) (by decide)
  have hp1 : ∀ W, Calls Tryd.prog 41 #[.int .i64 x3, .int .i64 1000] W (fun e w' => e = .returned (.int .i64 (pickI x3 1000)) ∧ W = w') := fun W => pick_calls x3 1000 W h3.1 h3.2 (by decide) (by decide)
  obtain ⟨W0, hW0⟩ : ∃ W0, W0 = (w.alloc (.cells #[.int .i64 x0, .int .i64 x1, .int .i64 x2, .int .i64 x3, .int .i64 x4] 68)).alloc (.cells #[.int .i64 0, .int .i64 0, .int .i64 0, .int .i64 0, .string ⟨#[]⟩] 30) := ⟨_, rfl⟩
  have r1 : W0.heap[w.heap.size]? = some (.cells #[.int .i64 x0, .int .i64 x1, .int .i64 x2, .int .i64 x3, .int .i64 x4] 68 (0, 0)) := by
    rw [hW0, Below.heap_alloc _ _ _ (by simp)]; exact heap_new w _
  have r2 : W0.heap[w.heap.size + 1]? = some (.cells #[.int .i64 0, .int .i64 0, .int .i64 0, .int .i64 0, .string ⟨#[]⟩] 30 (0, 0)) := by
    rw [hW0]; have := heap_new (w.alloc (.cells #[.int .i64 x0, .int .i64 x1, .int .i64 x2, .int .i64 x3, .int .i64 x4] 68)) (.cells #[.int .i64 0, .int .i64 0, .int .i64 0, .int .i64 0, .string ⟨#[]⟩] 30); rwa [World.size_alloc] at this
  have hb0 : Below w.heap.size w W0 := by rw [hW0]; exact below_alloc (below_one w _) _
  have hs0 : W0.heap.size = w.heap.size + 2 := by rw [hW0]; simp
  have c0 : W0.cell? ⟨w.heap.size, 0, none⟩ = some (.int .i64 x0) := by unfold World.cell?; rw [r1]; rfl
  have c1 : W0.cell? ⟨w.heap.size, 1, none⟩ = some (.int .i64 x1) := by unfold World.cell?; rw [r1]; rfl
  have c3 : W0.cell? ⟨w.heap.size, 3, none⟩ = some (.int .i64 x3) := by unfold World.cell?; rw [r1]; rfl
  have HST : ∀ W', W' = W0.alloc (.cells #[.int .i64 (pickI x0 6), .int .i64 (pickI x1 8), .int .i64 0, .int .i64 (pickI x3 1000), .string ⟨#[]⟩] 30) → OneSt W'.drew w.heap.size (w.heap.size + 1) W0.heap.size x0 x1 x2 x3 x4 #[.int .i64 (pickI x0 6), .int .i64 (pickI x1 8), .int .i64 0, .int .i64 (pickI x3 1000), .string ⟨#[]⟩] := by
    rintro W' rfl
    refine ⟨(Below.heap_alloc _ _ _ (by omega)).trans r1, (Below.heap_alloc _ _ _ (by omega)).trans r2, heap_new W0 _, by omega, by omega, by omega⟩
  have HBE : ∀ o, Below w.heap.size w (W0.alloc o).drew := fun o => (below_alloc hb0 o).drew
  have HW0 := Lib.hid hW0
  have HS0 := Lib.hid hs0
  have HST := Lib.hid HST
  have HBE := Lib.hid HBE
  clear hW0 r1 r2 hs0 hb0
  go_enter Tryd.func35, Tryd.ntmps35
  go_wp2_with fail
  rw [← HW0.out]
  rename_i Q0 K0 hK0
  go_region_held3 (fun w' => w'.cell? ⟨w.heap.size, 0, none⟩ = some (.int .i64 x0) ∧ w'.cell? ⟨w.heap.size, 1, none⟩ = some (.int .i64 x1) ∧ w'.cell? ⟨w.heap.size, 3, none⟩ = some (.int .i64 x3)) (first | go_keep)
    (first
      | (go_at_call 41; ((with_reducible refine (hp6 _).mono ?_)); rintro e w' ⟨rfl, rfl⟩)
      | (go_at_call 41; ((with_reducible refine (hp8 _).mono ?_)); rintro e w' ⟨rfl, rfl⟩)
      | (go_at_call 41; ((with_reducible refine (hp1 _).mono ?_)); rintro e w' ⟨rfl, rfl⟩))
  all_goals (refine hK0 _ _ ?_; exact one_r2 x0 x1 x2 x3 x4 w.heap.size w.heap.size (w.heap.size + 1) W0.heap.size w _ _ _ _ _ _ _ _ _ _ _ _ _ _ _ _ _ _ _ _ _ _ _ _ _ _ _ _ _ _ _ _ _ _ _ _ _ _ _ _ _ _ _ _ _ _ _ _ _ _ _ _ _ _ _ _ _ _ _ h0 h1 h2 h3 h4 (HST.out _ rfl) (HBE.out _) (by omega) (by have := HS0.out; omega) (fun W' hb => ⟨rfl, hb⟩))

end Go.Proofs.YthohfbeelepkmaaDoor
