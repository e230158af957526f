/- dialtoneref40.Made: a round of its second loop: one charge more. -/
import Derived.Test.YthohfbeelepkmaaDoorG1
import Derived.Test.YthohfbeelepkmaaDoorD3
import Derived.Test.YthohfbeelepkmaaDoorB1
namespace Go.Proofs.YthohfbeelepkmaaDoor
open Go.RowKit Go.Shelf

def madeReg : Code → Code
  | .seq _ (.seq _ (.seq _ (.seq _ (.seq (.seq _ (.block _ (.loop (.seq _ (.seq (.block _ r) _))))) _)))) => r
  | c => c

def MInv (W0 : World) (n g7 bx ox N c k : Nat) (x0 x1 x2 x3 x4 c0 c1 c2 c3 : Int) (c4 : ByteArray) (key : ByteArray) (pv : Value) (xs : List Value) (p0 p2 p3 p4 p5 p6 p9 p10 p11 p12 p13 p14 p15 p16 p17 p18 p19 p20 p21 p22 p23 p24 p25 p26 p27 p28 p29 p30 p31 p32 p33 p34 p45 : Value) (L : Array Bool) (a : Act) (w : World) : Prop :=
  (L.getD 8 false = false ∧ L.getD 10 false = false ∧ ∃ v35 v36 v37 v38 v39 v40 v41 v42 v43 v44 : Value, a = { tmps := #[p0, .slice (some ⟨bx, ox, none⟩) N c, p2, p3, p4, p5, p6, .pointer (some ⟨g7, 0, none⟩), .int .i64 (k : Int), p9, p10, p11, p12, p13, p14, p15, p16, p17, p18, p19, p20, p21, p22, p23, p24, p25, p26, p27, p28, p29, p30, p31, p32, p33, p34, v35, v36, v37, v38, v39, v40, v41, v42, v43, v44, p45], defers := [] } ∧ Below W0.heap.size W0 w ∧
    (L.getD 0 false = true → v35 = .pointer (some ⟨g7, 1, none⟩)) ∧ (L.getD 1 false = true → v36 = pv) ∧ (L.getD 2 false = true → v37 = .slice (some ⟨bx, ox, none⟩) N c) ∧ (L.getD 3 false = true → v38 = .int .i64 (k : Int)) ∧
    (L.getD 4 false = true → v39 = .pointer (some ⟨bx, ox + k * 5, none⟩)) ∧ (L.getD 5 false = true → v40 = .agg #[.int .i64 x0, .int .i64 x1, .int .i64 x2, .int .i64 x3, .int .i64 x4]) ∧ (L.getD 6 false = true → v41 = .agg #[.int .i64 c0, .int .i64 c1, .int .i64 c2, .int .i64 c3, .string c4]) ∧
    (L.getD 7 false = true → ∃ h, v42 = .slice (some ⟨h, 0, none⟩) 1 1 ∧ w.heap[h]? = some (.cells #[.int .i64 c0, .int .i64 c1, .int .i64 c2, .int .i64 c3, .string c4] 30 (0, 0)))) ∨
  (L.getD 10 false = false ∧ (∀ i, i < 9 → L.getD i false = true) ∧ ∃ v35 v36 v37 v38 v39 v40 v41 v42 v43 v44 : Value, ∃ g' p', a = { tmps := #[p0, .slice (some ⟨bx, ox, none⟩) N c, p2, p3, p4, p5, p6, .pointer (some ⟨g7, 0, none⟩), .int .i64 (k : Int), p9, p10, p11, p12, p13, p14, p15, p16, p17, p18, p19, p20, p21, p22, p23, p24, p25, p26, p27, p28, p29, p30, p31, p32, p33, p34, v35, v36, v37, v38, v39, v40, v41, v42, v43, v44, p45], defers := [] } ∧ v43 = .slice (some ⟨g', 0, none⟩) (k + 1) p' ∧ (L.getD 9 false = true → v44 = .pointer (some ⟨g7, 1, none⟩)) ∧
    w.ownsRow n 30 5 v43 (k + 1) (xs ++ [.int .i64 c0, .int .i64 c1, .int .i64 c2, .int .i64 c3, .string c4]) ∧ w.heap[g7]? = some (.cells #[.string key, pv] 26 (0, 0)) ∧ Below n W0 w) ∨
  ((∀ i, i < 11 → L.getD i false = true) ∧ ∃ v35 v36 v37 v38 v39 v40 v41 v42 v43 v44 : Value, ∃ g' p', a = { tmps := #[p0, .slice (some ⟨bx, ox, none⟩) N c, p2, p3, p4, p5, p6, .pointer (some ⟨g7, 0, none⟩), .int .i64 (k : Int), p9, p10, p11, p12, p13, p14, p15, p16, p17, p18, p19, p20, p21, p22, p23, p24, p25, p26, p27, p28, p29, p30, p31, p32, p33, p34, v35, v36, v37, v38, v39, v40, v41, v42, v43, v44, p45], defers := [] } ∧
    w.ownsRow n 30 5 (.slice (some ⟨g', 0, none⟩) (k + 1) p') (k + 1) (xs ++ [.int .i64 c0, .int .i64 c1, .int .i64 c2, .int .i64 c3, .string c4]) ∧ w.heap[g7]? = some (.cells #[.string key, .slice (some ⟨g', 0, none⟩) (k + 1) p'] 26 (0, 0)) ∧ Below n W0 w)

set_option maxHeartbeats 4000000 in
set_option maxRecDepth 100000 in
theorem made_region (W : World) (n g7 bx ox N c k : Nat) (x0 x1 x2 x3 x4 : Int) (key : ByteArray) (pv : Value) (xs : List Value) (p0 p2 p3 p4 p5 p6 p9 p10 p11 p12 p13 p14 p15 p16 p17 p18 p19 p20 p21 p22 p23 p24 p25 p26 p27 p28 p29 p30 p31 p32 p33 p34 p35 p36 p37 p38 p39 p40 p41 p42 p43 p44 p45 : Value) (Q : Exit → Act → World → Prop)
    (h7 : W.heap[g7]? = some (.cells #[.string key, pv] 26 (0, 0))) (hown : W.ownsRow n 30 5 pv k xs) (hkN : k < N) (hr1 : W.rangeAt bx (ox + k * 5) [.int .i64 x0, .int .i64 x1, .int .i64 x2, .int .i64 x3, .int .i64 x4]) (y0 : I64 x0) (y1 : I64 x1) (y2 : I64 x2) (y3 : I64 x3) (y4 : I64 x4) (hn : n ≤ g7) (hk : k ≤ 64)
    (hQ : ∀ w' g' p' (v35 v36 v37 v38 v39 v40 v41 v42 v43 v44 : Value), w'.ownsRow n 30 5 (.slice (some ⟨g', 0, none⟩) (k + 1) p') (k + 1) (xs ++ (oneC x0 x1 x2 x3 x4).cells) → w'.heap[g7]? = some (.cells #[.string key, .slice (some ⟨g', 0, none⟩) (k + 1) p'] 26 (0, 0)) → Below n W w' →
      Q .normal { tmps := #[p0, .slice (some ⟨bx, ox, none⟩) N c, p2, p3, p4, p5, p6, .pointer (some ⟨g7, 0, none⟩), .int .i64 (k : Int), p9, p10, p11, p12, p13, p14, p15, p16, p17, p18, p19, p20, p21, p22, p23, p24, p25, p26, p27, p28, p29, p30, p31, p32, p33, p34, v35, v36, v37, v38, v39, v40, v41, v42, v43, v44, p45], defers := [] } w') :
    (madeReg (Tryd.f12.body.getD .skip)).wp Tryd.prog Q { tmps := #[p0, .slice (some ⟨bx, ox, none⟩) N c, p2, p3, p4, p5, p6, .pointer (some ⟨g7, 0, none⟩), .int .i64 (k : Int), p9, p10, p11, p12, p13, p14, p15, p16, p17, p18, p19, p20, p21, p22, p23, p24, p25, p26, p27, p28, p29, p30, p31, p32, p33, p34, p35, p36, p37, p38, p39, p40, p41, p42, p43, p44, p45], defers := [] } W := by
  obtain ⟨i0, hi, hz0, hz1, hz2⟩ := info_parts (show (Tryd.prog.info? 30).map (fun i => (i.zero, i.size, i.bytes)) = some (some (.agg #[.int .i64 0, .int .i64 0, .int .i64 0, .int .i64 0, .string ⟨#[]⟩]), 5, 48) by kernel_rfl)
  have I68 := Lib.hid (show (Tryd.prog.info? 68).map (·.size) = some 5 by kernel_rfl)
  simp only [Tryd.f12, madeReg, Option.getD]
  have hC := fun W' => One_calls x0 x1 x2 x3 x4 W' y0 y1 y2 y3 y4
  have hL := fun w' (h : Below W.heap.size W w') (g o : Nat) (cs : List Value) (hr : W.rangeAt g o cs) => (show w'.rangeAt g o cs from fun j v hj => (h.cell (p := ⟨g, o + j, none⟩) (World.block_lt_of_cell? W _ (hr j v hj))).trans (hr j v hj))
  generalize oneC x0 x1 x2 x3 x4 = ch at *
  obtain ⟨c0, c1, c2, c3, c4⟩ := ch
  simp only [Ch.val, Ch.cells] at hC hQ
  have hg7 := (Array.getElem?_eq_some_iff.1 h7).1
  have hpv : ∃ A a b, pv = .slice A a b := by
    rcases hown.2 with ⟨e, _⟩ | ⟨_, _, _, e, _⟩ <;> exact ⟨_, _, _, e⟩
  refine wp_region_cl (MInv W n g7 bx ox N c k x0 x1 x2 x3 x4 c0 c1 c2 c3 c4 key pv xs p0 p2 p3 p4 p5 p6 p9 p10 p11 p12 p13 p14 p15 p16 p17 p18 p19 p20 p21 p22 p23 p24 p25 p26 p27 p28 p29 p30 p31 p32 p33 p34 p45) (by kernel_rfl) (.inl ⟨rfl, rfl, _, _, _, _, _, _, _, _, _, _, rfl, below_drew (Below.refl _ _), ?_, ?_, ?_, ?_, ?_, ?_, ?_, ?_⟩) ?_ ?_
  iterate 8 (intro h; exact absurd h (by decide))
  · intro L act w i hs hcl hI hr
    obtain ⟨hi11, hf', hpre⟩ := ready_spec hr
    have hi11 : i < 11 := hi11
    have hfi : L.getD i false = false := by
      have h8 : i < L.size := by rw [hs]; exact hi11
      simp [Array.getD, h8] at hf' ⊢; exact hf'
    rcases hI with ⟨h8, h10, v35, v36, v37, v38, v39, v40, v41, v42, v43, v44, rfl, hB, k0, k1, k2, k3, k4, k5, k6, k7⟩ | ⟨h10, hall, v35, v36, v37, v38, v39, v40, v41, v42, v43, v44, g', p', rfl, rfl, h9, hown', h7', hb'⟩ | ⟨hall, _⟩
    · have hc0 : w.cell? ⟨g7, 1, none⟩ = some pv := (hB.cell (p := ⟨g7, 1, none⟩) hg7).trans (by unfold World.cell?; rw [h7]; rfl)
      rcases (by omega : i = 0 ∨ i = 1 ∨ i = 2 ∨ i = 3 ∨ i = 4 ∨ i = 5 ∨ i = 6 ∨ i = 7 ∨ i = 8 ∨ i = 9 ∨ i = 10) with rfl | rfl | rfl | rfl | rfl | rfl | rfl | rfl | rfl | rfl | rfl
      · refine wpOp_step rfl (fun K' hK => ?_)
        rw [if_pos (by rfl)]
        go_simp
        refine hK _ _ (.inl ⟨by rw [bit_set hs (by decide), h8]; rfl, by rw [bit_set hs (by decide), h10]; rfl, _, _, _, _, _, _, _, _, _, _, rfl, hB, ?_, ?_, ?_, ?_, ?_, ?_, ?_, ?_⟩) <;> intro h
        all_goals first | rfl | (rw [bit_set hs (by decide)] at h; first | exact k0 (by simpa using h) | exact k1 (by simpa using h) | exact k2 (by simpa using h) | exact k3 (by simpa using h) | exact k4 (by simpa using h) | exact k5 (by simpa using h) | exact k6 (by simpa using h)) | (rw [bit_set hs (by decide)] at h; obtain ⟨q, e1, e2⟩ := k7 (by simpa using h); exact ⟨q, e1, e2⟩)
      · obtain rfl := k0 (hpre _ rfl ⟨0, .data⟩ (by simp) rfl)
        refine wpOp_step rfl (fun K' hK => ?_)
        rw [if_pos (by rfl)]
        obtain ⟨PA, pa, pb, rfl⟩ := hpv
        go_simp
        refine hK _ _ (.inl ⟨by rw [bit_set hs (by decide), h8]; rfl, by rw [bit_set hs (by decide), h10]; rfl, _, _, _, _, _, _, _, _, _, _, rfl, hB, ?_, ?_, ?_, ?_, ?_, ?_, ?_, ?_⟩) <;> intro h
        all_goals first | rfl | (rw [bit_set hs (by decide)] at h; first | exact k0 (by simpa using h) | exact k1 (by simpa using h) | exact k2 (by simpa using h) | exact k3 (by simpa using h) | exact k4 (by simpa using h) | exact k5 (by simpa using h) | exact k6 (by simpa using h)) | (rw [bit_set hs (by decide)] at h; obtain ⟨q, e1, e2⟩ := k7 (by simpa using h); exact ⟨q, e1, e2⟩)
      · refine wpOp_step rfl (fun K' hK => ?_)
        rw [if_pos (by rfl)]
        go_simp
        refine hK _ _ (.inl ⟨by rw [bit_set hs (by decide), h8]; rfl, by rw [bit_set hs (by decide), h10]; rfl, _, _, _, _, _, _, _, _, _, _, rfl, hB, ?_, ?_, ?_, ?_, ?_, ?_, ?_, ?_⟩) <;> intro h
        all_goals first | rfl | (rw [bit_set hs (by decide)] at h; first | exact k0 (by simpa using h) | exact k1 (by simpa using h) | exact k2 (by simpa using h) | exact k3 (by simpa using h) | exact k4 (by simpa using h) | exact k5 (by simpa using h) | exact k6 (by simpa using h)) | (rw [bit_set hs (by decide)] at h; obtain ⟨q, e1, e2⟩ := k7 (by simpa using h); exact ⟨q, e1, e2⟩)
      · refine wpOp_step rfl (fun K' hK => ?_)
        rw [if_pos (by rfl)]
        go_simp
        refine hK _ _ (.inl ⟨by rw [bit_set hs (by decide), h8]; rfl, by rw [bit_set hs (by decide), h10]; rfl, _, _, _, _, _, _, _, _, _, _, rfl, hB, ?_, ?_, ?_, ?_, ?_, ?_, ?_, ?_⟩) <;> intro h
        all_goals first | rfl | (rw [bit_set hs (by decide)] at h; first | exact k0 (by simpa using h) | exact k1 (by simpa using h) | exact k2 (by simpa using h) | exact k3 (by simpa using h) | exact k4 (by simpa using h) | exact k5 (by simpa using h) | exact k6 (by simpa using h)) | (rw [bit_set hs (by decide)] at h; obtain ⟨q, e1, e2⟩ := k7 (by simpa using h); exact ⟨q, e1, e2⟩)
      · obtain rfl := k2 (hpre _ rfl ⟨2, .data⟩ (by simp) rfl)
        obtain rfl := k3 (hpre _ rfl ⟨3, .data⟩ (by simp) rfl)
        refine wpOp_step rfl (fun K' hK => ?_)
        rw [if_pos (by rfl)]
        go_simp
        refine hK _ _ (.inl ⟨by rw [bit_set hs (by decide), h8]; rfl, by rw [bit_set hs (by decide), h10]; rfl, _, _, _, _, _, _, _, _, _, _, rfl, hB, ?_, ?_, ?_, ?_, ?_, ?_, ?_, ?_⟩) <;> intro h
        all_goals first | rfl | (rw [bit_set hs (by decide)] at h; first | exact k0 (by simpa using h) | exact k1 (by simpa using h) | exact k2 (by simpa using h) | exact k3 (by simpa using h) | exact k4 (by simpa using h) | exact k5 (by simpa using h) | exact k6 (by simpa using h)) | (rw [bit_set hs (by decide)] at h; obtain ⟨q, e1, e2⟩ := k7 (by simpa using h); exact ⟨q, e1, e2⟩)
      · obtain rfl := k4 (hpre _ rfl ⟨4, .data⟩ (by simp) rfl)
        refine wpOp_step rfl (fun K' hK => ?_)
        rw [if_pos (by rfl)]
        refine wp_load_mid 68 (.tmp 39) rfl bx (ox + k * 5) rfl [.int .i64 x0, .int .i64 x1, .int .i64 x2, .int .i64 x3, .int .i64 x4] _ (hL w hB _ _ _ hr1) Tryd.underlying68 rfl I68.out ?_
        refine hK _ _ (.inl ⟨by rw [bit_set hs (by decide), h8]; rfl, by rw [bit_set hs (by decide), h10]; rfl, _, _, _, _, _, _, _, _, _, _, rfl, hB, ?_, ?_, ?_, ?_, ?_, ?_, ?_, ?_⟩) <;> intro h
        all_goals first | rfl | (rw [bit_set hs (by decide)] at h; first | exact k0 (by simpa using h) | exact k1 (by simpa using h) | exact k2 (by simpa using h) | exact k3 (by simpa using h) | exact k4 (by simpa using h) | exact k5 (by simpa using h) | exact k6 (by simpa using h)) | (rw [bit_set hs (by decide)] at h; obtain ⟨q, e1, e2⟩ := k7 (by simpa using h); exact ⟨q, e1, e2⟩)
      · obtain rfl := k5 (hpre _ rfl ⟨5, .data⟩ (by simp) rfl)
        refine wpOp_step rfl (fun K' hK => ?_)
        rw [if_pos (by rfl)]
        go_simp
        refine (hC w).mono ?_
        rintro e w' ⟨rfl, hb⟩
        refine hK _ _ (.inl ⟨by rw [bit_set hs (by decide), h8]; rfl, by rw [bit_set hs (by decide), h10]; rfl, _, _, _, _, _, _, _, _, _, _, rfl, below_then hB hb, ?_, ?_, ?_, ?_, ?_, ?_, ?_, ?_⟩) <;> intro h
        all_goals first | rfl | (rw [bit_set hs (by decide)] at h; first | exact k0 (by simpa using h) | exact k1 (by simpa using h) | exact k2 (by simpa using h) | exact k3 (by simpa using h) | exact k4 (by simpa using h) | exact k5 (by simpa using h) | exact k6 (by simpa using h)) | (rw [bit_set hs (by decide)] at h; obtain ⟨q, e1, e2⟩ := k7 (by simpa using h); exact ⟨q, e1, e2⟩) | (rw [bit_set hs (by decide)] at h; obtain ⟨q, e1, e2⟩ := k7 (by simpa using h); exact ⟨q, e1, (hb.block _ (Array.getElem?_eq_some_iff.1 e2).1).trans e2⟩)
      · obtain rfl := k6 (hpre _ rfl ⟨6, .data⟩ (by simp) rfl)
        refine wpOp_step rfl (fun K' hK => ?_)
        rw [if_pos (by rfl)]
        go_simp
        refine hK _ _ (.inl ⟨by rw [bit_set hs (by decide), h8]; rfl, by rw [bit_set hs (by decide), h10]; rfl, _, _, _, _, _, _, _, _, _, _, rfl, below_alloc hB _, ?_, ?_, ?_, ?_, ?_, ?_, ?_, ?_⟩) <;> intro h
        all_goals first | rfl | (rw [bit_set hs (by decide)] at h; first | exact k0 (by simpa using h) | exact k1 (by simpa using h) | exact k2 (by simpa using h) | exact k3 (by simpa using h) | exact k4 (by simpa using h) | exact k5 (by simpa using h) | exact k6 (by simpa using h)) | (rw [bit_set hs (by decide)] at h; obtain ⟨q, e1, e2⟩ := k7 (by simpa using h); exact ⟨q, e1, e2⟩) | exact ⟨_, rfl, heap_new w _⟩
      · obtain rfl := k1 (hpre _ rfl ⟨1, .data⟩ (by simp) rfl)
        obtain ⟨h, rfl, hq⟩ := k7 (hpre _ rfl ⟨7, .data⟩ (by simp) rfl)
        have hpre' : ∀ i, i < 9 → (L.setIfInBounds 8 true).getD i false = true := by
          intro i hi
          have b7 := hpre _ rfl ⟨7, .data⟩ (by simp) rfl
          have b6 := hcl 7 _ rfl b7 ⟨6, .data⟩ (by simp) rfl
          have b5 := hcl 6 _ rfl b6 ⟨5, .data⟩ (by simp) rfl
          have b4 := hcl 5 _ rfl b5 ⟨4, .data⟩ (by simp) rfl
          have b3 := hcl 4 _ rfl b4 ⟨3, .data⟩ (by simp) rfl
          have b2 := hcl 4 _ rfl b4 ⟨2, .data⟩ (by simp) rfl
          have b1 := hpre _ rfl ⟨1, .data⟩ (by simp) rfl
          have b0 := hcl 1 _ rfl b1 ⟨0, .data⟩ (by simp) rfl
          rw [bit_set hs (by decide)]
          rcases (by omega : i = 0 ∨ i = 1 ∨ i = 2 ∨ i = 3 ∨ i = 4 ∨ i = 5 ∨ i = 6 ∨ i = 7 ∨ i = 8) with rfl | rfl | rfl | rfl | rfl | rfl | rfl | rfl | rfl <;> simp [b0, b1, b2, b3, b4, b5, b6, b7]
        have b9 : L.getD 9 false = false := by
          cases hh : L.getD 9 false with
          | false => rfl
          | true => have := hcl 9 _ rfl hh ⟨8, .phase⟩ (by simp) rfl; rw [this] at h8; cases h8
        refine wpOp_step rfl (fun K' hK => ?_)
        rw [if_pos (by rfl)]
        have hows : w.ownsRow n 30 5 v36 k xs := ownsRow_keep (ts := [30]) hown (KeepT.of_below hB) (by decide)
        refine wp_append_lies _ (.tmp 36) (.tmp 42) 24 rfl n 30 i0 _ 5 48 (by kernel_rfl) hi hz0 hz1 hz2 rfl (by decide) _ k xs rfl hows ⟨h, 0, none⟩ 1 1 [.int .i64 c0, .int .i64 c1, .int .i64 c2, .int .i64 c3, .string c4] rfl rfl ?hnew (by simp [Value.oneCell']) (by decide) (by unfold maxLen; omega) (by omega) (by have := hB.size; omega) _ rfl ?_
        case hnew =>
          intro y u hy
          rw [Addr.add_mid, Nat.zero_add]
          unfold World.cell?
          rw [hq]
          simpa using hy
        intro g' p' w4 hown' hgrow _ _
        have hw7 : w.heap[g7]? = some (.cells #[.string key, v36] 26 (0, 0)) := (hB.block _ hg7).trans h7
        have hne7 : some g7 ≠ v36.ownBlock := by
          rcases hows.2 with ⟨e, _⟩ | ⟨_, _, _, e, _, hg, _⟩
          · rw [e]; simp [Value.ownBlock]
          · rw [e]; intro e2; simp only [Value.ownBlock, Option.some.injEq] at e2; subst e2; rw [hw7] at hg; cases hg
        refine hK _ _ (.inr (.inl ⟨by rw [bit_set hs (by decide), h10]; rfl, hpre', _, _, _, _, _, _, _, _, _, _, g', p', rfl, rfl, ?_, hown', ?_, ?_⟩))
        · intro h; rw [bit_set hs (by decide), b9] at h; cases h
        · rw [hgrow.block g7 (by have := hB.size; omega) hne7]; exact hw7
        · exact (hB.mono (by omega)).grown hgrow (by have := hB.size; omega) (fun y hy => (hows.lt y hy).1)
      · have := hpre _ rfl ⟨8, .phase⟩ (by simp) rfl
        rw [this] at h8; cases h8
      · have := hpre _ rfl ⟨8, .data⟩ (by simp) rfl
        rw [this] at h8; cases h8
    · have hi9 : i = 9 ∨ i = 10 := by
        rcases Nat.lt_or_ge i 9 with h | h
        · rw [hall i h] at hfi; cases hfi
        · omega
      rcases hi9 with rfl | rfl
      · refine wpOp_step rfl (fun K' hK => ?_)
        rw [if_pos (by rfl)]
        go_simp
        refine hK _ _ (.inr (.inl ⟨by rw [bit_set hs (by decide), h10]; rfl, fun q hq => by rw [bit_set hs (by decide), hall q hq]; simp, _, _, _, _, _, _, _, _, _, _, g', p', rfl, rfl, fun _ => rfl, hown', h7', hb'⟩))
      · obtain rfl := h9 (hpre _ rfl ⟨9, .data⟩ (by simp) rfl)
        have hc : w.cell? ⟨g7, 1, none⟩ = some pv := by unfold World.cell?; rw [h7']; rfl
        have hf7 : w.frozen? ⟨g7, 1, none⟩ = false := by unfold World.frozen?; rw [h7']; simp
        have b9 := hpre _ rfl ⟨9, .data⟩ (by simp) rfl
        refine wpOp_step rfl (fun K' hK => ?_)
        rw [if_pos (by rfl)]
        go_simp
        refine hK _ _ (.inr (.inr ⟨fun q hq => ?_, _, _, _, _, _, _, _, _, _, _, g', p', rfl, ?_, ?_, hb'.setCell (p := ⟨g7, 1, none⟩) hn _⟩))
        · rw [bit_set hs (by decide)]
          rcases (by omega : q < 9 ∨ q = 9 ∨ q = 10) with h | rfl | rfl
          · rw [hall q h]; simp
          · rw [b9]; simp
          · simp
        · exact ownsRow_keep (ts := [30]) hown' ((KeepT.refl _ w).setCell h7' (by decide) 1 _) (by decide)
        · simp only [World.setCell, Array.getElem?_modify, h7', Option.map_some, if_true]; rfl
    · rw [hall i hi11] at hfi; cases hfi
  · intro L act w hs hI hr
    have hall := all_run hs hr (backs_spec (by decide +kernel))
    rcases hI with ⟨h8, _⟩ | ⟨h10, _⟩ | ⟨_, v35, v36, v37, v38, v39, v40, v41, v42, v43, v44, g', p', rfl, ho, h7', hb⟩
    · rw [hall 8 (by decide)] at h8; cases h8
    · rw [hall 10 (by decide)] at h10; cases h10
    · exact hQ w g' p' v35 v36 v37 v38 v39 v40 v41 v42 v43 v44 ho h7' hb

end Go.Proofs.YthohfbeelepkmaaDoor


/- dialtoneref40.Made. -/
namespace Go.Proofs.YthohfbeelepkmaaDoor
open Go.RowKit Go.Shelf

structure Five where
  a : Int
  b : Int
  c : Int
  d : Int
  e : Int
def Five.cells (q : Five) : List Value := [.int .i64 q.a, .int .i64 q.b, .int .i64 q.c, .int .i64 q.d, .int .i64 q.e]
def Five.ok (q : Five) : Prop := I64 q.a ∧ I64 q.b ∧ I64 q.c ∧ I64 q.d ∧ I64 q.e
def Five.one (q : Five) : Ch := oneC q.a q.b q.c q.d q.e
def Fives (w : World) (v : Value) (X : List Five) : Prop := Sl w v 5 (X.map Five.cells)
def madeL (X : List Five) : List Ch := (X.take 10).map Five.one
def keyBs (key : Int) (k : Nat) : List Int := List.replicate k (pickI key 256) ++ List.replicate (32 - k) 0
def keyL (key : Int) : ByteArray := strOfNums (keyBs key 32)
theorem keyBs_length (key : Int) (k : Nat) (h : k ≤ 32) : (keyBs key k).length = 32 := by simp [keyBs]; omega
theorem keyL_size (key : Int) : (keyL key).size = 32 := by simp [keyL, strOfNums, keyBs, ByteArray.size]
theorem keyBs_set (key : Int) (k : Nat) (h : k < 32) : (keyBs key k).set k (pickI key 256) = keyBs key (k + 1) := by
  unfold keyBs
  rw [List.set_append_right _ _ (by simp), List.length_replicate, Nat.sub_self, show 32 - k = (32 - (k + 1)) + 1 by omega, List.replicate_succ, List.set_cons_zero, List.replicate_succ', List.append_assoc]
  rfl

/-- A slice of blocks apart from the row that is stored. -/
theorem Sl.setRow {W : World} {v : Value} {k g : Nat} {L : List (List Value)} {cs c : Array Value} {t : TypeId} {f : Nat × Nat} (h : Sl W v k L) (_hg : W.heap[g]? = some (.cells cs t f)) (hne : ∀ b o, (∃ n c, v = .slice (some ⟨b, o, none⟩) n c) → b ≠ g) : Sl (W.setRow g c) v k L := by
  obtain ⟨h1, h2, A, cap, hv, hc, h3⟩ := h
  refine ⟨h1, h2, A, cap, hv, hc, fun hp => ?_⟩
  obtain ⟨b, off, e, hlt, hcell⟩ := h3 hp
  subst e
  have hb := hne b off ⟨_, _, hv⟩
  refine ⟨b, off, rfl, by rw [setRow_size]; exact hlt, fun j i x y hx hy => ?_⟩
  have := hcell j i x y hx hy
  unfold World.cell? at this ⊢
  rw [setRow_other _ _ _ _ hb]; exact this
theorem oneC_ok (q : Five) : q.one.ok = true := by
  obtain ⟨a, b, c, d, e⟩ := q
  have h1 := pickI_bound a 8 (by decide)
  have h2 := pickI_bound a 64 (by decide)
  have h3 := pickI_bound a 6 (by decide)
  have h4 := pickI_bound b 8 (by decide)
  have h5 := pickI_bound c 7 (by decide)
  have h6 := pickI_bound d 1000000001 (Nat.le_of_ble_eq_true rfl)
  have h7 := pickI_bound d 1000 (by decide)
  have h8 := pickI_bound e 4 (by decide)
  have hcu : 0 ≤ oneCu a ∧ oneCu a ≤ 63 := by unfold oneCu; split <;> omega
  have ham : 0 ≤ oneAm d ∧ oneAm d ≤ 1000000000 := by unfold oneAm; split <;> omega
  have hpe : 0 ≤ onePe b c ∧ onePe b c ≤ 7 ∧ pickI b 8 ≠ onePe b c := by unfold onePe; omega
  have htx : (oneTx e (pickI e 4).toNat).size ≤ 100 := by simp [oneTx, ByteArray.size]; omega
  simp only [Five.one, oneC, Ch.ok, isChargeB, within, Bool.and_eq_true, decide_eq_true_eq, bne_iff_ne, ne_eq]
  repeat' apply And.intro
  all_goals first | exact decide_eq_true (by omega) | exact hpe.2.2 | omega
theorem madeL_ok (X : List Five) : okChs (madeL X) = true := by
  simp only [okChs, Bool.and_eq_true, decide_eq_true_eq]
  refine ⟨by simp [madeL]; omega, List.all_eq_true.2 fun c hc => ?_⟩
  obtain ⟨q, _, rfl⟩ := List.mem_map.1 hc
  exact oneC_ok q

set_option maxHeartbeats 4000000 in
set_option maxRecDepth 100000 in
theorem Made_own (key : Int) (v : Value) (X : List Five) (w : World) (hkey : I64 key) (hv : Fives w v X) (hX : ∀ q ∈ X, q.ok) :
    Calls Tryd.prog 12 #[.int .i64 key, v] w fun e w' => ∃ A n c, e = .returned (.agg #[.string (keyL key), .slice A n c]) ∧ Chs w' (.slice A n c) (madeL X) ∧ w'.ownsRow w.heap.size 30 5 (.slice A n c) (madeL X).length (chCells (madeL X)) ∧ Below w.heap.size w w' := by
  obtain ⟨_, hlX, AX, cX, rfl, hcX, hatX⟩ := id hv
  rw [List.length_map] at hlX hcX
  rw [List.length_map]
  have hp : ∀ W, Calls Tryd.prog 41 #[.int .i64 key, .int .i64 256] W (fun e w' => e = .returned (.int .i64 (pickI key 256)) ∧ W = w') := fun W => by have := pick_calls key 256 W hkey.1 hkey.2 (by decide) (by decide); simpa using this
  have bp := pickI_bound key 256 (by decide)
  have hw8 : IntKind.u8.wrap (pickI key 256) = pickI key 256 := by
    simp [IntKind.wrap, IntKind.bits, IntKind.signed]
    omega
  have hm := make32 (w.alloc (.cells #[.string ⟨#[]⟩, .slice none 0 0] 26))
  rw [World.size_alloc] at hm
  have hA0 : Arr ((w.alloc (.cells #[.string ⟨#[]⟩, .slice none 0 0] 26)).alloc (.cells zeros32 5)) (w.heap.size + 1) .u8 5 (keyBs key 0) := by
    have := heap_new (w.alloc (.cells #[.string ⟨#[]⟩, .slice none 0 0] 26)) (.cells zeros32 5)
    rw [World.size_alloc] at this
    exact this
  have hr4 : ((w.alloc (.cells #[.string ⟨#[]⟩, .slice none 0 0] 26)).alloc (.cells zeros32 5)).heap[w.heap.size]? = some (.cells #[.string ⟨#[]⟩, .slice none 0 0] 26 (0, 0)) := by
    rw [Below.heap_alloc _ _ _ (by simp)]; exact heap_new w _
  have hb1 : Below w.heap.size w ((w.alloc (.cells #[.string ⟨#[]⟩, .slice none 0 0] 26)).alloc (.cells zeros32 5)) := below_alloc (below_one w _) _
  have I26 := Lib.hid (show (Tryd.prog.info? 26).map (·.size) = some 2 by kernel_rfl)
  have HA0 := Lib.hid hA0
  have HR4 := Lib.hid hr4
  have HB1 := Lib.hid hb1
  have HV := Lib.hid hv
  have HX := Lib.hid hX
  have HAT := Lib.hid hatX
  have HLX := Lib.hid hlX
  have HCX := Lib.hid hcX
  clear hA0 hr4 hb1 hv hX hatX hlX hcX
  go_enter Tryd.func12, Tryd.ntmps12
  go_wp2_with fail
  generalize hW1 : (w.alloc (.cells #[.string ⟨#[]⟩, .slice none 0 0] 26)).alloc (.cells zeros32 5) = W1 at *
  clear hW1 hm
  go_loopw [6] (fun z6 wr => ∃ k : Nat, k ≤ 32 ∧ z6 = .int .i64 k ∧ Aside (Arr wr (w.heap.size + 1) .u8 5 (keyBs key k)) ∧ Aside (wr.heap[w.heap.size]? = some (.cells #[.string ⟨#[]⟩, .slice none 0 0] 26 (0, 0))) ∧ Aside (Below w.heap.size w wr)) (fun z6 _ => 32 - (intOf z6).toNat)
  case atStart => exact ⟨0, by omega, rfl, HA0.out, HR4.out, HB1.out⟩
  case round =>
    obtain ⟨k, hk, rfl, hA, hR4, hB⟩ := hrel
    by_cases hlt : k < 32
    · have c1 := hA.out.cellD k (by rw [keyBs_length key k hk]; exact hlt)
      have f1 := hA.out.frozen k
      have HAS := Lib.hid (hA.out.set k (pickI key 256))
      rw [keyBs_set key k hlt] at HAS
      go_wp2_with fail
      refine (hp wr).mono ?_
      rintro e w1 ⟨rfl, rfl⟩
      go_wp2_with fail
      go_roundw
      case measure => simp [intOf]; omega
      case rel =>
        refine ⟨k + 1, by omega, by go_num, HAS.out, ?_, hB.out.setCell (p := ⟨w.heap.size + 1, k, none⟩) (by show w.heap.size ≤ w.heap.size + 1; omega) _⟩
        exact (Below.heap_setCell _ _ _ _ (by show w.heap.size ≠ w.heap.size + 1; omega)).trans hR4.out
    · have hk32 : k = 32 := by omega
      subst hk32
      have hst := ((Ints.of_cells (keyBs_length key 32 (by decide)) (by decide) (Nat.le_refl _) hA.out.lt (fun j hj => by rw [Nat.zero_add]; exact hA.out.cell j hj)) : Ints wr (.slice (some ⟨w.heap.size + 1, 0, none⟩) 32 32) .u8 (keyBs key 32)).toString (P := Tryd.prog) (by rw [keyBs_length key 32 (by decide)]; decide) 66 5 9 (by kernel_rfl) (by kernel_rfl) (by kernel_rfl)
      rw [show strOfNums (keyBs key 32) = keyL key from rfl] at hst
      generalize hkb : keyL key = KB at *
      have HKB := Lib.hid hkb
      clear hkb
      have HRb := hR4.out
      have hltR := (Array.getElem?_eq_some_iff.1 HRb).1
      have h70 := heap_new wr (.cells #[.string KB, .slice none 0 0] 26)
      have hb2 : Below w.heap.size w (wr.alloc (.cells #[.string KB, .slice none 0 0] 26)) := below_alloc hB.out _
      have h4 : (wr.alloc (.cells #[.string KB, .slice none 0 0] 26)).heap[w.heap.size]? = some (.cells #[.string ⟨#[]⟩, .slice none 0 0] 26 (0, 0)) := (Below.heap_alloc _ _ _ hltR).trans HRb
      have HSZ := Lib.hid hA.out.lt
      have H70 := Lib.hid h70
      have HB2 := Lib.hid hb2
      have H4 := Lib.hid h4
      have hml : ∀ k, k < X.length → k < 10 → madeL (X.take (k + 1)) = madeL (X.take k) ++ [(X.getD k ⟨0, 0, 0, 0, 0⟩).one] := by
        intro k h1 h2
        unfold madeL
        rw [List.take_take, List.take_take, Nat.min_eq_right (by omega), Nat.min_eq_right (by omega), List.take_add_one, List.map_append, List.getElem?_eq_getElem h1]
        simp [List.getD_eq_getElem?_getD, h1]
      have HML := Lib.hid hml
      clear h70 hb2 h4 hml HRb hA hR4
      go_wp2_with fail
      generalize hW2 : wr.alloc (.cells #[.string KB, .slice none 0 0] 26) = W2 at *
      generalize hg7 : wr.heap.size = g7 at *
      clear hW2 hg7 hst
      rw [show ((32 : Nat) : Int) = 32 from rfl]
      go_loopw [8] (fun z8 wr => ∃ (k : Nat) (pv : Value), k ≤ X.length ∧ k ≤ 10 ∧ z8 = .int .i64 k ∧ Aside (wr.heap[g7]? = some (.cells #[.string KB, pv] 26 (0, 0))) ∧ Aside (wr.ownsRow (w.heap.size + 1) 30 5 pv k (chCells (madeL (X.take k)))) ∧ Aside (wr.heap[w.heap.size]? = some (.cells #[.string ⟨#[]⟩, .slice none 0 0] 26 (0, 0))) ∧ Aside (Below w.heap.size w wr)) (fun z8 _ => 10 - (intOf z8).toNat)
      case atStart => exact ⟨0, _, by omega, by omega, rfl, H70.out, World.ownsRow_nil _ _ _ _, H4.out, HB2.out⟩
      case round =>
        obtain ⟨k, pv, hk1, hk2, rfl, h7, ho, h4, hB⟩ := hrel
        by_cases hlt1 : k < X.length
        · by_cases hlt2 : k < 10
          · obtain ⟨bx, ox, rfl, hbx, hcx⟩ := HAT.out (by simp; omega)
            have hq := HX.out X[k] (List.getElem_mem _)
            have hlen := HLX.out
            have hr : wr.rangeAt bx (ox + k * 5) X[k].cells := fun i u hu => (hB.out.cell (p := ⟨bx, ox + k * 5 + i, none⟩) hbx).trans (hcx k i X[k].cells u (by simp [hlt1]) hu)
            have HM1 := Lib.hid (HML.out k hlt1 hlt2)
            rw [show X.getD k ⟨0, 0, 0, 0, 0⟩ = X[k] by simp [List.getD_eq_getElem?_getD, hlt1]] at HM1
            generalize X[k] = q at *
            obtain ⟨x0, x1, x2, x3, x4⟩ := q
            obtain ⟨y0, y1, y2, y3, y4⟩ := hq
            have HRR := Lib.hid hr
            have hk1' : (k : Int) < (X.length : Int) := by omega
            have hk2' : (k : Int) < 10 := by omega
            clear hr hcx
            go_wp2_with fail
            refine made_region wr (w.heap.size + 1) g7 bx ox X.length cX k x0 x1 x2 x3 x4 KB pv _ _ _ _ _ _ _ _ _ _ _ _ _ _ _ _ _ _ _ _ _ _ _ _ _ _ _ _ _ _ _ _ _ _ _ _ _ _ _ _ _ _ _ _ _ h7.out ho.out hlt1 HRR.out y0 y1 y2 y3 y4 (Nat.le_of_lt HSZ.out) (by omega) ?_
            intro w' g' p' v35 v36 v37 v38 v39 v40 v41 v42 v43 v44 ho' h7' hb'
            have HO' := Lib.hid ho'
            have H7' := Lib.hid h7'
            have HB' := Lib.hid (hB.out.trans (hb'.mono (Nat.le_succ _)))
            have H4' := Lib.hid ((hb'.block _ (by omega)).trans h4.out)
            clear ho' h7' hb'
            go_wp2_with fail
            go_roundw
            case measure => simp [intOf]; omega
            case rel =>
              refine ⟨k + 1, _, by omega, by omega, by go_num, H7'.out, ?_, H4'.out, HB'.out⟩
              show World.ownsRow _ _ _ _ _ _ _
              rw [HM1.out]
              simpa [chCells, Five.one] using HO'.out
          · have hk10 : k = 10 := by omega
            have hk2' : ¬ (k : Int) < 10 := by omega
            have hk1' : (k : Int) < (X.length : Int) := by omega
            have HTK := Lib.hid (show madeL (X.take k) = madeL X by unfold madeL; rw [List.take_take, Nat.min_eq_left (by omega)])
            obtain ⟨A', n', c', rfl⟩ : ∃ A n c, pv = .slice A n c := by
              rcases ho.out.2 with ⟨e, _⟩ | ⟨_, _, _, e, _⟩ <;> exact ⟨_, _, _, e⟩
            have hlk : (madeL X).length = k := by rw [← HTK.out]; simp [madeL]; omega
            have hfin : Chs wr (.slice A' n' c') (madeL X) := ownsRow_chs (by rw [hlk]; have := ho.out; rwa [HTK.out] at this) (by omega)
            have HFIN := Lib.hid hfin
            have HWN : Hid (wr.ownsRow w.heap.size 30 5 (.slice A' n' c') (madeL X).length (chCells (madeL X))) := Lib.hid (by rw [hlk]; have := ho.out; rw [HTK.out] at this; exact ownsRow_low this (Nat.le_succ _))
            have k0 : wr.cell? ⟨g7, 0, none⟩ = some (.string KB) := by unfold World.cell?; rw [h7.out]; rfl
            have k1 : wr.cell? ⟨g7, 1, none⟩ = some (.slice A' n' c') := by unfold World.cell?; rw [h7.out]; rfl
            clear hfin hlk
            go_wp2_with (refine wpList_store_row rfl 26 (.tmp 4) (.tmp 45) rfl w.heap.size rfl 26 _ #[.string KB, .slice A' n' c'] rfl h4.out I26.out rfl (by simp [Value.oneCell']) ?_)
            refine bodyPost_row w.heap.size 26 _ _ (setRow_heap _ _ _ _ 26 (0, 0) h4.out) Tryd.underlying26 rfl I26.out rfl rfl rfl ⟨A', n', c', by rw [HKB.out], ?_, ownsRow_move HWN.out (fun k c hk => setRow_other _ _ _ _ (by rintro rfl; rw [h4.out] at hk; cases hk)), below_setRow hB.out (Nat.le_refl _) _⟩
            refine Sl.setRow HFIN.out h4.out ?_
            rintro b o ⟨n2, c2, e⟩
            have hx := ho.out.lt b (by simp only [Value.slice.injEq] at e; rw [e.1]; rfl)
            omega
        · have hkX : k = X.length := by omega
          have hk1' : ¬ (k : Int) < (X.length : Int) := by omega
          have HTK := Lib.hid (show madeL (X.take k) = madeL X by rw [hkX, List.take_length])
          obtain ⟨A', n', c', rfl⟩ : ∃ A n c, pv = .slice A n c := by
            rcases ho.out.2 with ⟨e, _⟩ | ⟨_, _, _, e, _⟩ <;> exact ⟨_, _, _, e⟩
          have hlk : (madeL X).length = k := by rw [← HTK.out]; simp [madeL]; omega
          have hfin : Chs wr (.slice A' n' c') (madeL X) := ownsRow_chs (by rw [hlk]; have := ho.out; rwa [HTK.out] at this) (by omega)
          have HFIN := Lib.hid hfin
          have HWN : Hid (wr.ownsRow w.heap.size 30 5 (.slice A' n' c') (madeL X).length (chCells (madeL X))) := Lib.hid (by rw [hlk]; have := ho.out; rw [HTK.out] at this; exact ownsRow_low this (Nat.le_succ _))
          have k0 : wr.cell? ⟨g7, 0, none⟩ = some (.string KB) := by unfold World.cell?; rw [h7.out]; rfl
          have k1 : wr.cell? ⟨g7, 1, none⟩ = some (.slice A' n' c') := by unfold World.cell?; rw [h7.out]; rfl
          clear hfin hlk
          go_wp2_with (refine wpList_store_row rfl 26 (.tmp 4) (.tmp 45) rfl w.heap.size rfl 26 _ #[.string KB, .slice A' n' c'] rfl h4.out I26.out rfl (by simp [Value.oneCell']) ?_)
          refine bodyPost_row w.heap.size 26 _ _ (setRow_heap _ _ _ _ 26 (0, 0) h4.out) Tryd.underlying26 rfl I26.out rfl rfl rfl ⟨A', n', c', by rw [HKB.out], ?_, ownsRow_move HWN.out (fun k c hk => setRow_other _ _ _ _ (by rintro rfl; rw [h4.out] at hk; cases hk)), below_setRow hB.out (Nat.le_refl _) _⟩
          refine Sl.setRow HFIN.out h4.out ?_
          rintro b o ⟨n2, c2, e⟩
          have hx := ho.out.lt b (by simp only [Value.slice.injEq] at e; rw [e.1]; rfl)
          omega

theorem Made_calls (key : Int) (v : Value) (X : List Five) (w : World) (hkey : I64 key) (hv : Fives w v X) (hX : ∀ q ∈ X, q.ok) :
    Calls Tryd.prog 12 #[.int .i64 key, v] w fun e w' => ∃ A n c, e = .returned (.agg #[.string (keyL key), .slice A n c]) ∧ Chs w' (.slice A n c) (madeL X) ∧ Below w.heap.size w w' :=
  (Made_own key v X w hkey hv hX).mono fun _ _ ⟨A, n, c, h1, h2, _, h3⟩ => ⟨A, n, c, h1, h2, h3⟩

end Go.Proofs.YthohfbeelepkmaaDoor
