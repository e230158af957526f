/- audit.rows$1: a round of the inner loop: two totals are joined, and the next row is longer by one. -/
import Derived.Test.YthohfbeelepkmaaDoorC1
namespace Go.Proofs.YthohfbeelepkmaaDoor
open Go.RowKit Go.Shelf

def rows2 : Code → Code
  | .seq _ (.seq _ (.block _ (.loop c))) => c
  | c => c
def rows2Body : Code → Code
  | .seq _ (.block _ (.seq _ (.seq (.seq _ (.block _ (.rangeFunc _ _ _ (.block _ r)))) _))) => r
  | c => c

def Not81 : Obj → Bool
  | .cells _ t _ => !decide (t = 81)
  | _ => true
/-- All but the block n and rows of totals lies as it lay. -/
def Other (n : Nat) (W W' : World) : Prop := ∀ k o, k ≠ n → W.heap[k]? = some o → Not81 o = true → W'.heap[k]? = some o
theorem Other.trans {n : Nat} {A B C : World} (h : Other n A B) (k : Other n B C) : Other n A C := fun i o hn ho hk => k i o hn (h i o hn ho hk) hk
theorem Other.of_below {n : Nat} {A B : World} (h : Below A.heap.size A B) : Other n A B := fun k o _ ho _ => by
  rw [h.block k (Array.getElem?_eq_some_iff.1 ho).1]; exact ho
theorem Other.setCell {n : Nat} {A B : World} (h : Other n A B) (i : Nat) (v : Value) : Other n A (B.setCell ⟨n, i, none⟩ v) := fun k o hn ho hk => by
  rw [Below.heap_setCell _ _ _ _ hn]; exact h k o hn ho hk
theorem Other.nc {n : Nat} {A B : World} {t : TypeId} {v : Value} (h : Other n A B) (hb : Boxed A n t v) : KeepNC A B := fun k o ho hc => by
  refine h k o ?_ ho (by cases o <;> first | rfl | (cases hc))
  rintro rfl
  rw [show A.heap[k]? = _ from hb] at ho
  cases ho
  cases hc
theorem Other.grown {n base k : Nat} {A B : World} {v : Value} {xs : List Value} (hg : A.grownBy B v.ownBlock) (hr : A.ownsRow base 81 9 v k xs) : Other n A B := by
  intro j o _ ho hn
  by_cases hj : some j = v.ownBlock
  · rcases hr.2 with ⟨rfl, _⟩ | ⟨g', cap, cur, rfl, _, hg', _⟩
    · cases hj
    · simp only [Value.ownBlock, Option.some.injEq] at hj
      subst hj
      rw [hg'] at ho
      cases ho
      cases hn
  · rw [hg.block j (Array.getElem?_eq_some_iff.1 ho).1 hj]; exact ho

/-- Where the slice of the just one new total lies. -/
def OneT (w : World) (h : Nat) (cs : List Value) : Prop := w.heap[h]? = some (.cells cs.toArray 81 (0, 0))

/-- What holds in the region, by what has run. -/
def BInv (W0 : World) (n1 g o j : Nat) (v : Value) (cs1 cs2 cs3 : List Value) (xs : List Value) (p0 p1 p2 p3 p4 p7 p8 p9 p10 p11 p12 p13 p14 p15 p16 p17 p18 p19 p20 p21 p22 p23 p24 p25 p26 p27 p28 p29 p30 p31 p32 p33 p44 : Value) (L : Array Bool) (a : Act) (w : World) : Prop :=
  (∃ v34 v35 v36 v37 v38 v39 v40 v41 v42 v43 : Value, a = { tmps := #[p0, p1, p2, p3, p4, .pointer (some ⟨n1, 0, none⟩), .slice (some ⟨g, o, none⟩) 2 2, p7, p8, p9, p10, p11, p12, p13, p14, p15, p16, p17, p18, p19, p20, p21, p22, p23, p24, p25, p26, p27, p28, p29, p30, p31, p32, p33, v34, v35, v36, v37, v38, v39, v40, v41, v42, v43, p44], defers := [] } ∧ Below W0.heap.size W0 w ∧ L.getD 9 false = false ∧ L.getD 10 false = false ∧
    (L.getD 0 false = true → v34 = v) ∧ (L.getD 1 false = true → v35 = .slice (some ⟨g, o, none⟩) 2 2) ∧ (L.getD 2 false = true → v36 = .pointer (some ⟨g, o, none⟩)) ∧ (L.getD 3 false = true → v37 = .agg cs1.toArray) ∧
    (L.getD 4 false = true → v38 = .slice (some ⟨g, o, none⟩) 2 2) ∧ (L.getD 5 false = true → v39 = .pointer (some ⟨g, o + 9, none⟩)) ∧ (L.getD 6 false = true → v40 = .agg cs2.toArray) ∧ (L.getD 7 false = true → v41 = .agg cs3.toArray) ∧
    (L.getD 8 false = true → ∃ h, v42 = .slice (some ⟨h, 0, none⟩) 1 1 ∧ OneT w h cs3)) ∨
  (L.getD 10 false = false ∧ (∀ i, i < 10 → L.getD i false = true) ∧ ∃ v34 v35 v36 v37 v38 v39 v40 v41 v42 v43 : Value, ∃ g' p', a = { tmps := #[p0, p1, p2, p3, p4, .pointer (some ⟨n1, 0, none⟩), .slice (some ⟨g, o, none⟩) 2 2, p7, p8, p9, p10, p11, p12, p13, p14, p15, p16, p17, p18, p19, p20, p21, p22, p23, p24, p25, p26, p27, p28, p29, p30, p31, p32, p33, v34, v35, v36, v37, v38, v39, v40, v41, v42, v43, p44], defers := [] } ∧ v43 = .slice (some ⟨g', 0, none⟩) (j + 1) p' ∧ w.ownsRow n1 81 9 v43 (j + 1) (xs ++ cs3) ∧ Boxed w n1 85 v ∧ Below n1 W0 w ∧ Other n1 W0 w) ∨
  (L.getD 10 false = true ∧ (∀ i, i < 10 → L.getD i false = true) ∧ ∃ v34 v35 v36 v37 v38 v39 v40 v41 v42 v43 : Value, ∃ g' p', a = { tmps := #[p0, p1, p2, p3, p4, .pointer (some ⟨n1, 0, none⟩), .slice (some ⟨g, o, none⟩) 2 2, p7, p8, p9, p10, p11, p12, p13, p14, p15, p16, p17, p18, p19, p20, p21, p22, p23, p24, p25, p26, p27, p28, p29, p30, p31, p32, p33, v34, v35, v36, v37, v38, v39, v40, v41, v42, v43, p44], defers := [] } ∧ Boxed w n1 85 (.slice (some ⟨g', 0, none⟩) (j + 1) p') ∧ w.ownsRow n1 81 9 (.slice (some ⟨g', 0, none⟩) (j + 1) p') (j + 1) (xs ++ cs3) ∧ Below n1 W0 w ∧ Other n1 W0 w)

set_option maxHeartbeats 4000000 in
set_option maxRecDepth 100000 in
theorem rows2_body (W : World) (n1 g o j : Nat) (v : Value) (xs : List Value) (l1 l2 : List Int) (d1 d2 : ByteArray) (p0 p1 p2 p3 p4 p7 p8 p9 p10 p11 p12 p13 p14 p15 p16 p17 p18 p19 p20 p21 p22 p23 p24 p25 p26 p27 p28 p29 p30 p31 p32 p33 p34 p35 p36 p37 p38 p39 p40 p41 p42 p43 p44 : Value) (lp : Nat) (Q : Exit → Act → World → Prop)
    (hbox : Boxed W n1 85 v) (hown : W.ownsRow n1 81 9 v j xs) (hr1 : W.rangeAt g o (totC l1 d1)) (hr2 : W.rangeAt g (o + 9) (totC l2 d2)) (e1 : l1.length = 8) (e2 : l2.length = 8) (y1 : Small l1) (y2 : Small l2) (z1 : d1.size ≤ 1000) (z2 : d2.size ≤ 1000)
    (hRd : Rd W) (hj : j ≤ 64)
    (hQ : ∀ a' w' g' p', Boxed w' n1 85 (.slice (some ⟨g', 0, none⟩) (j + 1) p') → w'.ownsRow n1 81 9 (.slice (some ⟨g', 0, none⟩) (j + 1) p') (j + 1) (xs ++ totC (addT l1 l2) (nodeH (codeB l1 d1) (codeB l2 d2))) → Below n1 W w' → Other n1 W w' → Q .normal a' w') :
    (rows2Body (rows2 (Tryd.f75.body.getD .skip))).wpIn (Fence.wide.inRound lp) 3 Tryd.prog Q { tmps := #[p0, p1, p2, p3, p4, .pointer (some ⟨n1, 0, none⟩), .slice (some ⟨g, o, none⟩) 2 2, p7, p8, p9, p10, p11, p12, p13, p14, p15, p16, p17, p18, p19, p20, p21, p22, p23, p24, p25, p26, p27, p28, p29, p30, p31, p32, p33, p34, p35, p36, p37, p38, p39, p40, p41, p42, p43, p44], defers := [] } W := by
  obtain ⟨i0, hi, hz0, hz1, hz2⟩ := info_parts (show (Tryd.prog.info? 81).map (fun i => (i.zero, i.size, i.bytes)) = some (some (.agg #[.int .i64 0, .int .i64 0, .int .i64 0, .int .i64 0, .int .i64 0, .int .i64 0, .int .i64 0, .int .i64 0, .string ⟨#[]⟩]), 9, 80) by kernel_rfl)
  have I81 := Lib.hid (show (Tryd.prog.info? 81).map (·.size) = some 9 by kernel_rfl)
  simp only [Tryd.f75, rows2, rows2Body, Option.getD]
  have hC := fun W' (h : Below W.heap.size W W') => join_calls l1 l2 d1 d2 W' e1 e2 y1 y2 z1 z2 (hRd.below h)
  have hL := fun w' (h : Below W.heap.size W w') (g o : Nat) (cs : List Value) (hr : W.rangeAt g o cs) => (show w'.rangeAt g o cs from fun j v hj => (h.cell (p := ⟨g, o + j, none⟩) (World.block_lt_of_cell? W _ (hr j v hj))).trans (hr j v hj))
  have h3 : (totC (addT l1 l2) (nodeH (codeB l1 d1) (codeB l2 d2))).length = 9 := by simp [totC, addT, e1, e2]
  have h3o : ∀ u ∈ totC (addT l1 l2) (nodeH (codeB l1 d1) (codeB l2 d2)), u.oneCell' = true := by
    intro u hu
    simp only [totC, List.mem_append, List.mem_map, List.mem_singleton] at hu
    rcases hu with ⟨x, _, rfl⟩ | rfl <;> rfl
  have hl1 : (totC l1 d1).length = 9 := by simp [totC, e1]
  have hl2 : (totC l2 d2).length = 9 := by simp [totC, e2]
  generalize totC l1 d1 = cs1 at *
  generalize totC l2 d2 = cs2 at *
  have hS : (addT l1 l2).length = 8 := by simp [addT, e1, e2]
  generalize nodeH (codeB l1 d1) (codeB l2 d2) = D at *
  generalize addT l1 l2 = S at *
  obtain ⟨s0, s1, s2, s3, s4, s5, s6, s7, rfl⟩ := len8 hS
  simp only [totC, List.map_cons, List.map_nil, List.cons_append, List.nil_append] at hC h3 h3o hQ
  have hlt := hbox.lt
  refine wpIn_region_cl (BInv W n1 g o j v cs1 cs2 [.int .i64 s0, .int .i64 s1, .int .i64 s2, .int .i64 s3, .int .i64 s4, .int .i64 s5, .int .i64 s6, .int .i64 s7, .string D] xs p0 p1 p2 p3 p4 p7 p8 p9 p10 p11 p12 p13 p14 p15 p16 p17 p18 p19 p20 p21 p22 p23 p24 p25 p26 p27 p28 p29 p30 p31 p32 p33 p44) (by kernel_rfl) (by decide) (.inl ⟨_, _, _, _, _, _, _, _, _, _, rfl, below_drew (Below.refl _ _), rfl, rfl, ?_, ?_, ?_, ?_, ?_, ?_, ?_, ?_, ?_⟩) ?_ ?_
  iterate 9 (intro h; exact absurd h (by decide))
  · intro L act w i hs hcl hI hr
    obtain ⟨hi11, hf, hpre⟩ := ready_spec hr
    have hi11 : i < 11 := hi11
    have hfi : L.getD i false = false := by
      have h8 : i < L.size := by rw [hs]; exact hi11
      simp [Array.getD, h8] at hf ⊢; exact hf
    rcases hI with ⟨v34, v35, v36, v37, v38, v39, v40, v41, v42, v43, rfl, hB, h9, h10, h0, h1, h2, h3', h4, h5, h6, h7, h8⟩ | ⟨h10, hall, v34, v35, v36, v37, v38, v39, v40, v41, v42, v43, g', p', rfl, rfl, hown', hbox', hb', hk'⟩ | ⟨h10, hall, _⟩
    · rcases (by omega : i = 0 ∨ i = 1 ∨ i = 2 ∨ i = 3 ∨ i = 4 ∨ i = 5 ∨ i = 6 ∨ i = 7 ∨ i = 8 ∨ i = 9 ∨ i = 10) with rfl | rfl | rfl | rfl | rfl | rfl | rfl | rfl | rfl | rfl | rfl
      · refine wpOpS_step rfl (fun K' hK => ?_)
        rw [if_pos (by rfl)]
        have hc0 := (hB.cell (p := ⟨n1, 0, none⟩) hlt).trans hbox.cell
        go_simp
        refine hK _ _ (.inl ⟨_, _, _, _, _, _, _, _, _, _, rfl, hB, by rw [bit_set hs (by decide), h9]; rfl, by rw [bit_set hs (by decide), h10]; rfl, ?_, ?_, ?_, ?_, ?_, ?_, ?_, ?_, ?_⟩) <;> intro h
        all_goals first | (first | rfl | (rw [bit_set hs (by decide)] at h; first | exact h0 (by simpa using h) | exact h1 (by simpa using h) | exact h2 (by simpa using h) | exact h3' (by simpa using h) | exact h4 (by simpa using h) | exact h5 (by simpa using h) | exact h6 (by simpa using h) | exact h7 (by simpa using h))) | (rw [bit_set hs (by decide)] at h; obtain ⟨q, e1, e2⟩ := h8 (by simpa using h); exact ⟨q, e1, e2⟩)
      · refine wpOpS_step rfl (fun K' hK => ?_)
        rw [if_pos (by rfl)]
        go_simp
        refine hK _ _ (.inl ⟨_, _, _, _, _, _, _, _, _, _, rfl, hB, by rw [bit_set hs (by decide), h9]; rfl, by rw [bit_set hs (by decide), h10]; rfl, ?_, ?_, ?_, ?_, ?_, ?_, ?_, ?_, ?_⟩) <;> intro h
        all_goals first | (first | rfl | (rw [bit_set hs (by decide)] at h; first | exact h0 (by simpa using h) | exact h1 (by simpa using h) | exact h2 (by simpa using h) | exact h3' (by simpa using h) | exact h4 (by simpa using h) | exact h5 (by simpa using h) | exact h6 (by simpa using h) | exact h7 (by simpa using h))) | (rw [bit_set hs (by decide)] at h; obtain ⟨q, e1, e2⟩ := h8 (by simpa using h); exact ⟨q, e1, e2⟩)
      · obtain rfl := h1 (hpre _ rfl ⟨1, .data⟩ (by simp) rfl)
        refine wpOpS_step rfl (fun K' hK => ?_)
        rw [if_pos (by rfl)]
        go_simp
        refine hK _ _ (.inl ⟨_, _, _, _, _, _, _, _, _, _, rfl, hB, by rw [bit_set hs (by decide), h9]; rfl, by rw [bit_set hs (by decide), h10]; rfl, ?_, ?_, ?_, ?_, ?_, ?_, ?_, ?_, ?_⟩) <;> intro h
        all_goals first | (first | rfl | (rw [bit_set hs (by decide)] at h; first | exact h0 (by simpa using h) | exact h1 (by simpa using h) | exact h2 (by simpa using h) | exact h3' (by simpa using h) | exact h4 (by simpa using h) | exact h5 (by simpa using h) | exact h6 (by simpa using h) | exact h7 (by simpa using h))) | (rw [bit_set hs (by decide)] at h; obtain ⟨q, e1, e2⟩ := h8 (by simpa using h); exact ⟨q, e1, e2⟩)
      · obtain rfl := h2 (hpre _ rfl ⟨2, .data⟩ (by simp) rfl)
        refine wpOpS_step rfl (fun K' hK => ?_)
        rw [if_pos (by rfl)]
        refine wp_load_mid 81 (.tmp 36) rfl g o rfl cs1 _ (hL w hB _ _ _ hr1) Tryd.underlying81 rfl (I81.out.trans (by rw [hl1])) ?_
        refine hK _ _ (.inl ⟨_, _, _, _, _, _, _, _, _, _, rfl, hB, by rw [bit_set hs (by decide), h9]; rfl, by rw [bit_set hs (by decide), h10]; rfl, ?_, ?_, ?_, ?_, ?_, ?_, ?_, ?_, ?_⟩) <;> intro h
        all_goals first | (first | rfl | (rw [bit_set hs (by decide)] at h; first | exact h0 (by simpa using h) | exact h1 (by simpa using h) | exact h2 (by simpa using h) | exact h3' (by simpa using h) | exact h4 (by simpa using h) | exact h5 (by simpa using h) | exact h6 (by simpa using h) | exact h7 (by simpa using h))) | (rw [bit_set hs (by decide)] at h; obtain ⟨q, e1, e2⟩ := h8 (by simpa using h); exact ⟨q, e1, e2⟩)
      · refine wpOpS_step rfl (fun K' hK => ?_)
        rw [if_pos (by rfl)]
        go_simp
        refine hK _ _ (.inl ⟨_, _, _, _, _, _, _, _, _, _, rfl, hB, by rw [bit_set hs (by decide), h9]; rfl, by rw [bit_set hs (by decide), h10]; rfl, ?_, ?_, ?_, ?_, ?_, ?_, ?_, ?_, ?_⟩) <;> intro h
        all_goals first | (first | rfl | (rw [bit_set hs (by decide)] at h; first | exact h0 (by simpa using h) | exact h1 (by simpa using h) | exact h2 (by simpa using h) | exact h3' (by simpa using h) | exact h4 (by simpa using h) | exact h5 (by simpa using h) | exact h6 (by simpa using h) | exact h7 (by simpa using h))) | (rw [bit_set hs (by decide)] at h; obtain ⟨q, e1, e2⟩ := h8 (by simpa using h); exact ⟨q, e1, e2⟩)
      · obtain rfl := h4 (hpre _ rfl ⟨4, .data⟩ (by simp) rfl)
        refine wpOpS_step rfl (fun K' hK => ?_)
        rw [if_pos (by rfl)]
        go_simp
        refine hK _ _ (.inl ⟨_, _, _, _, _, _, _, _, _, _, rfl, hB, by rw [bit_set hs (by decide), h9]; rfl, by rw [bit_set hs (by decide), h10]; rfl, ?_, ?_, ?_, ?_, ?_, ?_, ?_, ?_, ?_⟩) <;> intro h
        all_goals first | (first | rfl | (rw [bit_set hs (by decide)] at h; first | exact h0 (by simpa using h) | exact h1 (by simpa using h) | exact h2 (by simpa using h) | exact h3' (by simpa using h) | exact h4 (by simpa using h) | exact h5 (by simpa using h) | exact h6 (by simpa using h) | exact h7 (by simpa using h))) | (rw [bit_set hs (by decide)] at h; obtain ⟨q, e1, e2⟩ := h8 (by simpa using h); exact ⟨q, e1, e2⟩)
      · obtain rfl := h5 (hpre _ rfl ⟨5, .data⟩ (by simp) rfl)
        refine wpOpS_step rfl (fun K' hK => ?_)
        rw [if_pos (by rfl)]
        refine wp_load_mid 81 (.tmp 39) rfl g (o + 9) rfl cs2 _ (hL w hB _ _ _ hr2) Tryd.underlying81 rfl (I81.out.trans (by rw [hl2])) ?_
        refine hK _ _ (.inl ⟨_, _, _, _, _, _, _, _, _, _, rfl, hB, by rw [bit_set hs (by decide), h9]; rfl, by rw [bit_set hs (by decide), h10]; rfl, ?_, ?_, ?_, ?_, ?_, ?_, ?_, ?_, ?_⟩) <;> intro h
        all_goals first | (first | rfl | (rw [bit_set hs (by decide)] at h; first | exact h0 (by simpa using h) | exact h1 (by simpa using h) | exact h2 (by simpa using h) | exact h3' (by simpa using h) | exact h4 (by simpa using h) | exact h5 (by simpa using h) | exact h6 (by simpa using h) | exact h7 (by simpa using h))) | (rw [bit_set hs (by decide)] at h; obtain ⟨q, e1, e2⟩ := h8 (by simpa using h); exact ⟨q, e1, e2⟩)
      · obtain rfl := h3' (hpre _ rfl ⟨3, .data⟩ (by simp) rfl)
        obtain rfl := h6 (hpre _ rfl ⟨6, .data⟩ (by simp) rfl)
        refine wpOpS_step rfl (fun K' hK => ?_)
        rw [if_pos (by rfl)]
        go_simp
        refine (hC w hB).mono ?_
        rintro e w' ⟨rfl, hb⟩
        refine hK _ _ (.inl ⟨_, _, _, _, _, _, _, _, _, _, rfl, below_then hB hb, by rw [bit_set hs (by decide), h9]; rfl, by rw [bit_set hs (by decide), h10]; rfl, ?_, ?_, ?_, ?_, ?_, ?_, ?_, ?_, ?_⟩) <;> intro h
        all_goals first | (first | rfl | (rw [bit_set hs (by decide)] at h; first | exact h0 (by simpa using h) | exact h1 (by simpa using h) | exact h2 (by simpa using h) | exact h3' (by simpa using h) | exact h4 (by simpa using h) | exact h5 (by simpa using h) | exact h6 (by simpa using h) | exact h7 (by simpa using h))) | (rw [bit_set hs (by decide)] at h; obtain ⟨q, e1, e2⟩ := h8 (by simpa using h); exact ⟨q, e1, (hb.block _ (Array.getElem?_eq_some_iff.1 e2).1 |>.trans e2)⟩)
      · obtain rfl := h7 (hpre _ rfl ⟨7, .data⟩ (by simp) rfl)
        refine wpOpS_step rfl (fun K' hK => ?_)
        rw [if_pos (by rfl)]
        go_simp
        refine hK _ _ (.inl ⟨_, _, _, _, _, _, _, _, _, _, rfl, below_alloc hB _, by rw [bit_set hs (by decide), h9]; rfl, by rw [bit_set hs (by decide), h10]; rfl, ?_, ?_, ?_, ?_, ?_, ?_, ?_, ?_, ?_⟩) <;> intro h
        all_goals first | (first | rfl | (rw [bit_set hs (by decide)] at h; first | exact h0 (by simpa using h) | exact h1 (by simpa using h) | exact h2 (by simpa using h) | exact h3' (by simpa using h) | exact h4 (by simpa using h) | exact h5 (by simpa using h) | exact h6 (by simpa using h) | exact h7 (by simpa using h))) | exact ⟨_, rfl, heap_new w _⟩
      · obtain rfl := h0 (hpre _ rfl ⟨0, .data⟩ (by simp) rfl)
        obtain ⟨q, rfl, hq⟩ := h8 (hpre _ rfl ⟨8, .data⟩ (by simp) rfl)
        have hpre' : ∀ i, i < 10 → (L.setIfInBounds 9 true).getD i false = true := by
          intro i hi
          have b8 := hpre _ rfl ⟨8, .data⟩ (by simp) rfl
          have b7 := hcl 8 _ rfl b8 ⟨7, .data⟩ (by simp) rfl
          have b3 := hcl 7 _ rfl b7 ⟨3, .data⟩ (by simp) rfl
          have b6 := hcl 7 _ rfl b7 ⟨6, .data⟩ (by simp) rfl
          have b2 := hcl 3 _ rfl b3 ⟨2, .data⟩ (by simp) rfl
          have b5 := hcl 6 _ rfl b6 ⟨5, .data⟩ (by simp) rfl
          have b1 := hcl 2 _ rfl b2 ⟨1, .data⟩ (by simp) rfl
          have b4 := hcl 5 _ rfl b5 ⟨4, .data⟩ (by simp) rfl
          have b0 := hpre _ rfl ⟨0, .data⟩ (by simp) rfl
          rw [bit_set hs (by decide)]
          rcases (by omega : i = 0 ∨ i = 1 ∨ i = 2 ∨ i = 3 ∨ i = 4 ∨ i = 5 ∨ i = 6 ∨ i = 7 ∨ i = 8 ∨ i = 9) with rfl | rfl | rfl | rfl | rfl | rfl | rfl | rfl | rfl | rfl <;> simp [b0, b1, b2, b3, b4, b5, b6, b7, b8]
        refine wpOpS_step rfl (fun K' hK => ?_)
        rw [if_pos (by rfl)]
        have hows : w.ownsRow n1 81 9 v34 j xs := ownsRow_keep (ts := [81]) hown (KeepT.of_below hB) (by decide)
        refine wp_append_lies _ (.tmp 34) (.tmp 42) 85 rfl n1 81 i0 _ 9 80 (by kernel_rfl) hi hz0 hz1 hz2 rfl (by decide) _ j xs rfl hows ⟨q, 0, none⟩ 1 1 [.int .i64 s0, .int .i64 s1, .int .i64 s2, .int .i64 s3, .int .i64 s4, .int .i64 s5, .int .i64 s6, .int .i64 s7, .string D] rfl rfl ?hnew h3o (by decide) (by unfold maxLen; omega) (by omega) (by have := hB.size; omega) _ rfl ?_
        case hnew =>
          intro y u hy
          rw [Addr.add_mid, Nat.zero_add]
          unfold World.cell?
          rw [hq]
          simpa using hy
        intro g' p' w4 hown' hgrow _ _
        have hbw : Boxed w n1 85 v34 := (hB.block _ hlt).trans hbox
        refine hK _ _ (.inr (.inl ⟨by rw [bit_set hs (by decide), h10]; rfl, hpre', _, _, _, _, _, _, _, _, _, _, g', p', rfl, rfl, hown', hbw.kept hgrow (hbw.not_row (by decide) hows), ?_, ?_⟩))
        · exact (hB.mono (Nat.le_of_lt hlt)).grown hgrow (by have := hB.size; omega) (fun y hy => (hows.lt y hy).1)
        · exact (Other.of_below hB).trans (Other.grown hgrow hows)
      · have := hpre _ rfl ⟨9, .data⟩ (by simp) rfl
        rw [this] at h9; cases h9
    · have hi10 : i = 10 := by
        rcases Nat.lt_or_ge i 10 with h | h
        · rw [hall i h] at hfi; cases hfi
        · omega
      subst hi10
      have hc1 := hbox'.cell
      have hf1 := hbox'.frozen
      refine wpOpS_step rfl (fun K' hK => ?_)
      rw [if_pos (by rfl)]
      go_simp
      refine hK _ _ (.inr (.inr ⟨by rw [bit_set hs (by decide)]; rfl, fun q hq => by rw [bit_set hs (by decide), hall q hq]; simp, _, _, _, _, _, _, _, _, _, _, g', p', rfl, hbox'.set _, ?_, hb'.setCell (p := ⟨n1, 0, none⟩) (Nat.le_refl _) _, hk'.setCell _ _⟩))
      exact ownsRow_keep (ts := [81]) hown' ((KeepT.refl _ w).setCell hbox' (by decide) 0 _) (by decide)
    · rcases Nat.lt_or_ge i 10 with h | h
      · rw [hall i h] at hfi; cases hfi
      · have : i = 10 := by omega
        subst this
        rw [h10] at hfi; cases hfi
  · intro L act w hs hI hr
    have hall := all_run hs hr (backs_spec (by decide +kernel))
    rcases hI with ⟨_, _, _, _, _, _, _, _, _, _, rfl, hB, h9, h10, _⟩ | ⟨h10, _⟩ | ⟨h10, _, _, _, _, _, _, _, _, _, _, _, g', p', rfl, hb1, hr1, hb2, hk2⟩
    · rw [hall 9 (by decide)] at h9; cases h9
    · rw [hall 10 (by decide)] at h10; cases h10
    · exact hQ _ _ g' p' hb1 hr1 hb2 hk2

end Go.Proofs.YthohfbeelepkmaaDoor

