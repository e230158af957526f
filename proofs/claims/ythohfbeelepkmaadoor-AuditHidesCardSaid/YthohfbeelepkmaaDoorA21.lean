/- audit.total.join. -/
import Derived.Test.YthohfbeelepkmaaDoorA19
import Derived.Test.YthohfbeelepkmaaDoorA26
namespace Go.Proofs.YthohfbeelepkmaaDoor
open Go.RowKit Go.Shelf

theorem wp_store_row' {P : Program} {Q : Exit → Act → World → Prop} {o : Oper} {a : Act} {w : World} {K : Act → World → Prop} (ty : TypeId) (x y : Operand) (ho : o.op = .store ty x y)
    (g : Nat) (hx : a.eval x = .pointer (some ⟨g, 0, none⟩)) (t : TypeId) (old cs : Array Value) (hy : a.eval y = .agg cs) (hg : w.heap[g]? = some (.cells old t (0, 0)))
    (hi : (P.info? ty).map (·.size) = some cs.size) (hs : old.size = cs.size) (h1 : cs.all (·.oneCell') = true)
    (h : K (a.put o.dst undef) (w.setRow g cs)) : o.wp P a w K Q := by
  unfold Oper.wp execOp
  simp only [ho, hx, hy, Instr.storeAt, Instr.sureAddr, Sem.run_bind, Sem.run_pure, Result.andThen_ok, run_storeVar_row w g t ty old cs hg hi hs h1]
  exact h

/-- What holds in the region, by what has run. -/
def JInv (W0 : World) (T0 T1 p2 p3 p4 : Value) (A B : Array Value) (x1 x2 dn : ByteArray) (L : Array Bool) (a : Act) (w : World) : Prop :=
  ∃ v5 v7 v8 v9 v10 v11 v12 : Value, a = { tmps := #[T0, T1, p2, p3, p4, v5, undef, v7, v8, v9, v10, v11, v12, undef, undef, undef, undef, undef, undef, undef, undef, undef, undef, undef, undef, undef, undef, undef, undef, undef], defers := [] } ∧ Below W0.heap.size W0 w ∧
    (L.getD 0 false = true → v7 = .agg A) ∧ (L.getD 1 false = true → v8 = .string x1) ∧ (L.getD 2 false = true → v9 = .agg B) ∧ (L.getD 3 false = true → v10 = .string x2) ∧ (L.getD 4 false = true → v11 = .string dn) ∧
    (L.getD 5 false = true → v12 = .agg #[.int .i64 0, .int .i64 0, .int .i64 0, .int .i64 0, .int .i64 0, .int .i64 0, .int .i64 0, .int .i64 0, .string dn]) ∧
    (L.getD 6 false = true → ∃ g, v5 = .pointer (some ⟨g, 0, none⟩) ∧ W0.heap.size ≤ g ∧ Tot w g (List.replicate 8 0) (if L.getD 7 false then dn else ⟨#[]⟩)) ∧ (L.getD 7 false = true → L.getD 6 false = true)

set_option maxHeartbeats 4000000 in
set_option maxRecDepth 100000 in
theorem join_calls (l1 l2 : List Int) (d1 d2 : ByteArray) (w : World) (e1 : l1.length = 8) (e2 : l2.length = 8) (s1 : Small l1) (s2 : Small l2) (z1 : d1.size ≤ 1000) (z2 : d2.size ≤ 1000) (hRd : Rd w) :
    Calls Tryd.prog 60 #[.agg (totC l1 d1).toArray, .agg (totC l2 d2).toArray] w fun e w' => e = .returned (.agg (totC (addT l1 l2) (nodeH (codeB l1 d1) (codeB l2 d2))).toArray) ∧ Below w.heap.size w w' := by
  have hR := fun W r2 r3 r4 r5 (h1 : Tot W r2 l1 d1) (h2 : Tot W r3 l2 d2) (h4 : Tot W r4 (List.replicate 8 0) .empty) (h5 : Tot W r5 (List.replicate 8 0) (nodeH (codeB l1 d1) (codeB l2 d2))) (n1 : r2 ≠ r5) (n2 : r3 ≠ r5) (n3 : r4 ≠ r5) (hb : Below w.heap.size w W) (h6 : w.heap.size ≤ r5) (h7 : w.heap.size ≤ r4) =>
    fun p0 p1 u6 u7 u8 u9 u10 u11 u12 u13 u14 u15 u16 u17 u18 u19 u20 u21 u22 u23 u24 u25 u26 u27 u28 u29 => join_rest w (fun e w' => e = .returned (.agg (totC (addT l1 l2) (nodeH (codeB l1 d1) (codeB l2 d2))).toArray) ∧ Below w.heap.size w w') w.heap.size r2 r3 r4 r5 l1 l2 d1 d2 _ p0 p1 u6 u7 u8 u9 u10 u11 u12 u13 u14 u15 u16 u17 u18 u19 u20 u21 u22 u23 u24 u25 u26 u27 u28 u29 W h1 h2 h4 h5 n1 n2 n3 hb h6 h7 e1 e2 s1 s2 (fun W' hb => ⟨rfl, hb⟩)
  have hC1 := fun W => code_calls l1 d1 W e1 s1 z1
  have hC2 := fun W => code_calls l2 d2 W e2 s2 z2
  have hN := fun W (h : Below w.heap.size w W) => Node_calls (codeB l1 d1) (codeB l2 d2) W (by unfold codeB; rw [size_append, size_append]; have := nums_size l1; have := nums_size l2; omega) (hRd.below h)
  generalize nodeH (codeB l1 d1) (codeB l2 d2) = dn at *
  generalize codeB l1 d1 = x1 at *
  generalize codeB l2 d2 = x2 at *
  obtain ⟨a0, a1, a2, a3, a4, a5, a6, a7, rfl⟩ := len8 e1
  obtain ⟨b0, b1, b2, b3, b4, b5, b6, b7, rfl⟩ := len8 e2
  simp only [totC, List.map_cons, List.map_nil, List.cons_append, List.nil_append] at hC1 hC2 ⊢
  obtain ⟨W0, hW0⟩ : ∃ W0, W0 = ((w.alloc (.cells #[.int .i64 a0, .int .i64 a1, .int .i64 a2, .int .i64 a3, .int .i64 a4, .int .i64 a5, .int .i64 a6, .int .i64 a7, .string d1] 81)).alloc (.cells #[.int .i64 b0, .int .i64 b1, .int .i64 b2, .int .i64 b3, .int .i64 b4, .int .i64 b5, .int .i64 b6, .int .i64 b7, .string d2] 81)).alloc (.cells #[.int .i64 0, .int .i64 0, .int .i64 0, .int .i64 0, .int .i64 0, .int .i64 0, .int .i64 0, .int .i64 0, .string ⟨#[]⟩] 81) := ⟨_, rfl⟩
  have r1 : W0.heap[w.heap.size]? = some (.cells #[.int .i64 a0, .int .i64 a1, .int .i64 a2, .int .i64 a3, .int .i64 a4, .int .i64 a5, .int .i64 a6, .int .i64 a7, .string d1] 81 (0, 0)) := by
    rw [hW0, Below.heap_alloc _ _ _ (by simp; omega), Below.heap_alloc _ _ _ (by simp)]; exact heap_new w _
  have r2 : W0.heap[w.heap.size + 1]? = some (.cells #[.int .i64 b0, .int .i64 b1, .int .i64 b2, .int .i64 b3, .int .i64 b4, .int .i64 b5, .int .i64 b6, .int .i64 b7, .string d2] 81 (0, 0)) := by
    rw [hW0, Below.heap_alloc _ _ _ (by simp)]; have := heap_new (w.alloc (.cells #[.int .i64 a0, .int .i64 a1, .int .i64 a2, .int .i64 a3, .int .i64 a4, .int .i64 a5, .int .i64 a6, .int .i64 a7, .string d1] 81)) (.cells #[.int .i64 b0, .int .i64 b1, .int .i64 b2, .int .i64 b3, .int .i64 b4, .int .i64 b5, .int .i64 b6, .int .i64 b7, .string d2] 81); rwa [World.size_alloc] at this
  have r3 : W0.heap[w.heap.size + 2]? = some (.cells #[.int .i64 0, .int .i64 0, .int .i64 0, .int .i64 0, .int .i64 0, .int .i64 0, .int .i64 0, .int .i64 0, .string ⟨#[]⟩] 81 (0, 0)) := by
    rw [hW0]; have := heap_new ((w.alloc (.cells #[.int .i64 a0, .int .i64 a1, .int .i64 a2, .int .i64 a3, .int .i64 a4, .int .i64 a5, .int .i64 a6, .int .i64 a7, .string d1] 81)).alloc (.cells #[.int .i64 b0, .int .i64 b1, .int .i64 b2, .int .i64 b3, .int .i64 b4, .int .i64 b5, .int .i64 b6, .int .i64 b7, .string d2] 81)) (.cells #[.int .i64 0, .int .i64 0, .int .i64 0, .int .i64 0, .int .i64 0, .int .i64 0, .int .i64 0, .int .i64 0, .string ⟨#[]⟩] 81)
    rwa [show ((w.alloc (.cells #[.int .i64 a0, .int .i64 a1, .int .i64 a2, .int .i64 a3, .int .i64 a4, .int .i64 a5, .int .i64 a6, .int .i64 a7, .string d1] 81)).alloc (.cells #[.int .i64 b0, .int .i64 b1, .int .i64 b2, .int .i64 b3, .int .i64 b4, .int .i64 b5, .int .i64 b6, .int .i64 b7, .string d2] 81)).heap.size = w.heap.size + 2 by simp] at this
  have hbw : Below w.heap.size w W0 := by rw [hW0]; exact below_alloc (below_alloc (below_one w _) _) _
  have hs0 : W0.heap.size = w.heap.size + 3 := by rw [hW0]; simp
  have HW := Lib.hid hW0
  have HS0 := Lib.hid hs0
  have HR := Lib.hid hR
  have HBW := Lib.hid hbw
  clear hR hs0 e1 e2 s1 s2 z1 z2 hRd
  go_enter Tryd.func60, Tryd.ntmps60
  go_wp2
  rw [← hW0]
  clear hW0
  rename_i Q0 K0 hK0
  refine wp_region_inv (JInv W0 _ _ _ _ _ #[.int .i64 a0, .int .i64 a1, .int .i64 a2, .int .i64 a3, .int .i64 a4, .int .i64 a5, .int .i64 a6, .int .i64 a7, .string d1] #[.int .i64 b0, .int .i64 b1, .int .i64 b2, .int .i64 b3, .int .i64 b4, .int .i64 b5, .int .i64 b6, .int .i64 b7, .string d2] x1 x2 dn) (by kernel_rfl) ⟨_, _, _, _, _, _, _, rfl, below_drew (Below.refl _ _), ?_⟩ ?_ ?_
  · refine ⟨?_, ?_, ?_, ?_, ?_, ?_, ?_, ?_⟩ <;> (intro h; exact absurd h (by decide))
  · intro L act W i hs hI hr
    obtain ⟨hi, hf, hpre⟩ := ready_spec hr
    obtain ⟨v5, v7, v8, v9, v10, v11, v12, rfl, hB, h0, h1, h2, h3, h4, h5, h6, h76⟩ := hI
    have hi8 : i < 8 := hi
    rcases (by omega : i = 0 ∨ i = 1 ∨ i = 2 ∨ i = 3 ∨ i = 4 ∨ i = 5 ∨ i = 6 ∨ i = 7) with rfl | rfl | rfl | rfl | rfl | rfl | rfl | rfl
    · refine wpOp_step rfl (fun K' hK => ?_)
      rw [if_pos (by rfl)]
      refine wp_load_row 81 (.tmp 2) rfl (w.heap.size) rfl 81 _ (0, 0) _ ((hB.block _ (by have := HS0.out; omega)).trans r1) Tryd.underlying81 rfl (by kernel_rfl) ?_
      refine hK _ _ ⟨_, _, _, _, _, _, _, rfl, hB, ?_, ?_, ?_, ?_, ?_, ?_, ?_, ?_⟩
      · intro _; rfl
      · intro h; first | rfl | (rw [bit_set hs (by decide)] at h; exact h1 (by simpa using h))
      · intro h; first | rfl | (rw [bit_set hs (by decide)] at h; exact h2 (by simpa using h))
      · intro h; first | rfl | (rw [bit_set hs (by decide)] at h; exact h3 (by simpa using h))
      · intro h; first | rfl | (rw [bit_set hs (by decide)] at h; exact h4 (by simpa using h))
      · intro h; first | rfl | (rw [bit_set hs (by decide)] at h; exact h5 (by simpa using h))
      · intro h; rw [bit_set hs (by decide)] at h; obtain ⟨g, e1, e2, e3⟩ := h6 (by simpa using h); refine ⟨g, e1, e2, ?_⟩; rw [bit_set hs (by decide)]; simpa using e3
      · intro h; rw [bit_set hs (by decide)] at h ⊢; simpa using h76 (by simpa using h)
    · obtain rfl := h0 (hpre _ rfl ⟨0, .data⟩ (by simp) rfl)
      refine wpOp_step rfl (fun K' hK => ?_)
      rw [if_pos (by rfl)]
      go_simp
      refine (hC1 _).mono ?_
      rintro e w' ⟨rfl, hb⟩
      refine hK _ _ ⟨_, _, _, _, _, _, _, rfl, below_then hB hb, ?_, ?_, ?_, ?_, ?_, ?_, ?_, ?_⟩
      · intro h; first | rfl | (rw [bit_set hs (by decide)] at h; exact h0 (by simpa using h))
      · intro _; rfl
      · intro h; first | rfl | (rw [bit_set hs (by decide)] at h; exact h2 (by simpa using h))
      · intro h; first | rfl | (rw [bit_set hs (by decide)] at h; exact h3 (by simpa using h))
      · intro h; first | rfl | (rw [bit_set hs (by decide)] at h; exact h4 (by simpa using h))
      · intro h; first | rfl | (rw [bit_set hs (by decide)] at h; exact h5 (by simpa using h))
      · intro h; rw [bit_set hs (by decide)] at h; obtain ⟨g, e1, e2, e3⟩ := h6 (by simpa using h); refine ⟨g, e1, e2, ?_⟩; rw [bit_set hs (by decide)]; simpa using (e3.below hb)
      · intro h; rw [bit_set hs (by decide)] at h ⊢; simpa using h76 (by simpa using h)
    · refine wpOp_step rfl (fun K' hK => ?_)
      rw [if_pos (by rfl)]
      refine wp_load_row 81 (.tmp 3) rfl (w.heap.size + 1) rfl 81 _ (0, 0) _ ((hB.block _ (by have := HS0.out; omega)).trans r2) Tryd.underlying81 rfl (by kernel_rfl) ?_
      refine hK _ _ ⟨_, _, _, _, _, _, _, rfl, hB, ?_, ?_, ?_, ?_, ?_, ?_, ?_, ?_⟩
      · intro h; first | rfl | (rw [bit_set hs (by decide)] at h; exact h0 (by simpa using h))
      · intro h; first | rfl | (rw [bit_set hs (by decide)] at h; exact h1 (by simpa using h))
      · intro _; rfl
      · intro h; first | rfl | (rw [bit_set hs (by decide)] at h; exact h3 (by simpa using h))
      · intro h; first | rfl | (rw [bit_set hs (by decide)] at h; exact h4 (by simpa using h))
      · intro h; first | rfl | (rw [bit_set hs (by decide)] at h; exact h5 (by simpa using h))
      · intro h; rw [bit_set hs (by decide)] at h; obtain ⟨g, e1, e2, e3⟩ := h6 (by simpa using h); refine ⟨g, e1, e2, ?_⟩; rw [bit_set hs (by decide)]; simpa using e3
      · intro h; rw [bit_set hs (by decide)] at h ⊢; simpa using h76 (by simpa using h)
    · obtain rfl := h2 (hpre _ rfl ⟨2, .data⟩ (by simp) rfl)
      refine wpOp_step rfl (fun K' hK => ?_)
      rw [if_pos (by rfl)]
      go_simp
      refine (hC2 _).mono ?_
      rintro e w' ⟨rfl, hb⟩
      refine hK _ _ ⟨_, _, _, _, _, _, _, rfl, below_then hB hb, ?_, ?_, ?_, ?_, ?_, ?_, ?_, ?_⟩
      · intro h; first | rfl | (rw [bit_set hs (by decide)] at h; exact h0 (by simpa using h))
      · intro h; first | rfl | (rw [bit_set hs (by decide)] at h; exact h1 (by simpa using h))
      · intro h; first | rfl | (rw [bit_set hs (by decide)] at h; exact h2 (by simpa using h))
      · intro _; rfl
      · intro h; first | rfl | (rw [bit_set hs (by decide)] at h; exact h4 (by simpa using h))
      · intro h; first | rfl | (rw [bit_set hs (by decide)] at h; exact h5 (by simpa using h))
      · intro h; rw [bit_set hs (by decide)] at h; obtain ⟨g, e1, e2, e3⟩ := h6 (by simpa using h); refine ⟨g, e1, e2, ?_⟩; rw [bit_set hs (by decide)]; simpa using (e3.below hb)
      · intro h; rw [bit_set hs (by decide)] at h ⊢; simpa using h76 (by simpa using h)
    · obtain rfl := h1 (hpre _ rfl ⟨1, .data⟩ (by simp) rfl)
      obtain rfl := h3 (hpre _ rfl ⟨3, .data⟩ (by simp) rfl)
      refine wpOp_step rfl (fun K' hK => ?_)
      rw [if_pos (by rfl)]
      go_simp
      refine (hN _ (HBW.out.trans (hB.mono HBW.out.size))).mono ?_
      rintro e w' ⟨rfl, hb⟩
      refine hK _ _ ⟨_, _, _, _, _, _, _, rfl, below_then hB hb, ?_, ?_, ?_, ?_, ?_, ?_, ?_, ?_⟩
      · intro h; first | rfl | (rw [bit_set hs (by decide)] at h; exact h0 (by simpa using h))
      · intro h; first | rfl | (rw [bit_set hs (by decide)] at h; exact h1 (by simpa using h))
      · intro h; first | rfl | (rw [bit_set hs (by decide)] at h; exact h2 (by simpa using h))
      · intro h; first | rfl | (rw [bit_set hs (by decide)] at h; exact h3 (by simpa using h))
      · intro _; rfl
      · intro h; first | rfl | (rw [bit_set hs (by decide)] at h; exact h5 (by simpa using h))
      · intro h; rw [bit_set hs (by decide)] at h; obtain ⟨g, e1, e2, e3⟩ := h6 (by simpa using h); refine ⟨g, e1, e2, ?_⟩; rw [bit_set hs (by decide)]; simpa using (e3.below hb)
      · intro h; rw [bit_set hs (by decide)] at h ⊢; simpa using h76 (by simpa using h)
    · obtain rfl := h4 (hpre _ rfl ⟨4, .data⟩ (by simp) rfl)
      refine wpOp_step rfl (fun K' hK => ?_)
      rw [if_pos (by rfl)]
      go_simp
      refine hK _ _ ⟨_, _, _, _, _, _, _, rfl, hB, ?_, ?_, ?_, ?_, ?_, ?_, ?_, ?_⟩
      · intro h; first | rfl | (rw [bit_set hs (by decide)] at h; exact h0 (by simpa using h))
      · intro h; first | rfl | (rw [bit_set hs (by decide)] at h; exact h1 (by simpa using h))
      · intro h; first | rfl | (rw [bit_set hs (by decide)] at h; exact h2 (by simpa using h))
      · intro h; first | rfl | (rw [bit_set hs (by decide)] at h; exact h3 (by simpa using h))
      · intro h; first | rfl | (rw [bit_set hs (by decide)] at h; exact h4 (by simpa using h))
      · intro _; rfl
      · intro h; rw [bit_set hs (by decide)] at h; obtain ⟨g, e1, e2, e3⟩ := h6 (by simpa using h); refine ⟨g, e1, e2, ?_⟩; rw [bit_set hs (by decide)]; simpa using e3
      · intro h; rw [bit_set hs (by decide)] at h ⊢; simpa using h76 (by simpa using h)
    · refine wpOp_step rfl (fun K' hK => ?_)
      rw [if_pos (by rfl)]
      go_simp
      refine hK _ _ ⟨_, _, _, _, _, _, _, rfl, below_alloc hB _, ?_, ?_, ?_, ?_, ?_, ?_, ?_, ?_⟩
      · intro h; first | rfl | (rw [bit_set hs (by decide)] at h; exact h0 (by simpa using h))
      · intro h; first | rfl | (rw [bit_set hs (by decide)] at h; exact h1 (by simpa using h))
      · intro h; first | rfl | (rw [bit_set hs (by decide)] at h; exact h2 (by simpa using h))
      · intro h; first | rfl | (rw [bit_set hs (by decide)] at h; exact h3 (by simpa using h))
      · intro h; first | rfl | (rw [bit_set hs (by decide)] at h; exact h4 (by simpa using h))
      · intro h; first | rfl | (rw [bit_set hs (by decide)] at h; exact h5 (by simpa using h))
      · intro _
        refine ⟨W.heap.size, rfl, hB.size, ?_⟩
        have hb6 : L.getD 6 false = false := by have h8 : 6 < L.size := by rw [hs]; decide
                                                simp [Array.getD, h8] at hf ⊢; exact hf
        have hb7 : L.getD 7 false = false := by
          cases h : L.getD 7 false with
          | false => rfl
          | true => rw [h76 h] at hb6; cases hb6
        rw [bit_set hs (by decide), hb7]
        exact heap_new W _
      · intro _; rw [bit_set hs (by decide)]; simp
    · obtain ⟨g, rfl, hg, hT⟩ := h6 (hpre _ rfl ⟨6, .data⟩ (by simp) rfl)
      obtain rfl := h5 (hpre _ rfl ⟨5, .data⟩ (by simp) rfl)
      have hb7 : L.getD 7 false = false := by have h8 : 7 < L.size := by rw [hs]; decide
                                              simp [Array.getD, h8] at hf ⊢; exact hf
      rw [hb7] at hT
      refine wpOp_step rfl (fun K' hK => ?_)
      rw [if_pos (by rfl)]
      refine wp_store_row' 81 (.tmp 5) (.tmp 12) rfl g rfl 81 _ #[.int .i64 0, .int .i64 0, .int .i64 0, .int .i64 0, .int .i64 0, .int .i64 0, .int .i64 0, .int .i64 0, .string dn] rfl hT (by kernel_rfl) rfl (by simp [Value.oneCell']) ?_
      refine hK _ _ ⟨_, _, _, _, _, _, _, rfl, hB.trans ⟨rfl, rfl, rfl, by rw [setRow_size]; exact Nat.le_refl _, fun k hk => setRow_other _ _ _ _ (by omega)⟩, ?_, ?_, ?_, ?_, ?_, ?_, ?_, ?_⟩
      · intro h; first | rfl | (rw [bit_set hs (by decide)] at h; exact h0 (by simpa using h))
      · intro h; first | rfl | (rw [bit_set hs (by decide)] at h; exact h1 (by simpa using h))
      · intro h; first | rfl | (rw [bit_set hs (by decide)] at h; exact h2 (by simpa using h))
      · intro h; first | rfl | (rw [bit_set hs (by decide)] at h; exact h3 (by simpa using h))
      · intro h; first | rfl | (rw [bit_set hs (by decide)] at h; exact h4 (by simpa using h))
      · intro h; first | rfl | (rw [bit_set hs (by decide)] at h; exact h5 (by simpa using h))
      · intro _
        refine ⟨g, rfl, hg, ?_⟩
        rw [bit_set hs (by decide)]
        exact setRow_heap W g _ _ 81 (0, 0) hT
      · intro _; rw [bit_set hs (by decide)]; simpa using hpre _ rfl ⟨6, .data⟩ (by simp) rfl
  · rintro L act W hs ⟨v5, v7, v8, v9, v10, v11, v12, rfl, hB, h0, h1, h2, h3, h4, h5, h6, h76⟩ hr
    have hall := all_run hs hr (backs_spec (by decide +kernel))
    obtain ⟨g, rfl, hg, hT⟩ := h6 (hall 6 (by decide))
    rw [hall 7 (by decide), if_pos rfl] at hT
    refine hK0 _ _ ?_
    have hs0' := HS0.out
    exact HR.out W w.heap.size (w.heap.size + 1) (w.heap.size + 2) g ((hB.block _ (by omega)).trans r1) ((hB.block _ (by omega)).trans r2) ((hB.block _ (by omega)).trans r3) hT (by omega) (by omega) (by omega) (HBW.out.trans (hB.mono HBW.out.size)) (by omega) (by omega) _ _ _ _ _ _ _ _ _ _ _ _ _ _ _ _ _ _ _ _ _ _ _ _ _ _

end Go.Proofs.YthohfbeelepkmaaDoor

/- audit.total.shown, audit.rows. -/
namespace Go.Proofs.YthohfbeelepkmaaDoor
open Go.RowKit Go.Shelf

theorem rows_calls (A : Option Addr) (n c : Nat) (key : ByteArray) (w : World) :
    Calls Tryd.prog 42 #[.agg #[.string key, .slice A n c]] w fun e w' => e = .returned (.func (.func 75) #[] #[.pointer (some ⟨w.heap.size, 0, none⟩)]) ∧ w' = w.alloc (.cells #[.string key, .slice A n c] 26) := by
  go_enter Tryd.func42, Tryd.ntmps42
  go_wp2
  go_ret
  exact ⟨rfl, rfl⟩

theorem below_drew' {n : Nat} {w w1 : World} (h : Below n w w1) : Below n w w1.drew := h.drew
theorem below_thenN {n : Nat} {w w1 w2 : World} (k : Below w1.heap.size w1 w2) (h : Below n w w1) (hn : n ≤ w.heap.size) : Below n w w2 := h.trans (k.mono (Nat.le_trans hn h.size))
theorem below_set2 {n b : Nat} {w V : World} (h : Below n w V) (hn : n ≤ b) (x y : Value) : Below n w ((V.setCell ⟨b, 0, none⟩ x).setCell ⟨b, 1, none⟩ y) := (h.setCell (p := ⟨b, 0, none⟩) hn x).setCell (p := ⟨b, 1, none⟩) hn y

theorem Ints.other {w : World} {g n c b : Nat} {q : IntKind} {l : List Int} (h : Ints w (.slice (some ⟨g, 0, none⟩) n c) q l) (hne : b ≠ g) (i : Nat) (v : Value) : Ints (w.setCell ⟨b, i, none⟩ v) (.slice (some ⟨g, 0, none⟩) n c) q l := by
  obtain ⟨h1, h2, A, cap, hv, hc, h3⟩ := h
  refine ⟨h1, h2, A, cap, hv, hc, fun hp => ?_⟩
  obtain ⟨g', off, e, hlt, hcell⟩ := h3 hp
  cases hv
  cases e
  exact ⟨g, 0, rfl, by rw [World.size_setCell]; exact hlt, fun j i x y hx hy => cellF hne (hcell j i x y hx hy) v⟩

set_option maxHeartbeats 1000000 in
set_option maxRecDepth 100000 in
theorem shown_calls (l : List Int) (d : ByteArray) (w : World) (h8 : l.length = 8) :
    Calls Tryd.prog 43 #[.agg (totC l d).toArray] w fun e w' => ∃ v, e = .returned (.agg #[v, .string d]) ∧ Ints w' v .i64 l ∧ (∃ g c, v = .slice (some ⟨g, 0, none⟩) 8 c) ∧ w'.ownsRow w.heap.size 3 1 v 8 (l.map fun n => .int .i64 n) ∧ Below w.heap.size w w' := by
  obtain ⟨W0, hW0⟩ : ∃ W0, W0 = (w.alloc (.cells (totC l d).toArray 81)).alloc (.cells #[.slice none 0 0, .string ⟨#[]⟩] 35) := ⟨_, rfl⟩
  have r1 : Tot W0 w.heap.size l d := by
    rw [hW0]; unfold Tot; rw [Below.heap_alloc _ _ _ (by simp)]; exact heap_new w _
  have r2 : W0.heap[w.heap.size + 1]? = some (.cells #[.slice none 0 0, .string ⟨#[]⟩] 35 (0, 0)) := by
    rw [hW0]; have := heap_new (w.alloc (.cells (totC l d).toArray 81)) (.cells #[.slice none 0 0, .string ⟨#[]⟩] 35); rwa [World.size_alloc] at this
  have hbw : Below w.heap.size w W0 := by rw [hW0]; exact below_alloc (below_one w _) _
  have hs0 : W0.heap.size = w.heap.size + 2 := by rw [hW0]; simp
  have HK : ∀ w', Below W0.heap.size W0 w' → w'.cell? ⟨w.heap.size, 8, none⟩ = some (.string d) ∧ w'.cell? ⟨w.heap.size + 1, 0, none⟩ = some (.slice none 0 0) ∧ w'.cell? ⟨w.heap.size + 1, 1, none⟩ = some (.string ⟨#[]⟩) ∧ w'.frozen? ⟨w.heap.size + 1, 0, none⟩ = false ∧ w'.frozen? ⟨w.heap.size + 1, 1, none⟩ = false ∧ Below W0.heap.size W0 w' := fun w' h => by
    have q1 := r1.below h
    have q2 := (h.block _ (by omega)).trans r2
    refine ⟨?_, ?_, ?_, ?_, ?_, h⟩
    · unfold World.cell?; rw [q1]; exact totC_str h8
    · unfold World.cell?; rw [q2]; rfl
    · unfold World.cell?; rw [q2]; rfl
    · unfold World.frozen?; rw [q2]; simp
    · unfold World.frozen?; rw [q2]; simp
  have hC : ∀ W, Below W0.heap.size W0 W → Calls Tryd.prog 68 #[.slice (some ⟨w.heap.size, 0, none⟩) 8 8] W fun e w' => ∃ g c, e = .returned (.slice (some ⟨g, 0, none⟩) 8 c) ∧ Ints w' (.slice (some ⟨g, 0, none⟩) 8 c) .i64 l ∧ w.heap.size + 1 ≠ g ∧ w'.ownsRow w.heap.size 3 1 (.slice (some ⟨g, 0, none⟩) 8 c) 8 (l.map fun n => .int .i64 n) ∧ Below W.heap.size W w' := fun W h => by
    have q1 := r1.below h
    refine (Tryd.slices_Clone_int w.heap.size 0 8 8 l W (by omega) (by omega) (fun j hj => by rw [Nat.zero_add]; exact q1.cellD j (by omega))).mono ?_
    rintro e w' ⟨v', rfl, hown, _, hb⟩
    obtain ⟨g, c, rfl⟩ := ownsRow_succ (k := 7) hown
    have hown2 : w'.ownsRow W.heap.size 3 1 (.slice (some ⟨g, 0, none⟩) 8 c) 8 (l.map fun n => .int .i64 n) := by rwa [List.take_of_length_le (by omega)] at hown
    refine ⟨g, c, rfl, ?_, by have := (hown.lt g rfl).1; have := h.size; omega, ?_, hb⟩
    · refine ownsRow_sl (e := 3) (n := 8) (B := W.heap.size) (L := l.map fun n => [Value.int .i64 n]) ?_ (by simp [h8]) (by simp) (by omega)
      rw [flat_one]
      exact hown2
    · refine ⟨hown2.1, ?_⟩
      rcases hown2.2 with h | ⟨x1, x2, x3, e1, e2, e3⟩
      · exact .inl h
      · exact .inr ⟨x1, x2, x3, e1, by have := h.size; omega, e3⟩
  have HS : ∀ w', Below (w.heap.size + 1) W0 w' → w'.cell? ⟨w.heap.size, 8, none⟩ = some (.string d) ∧ Below (w.heap.size + 1) W0 w' := fun w' h => by
    have q1 : Tot w' w.heap.size l d := (h.block _ (by omega)).trans r1
    exact ⟨by unfold World.cell?; rw [q1]; exact totC_str h8, h⟩
  have HB0 := below_drew (Below.refl W0.heap.size W0)
  have HBr := Below.refl (w.heap.size + 1) W0
  have HB1 := below_drew' (Below.refl (w.heap.size + 1) W0)
  have hn0 : w.heap.size + 1 ≤ W0.heap.size := by omega
  have HBW := Lib.hid hbw
  have HS0 := Lib.hid hs0
  have hn0' : w.heap.size + 2 ≤ W0.drew.heap.size := by show _ ≤ W0.heap.size; omega
  have r2' : W0.drew.heap[w.heap.size + 1]? = some (.cells #[.slice none 0 0, .string ⟨#[]⟩] 35 (0, 0)) := r2
  clear hbw hs0 r1
  generalize (totC l d).toArray = X at *
  go_enter Tryd.func43, Tryd.ntmps43
  go_wp2
  rw [← hW0]
  clear hW0
  go_region_held3 (fun w' => w'.cell? ⟨w.heap.size, 8, none⟩ = some (.string d) ∧ Below (w.heap.size + 1) W0 w')
    (first | (go_split_ands; refine HS _ ?_; first | with_reducible assumption | (refine below_thenN (by with_reducible assumption) (by with_reducible assumption) hn0) | (refine below_set2 (by with_reducible assumption) (Nat.le_refl _) _ _) | (refine below_set2 (below_thenN (by with_reducible assumption) (by with_reducible assumption) hn0) (Nat.le_refl _) _ _)))
    (first
      | (go_at_call 68; ((with_reducible refine (hC _ HB0).mono ?_)); rintro e w' ⟨g, c, rfl, hI, hg, ho, hb⟩; have HO := Lib.hid ho; have HI := Lib.hid hI; have HG := Lib.hid hg; have HBB := Lib.hid (HBW.out.trans (below_then' hb HB0 |>.mono HBW.out.size)); have HROW := Lib.hid ((hb.block _ (Nat.lt_of_lt_of_le (Nat.lt_succ_self _) hn0')).trans r2); obtain ⟨k0, k1, k2, k3, k4, k5⟩ := HK _ (below_then' hb HB0)))
  have I35 := Lib.hid (show (Tryd.prog.info? 35).map (·.size) = some 2 by kernel_rfl)
  have hfin : ((w'.setCell ⟨w.heap.size + 1, 0, none⟩ (.slice (some ⟨g, 0, none⟩) 8 c)).setCell ⟨w.heap.size + 1, 1, none⟩ (.string d)).heap[w.heap.size + 1]? = some (.cells #[.slice (some ⟨g, 0, none⟩) 8 c, .string d] 35 (0, 0)) := by
    simp only [World.setCell, Array.getElem?_modify, HROW.out, Option.map_some, if_true]; rfl
  have hI2 := (HI.out.other HG.out 0 (.slice (some ⟨g, 0, none⟩) 8 c)).other HG.out 1 (.string d)
  have hO2 : World.ownsRow ((w'.setCell ⟨w.heap.size + 1, 0, none⟩ (.slice (some ⟨g, 0, none⟩) 8 c)).setCell ⟨w.heap.size + 1, 1, none⟩ (.string d)) w.heap.size 3 1 (.slice (some ⟨g, 0, none⟩) 8 c) 8 (l.map fun n => .int .i64 n) := by
    have h1 : (w'.setCell ⟨w.heap.size + 1, 0, none⟩ (.slice (some ⟨g, 0, none⟩) 8 c)).heap[w.heap.size + 1]? = some (.cells #[.slice (some ⟨g, 0, none⟩) 8 c, .string ⟨#[]⟩] 35 (0, 0)) := by
      simp only [World.setCell, Array.getElem?_modify, HROW.out, Option.map_some, if_true]; rfl
    exact ownsRow_keep (ts := [3]) HO.out (((KeepT.refl [3] w').setCell HROW.out (by decide) 0 _).setCell h1 (by decide) 1 _) (by decide)
  have hb2 := below_set2 HBB.out (Nat.le_succ w.heap.size) (.slice (some ⟨g, 0, none⟩) 8 c) (.string d)
  clear k0 k1 k2 k3 k4 k5 HROW
  go_wp2
  exact bodyPost_row (w.heap.size + 1) 35 _ _ hfin Tryd.underlying35 rfl I35.out rfl rfl rfl ⟨_, rfl, hI2, ⟨_, _, rfl⟩, hO2, hb2⟩

end Go.Proofs.YthohfbeelepkmaaDoor
