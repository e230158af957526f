/- audit.Account: a round of its loop: one total more of the path. -/
import Derived.Test.YthohfbeelepkmaaDoorD1
namespace Go.Proofs.YthohfbeelepkmaaDoor
open Go.RowKit Go.Shelf

def accBody : Code → Code
  | .seq _ (.seq _ (.seq _ (.seq _ (.seq (.seq _ (.block _ (.rangeFunc _ _ _ (.block _ (.seq (.seq _ (.cond _ r _)) _))))) _)))) => r
  | c => c
def NotT (ty : TypeId) : Obj → Bool
  | .cells _ t _ => !decide (t = ty)
  | _ => true
/-- All but the block n and rows of one type lies as it lay. -/
def OthT (ty : TypeId) (n : Nat) (W W' : World) : Prop := ∀ k o, k ≠ n → W.heap[k]? = some o → NotT ty o = true → W'.heap[k]? = some o
theorem OthT.trans {ty n : Nat} {A B C : World} (h : OthT ty n A B) (k : OthT ty n B C) : OthT ty n A C := fun i o hn ho hk => k i o hn (h i o hn ho hk) hk
theorem OthT.of_below {ty n : Nat} {A B : World} (h : Below A.heap.size A B) : OthT ty n A B := fun k o _ ho _ => by
  rw [h.block k (Array.getElem?_eq_some_iff.1 ho).1]; exact ho
theorem OthT.setCell {ty n : Nat} {A B : World} (h : OthT ty n A B) (i : Nat) (v : Value) : OthT ty n A (B.setCell ⟨n, i, none⟩ v) := fun k o hn ho hk => by
  rw [Below.heap_setCell _ _ _ _ hn]; exact h k o hn ho hk
theorem OthT.nc {ty n : Nat} {A B : World} {cs : Array Value} {t : TypeId} {f : Nat × Nat} (h : OthT ty n A B) (hb : A.heap[n]? = some (.cells cs t f)) : KeepNC A B := fun k o ho hc => by
  refine h k o ?_ ho (by cases o <;> first | rfl | (cases hc))
  rintro rfl
  rw [hb] at ho
  cases ho
  cases hc
theorem OthT.grown {ty n base size k : Nat} {A B : World} {v : Value} {xs : List Value} (hg : A.grownBy B v.ownBlock) (hr : A.ownsRow base ty size v k xs) : OthT ty n A B := by
  intro j o _ ho hn
  by_cases hj : some j = v.ownBlock
  · rcases hr.2 with ⟨rfl, _⟩ | ⟨g', cap, cur, rfl, _, hg', _⟩
    · cases hj
    · simp only [Value.ownBlock, Option.some.injEq] at hj
      subst hj
      rw [hg'] at ho
      cases ho
      simp [NotT] at hn
  · rw [hg.block j (Array.getElem?_eq_some_iff.1 ho).1 hj]; exact ho
theorem OthT.row {ty n base e size k : Nat} {A B : World} {v : Value} {xs : List Value} {cs : Array Value} {t : TypeId} {f : Nat × Nat} (h : OthT ty n A B) (hb : A.heap[n]? = some (.cells cs t f)) (h1 : e ≠ ty) (h2 : e ≠ t) (hr : A.ownsRow base e size v k xs) : B.ownsRow base e size v k xs := by
  refine ⟨hr.1, ?_⟩
  rcases hr.2 with h3 | ⟨g', cap, cur, rfl, hn, hg', h3⟩
  · exact .inl h3
  · exact .inr ⟨g', cap, cur, rfl, hn, h g' _ (by rintro rfl; rw [hb] at hg'; cases hg'; exact h2 rfl) hg' (by simp [NotT, h1]), h3⟩

/-- A total handed out lies there: its sums in a row of their own. -/
def Sv (B : Nat) (w : World) (l1 : List Int) (sv : Value) : Prop := w.ownsRow B 3 1 sv 8 (l1.map fun n => .int .i64 n)
theorem Sv.keep {B : Nat} {w w' : World} {l1 : List Int} {sv : Value} (h : Sv B w l1 sv) (hb : Below w.heap.size w w') : Sv B w' l1 sv := ownsRow_keep (ts := [3]) h (KeepT.of_below hb) (by decide)

def PInv (W0 : World) (n g6 g7 g N c k : Nat) (ci fi : Int) (cs1 : List Value) (l1 : List Int) (d1 : ByteArray) (cu : Int) (vC pv : Value) (salt : ByteArray) (xs : List Value) (p0 p1 p2 p3 p4 p5 p9 p10 p11 p12 p13 p14 p15 p16 p17 p18 p19 p20 p21 p22 p23 p24 p25 p26 p27 p28 p29 p30 p31 p32 p33 p34 p46 p47 p48 : Value) (L : Array Bool) (a : Act) (w : World) : Prop :=
  (L.getD 9 false = false ∧ L.getD 11 false = false ∧ ∃ v35 v36 v37 v38 v39 v40 v41 v42 v43 v44 v45 : Value, a = { tmps := #[p0, p1, p2, p3, p4, p5, .pointer (some ⟨g6, 0, none⟩), .pointer (some ⟨g7, 0, none⟩), .slice (some ⟨g, 0, none⟩) N c, p9, p10, p11, p12, p13, p14, p15, p16, p17, p18, p19, p20, p21, p22, p23, p24, p25, p26, p27, p28, p29, p30, p31, p32, p33, p34, v35, v36, v37, v38, v39, v40, v41, v42, v43, v44, v45, p46, p47, p48], defers := [] } ∧ Below W0.heap.size W0 w ∧
    (L.getD 0 false = true → v35 = .pointer (some ⟨g6, 3, none⟩)) ∧ (L.getD 1 false = true → v36 = pv) ∧ (L.getD 2 false = true → v37 = .slice (some ⟨g, 0, none⟩) N c) ∧ (L.getD 3 false = true → v38 = .int .i64 ci) ∧
    (L.getD 4 false = true → v39 = .int .i64 fi) ∧ (L.getD 5 false = true → v40 = .pointer (some ⟨g, fi.toNat * 9, none⟩)) ∧ (L.getD 6 false = true → v41 = .agg cs1.toArray) ∧
    (L.getD 7 false = true → ∃ q c, v42 = .agg #[.slice (some ⟨q, 0, none⟩) 8 c, .string d1] ∧ Sv W0.heap.size w l1 (.slice (some ⟨q, 0, none⟩) 8 c)) ∧
    (L.getD 8 false = true → ∃ h q c, v43 = .slice (some ⟨h, 0, none⟩) 1 1 ∧ w.heap[h]? = some (.cells #[.slice (some ⟨q, 0, none⟩) 8 c, .string d1] 35 (0, 0)) ∧ Sv W0.heap.size w l1 (.slice (some ⟨q, 0, none⟩) 8 c))) ∨
  (L.getD 11 false = false ∧ (∀ i, i < 10 → L.getD i false = true) ∧ ∃ v35 v36 v37 v38 v39 v40 v41 v42 v43 v44 v45 : Value, ∃ g' p' sv, a = { tmps := #[p0, p1, p2, p3, p4, p5, .pointer (some ⟨g6, 0, none⟩), .pointer (some ⟨g7, 0, none⟩), .slice (some ⟨g, 0, none⟩) N c, p9, p10, p11, p12, p13, p14, p15, p16, p17, p18, p19, p20, p21, p22, p23, p24, p25, p26, p27, p28, p29, p30, p31, p32, p33, p34, v35, v36, v37, v38, v39, v40, v41, v42, v43, v44, v45, p46, p47, p48], defers := [] } ∧ v44 = .slice (some ⟨g', 0, none⟩) (k + 1) p' ∧ (L.getD 10 false = true → v45 = .pointer (some ⟨g6, 3, none⟩)) ∧
    w.ownsRow n 35 2 v44 (k + 1) (xs ++ [sv, .string d1]) ∧ Sv W0.heap.size w l1 sv ∧ w.heap[g6]? = some (.cells #[.int .i64 cu, vC, .string salt, pv] 51 (0, 0)) ∧ Below n W0 w ∧ OthT 35 g6 W0 w) ∨
  ((∀ i, i < 12 → L.getD i false = true) ∧ ∃ v35 v36 v37 v38 v39 v40 v41 v42 v43 v44 v45 : Value, ∃ g' p' sv, a = { tmps := #[p0, p1, p2, p3, p4, p5, .pointer (some ⟨g6, 0, none⟩), .pointer (some ⟨g7, 0, none⟩), .slice (some ⟨g, 0, none⟩) N c, p9, p10, p11, p12, p13, p14, p15, p16, p17, p18, p19, p20, p21, p22, p23, p24, p25, p26, p27, p28, p29, p30, p31, p32, p33, p34, v35, v36, v37, v38, v39, v40, v41, v42, v43, v44, v45, p46, p47, p48], defers := [] } ∧
    w.ownsRow n 35 2 (.slice (some ⟨g', 0, none⟩) (k + 1) p') (k + 1) (xs ++ [sv, .string d1]) ∧ Sv W0.heap.size w l1 sv ∧ w.heap[g6]? = some (.cells #[.int .i64 cu, vC, .string salt, .slice (some ⟨g', 0, none⟩) (k + 1) p'] 51 (0, 0)) ∧ Below n W0 w ∧ OthT 35 g6 W0 w)

set_option maxHeartbeats 4000000 in
set_option maxRecDepth 100000 in
theorem acc_body (W : World) (n g6 g7 g N c k : Nat) (ci fi : Int) (l1 : List Int) (d1 : ByteArray) (cu : Int) (vC pv : Value) (salt : ByteArray) (xs : List Value) (p0 p1 p2 p3 p4 p5 p9 p10 p11 p12 p13 p14 p15 p16 p17 p18 p19 p20 p21 p22 p23 p24 p25 p26 p27 p28 p29 p30 p31 p32 p33 p34 p35 p36 p37 p38 p39 p40 p41 p42 p43 p44 p45 p46 p47 p48 : Value) (lp : Nat) (Q : Exit → Act → World → Prop)
    (h6 : W.heap[g6]? = some (.cells #[.int .i64 cu, vC, .string salt, pv] 51 (0, 0))) (h7 : Boxed W g7 3 (.int .i64 ci)) (hown : W.ownsRow n 35 2 pv k xs) (hf : bits .xor .i64 ci 1 = fi) (hf0 : 0 ≤ fi) (hfN : fi < N) (hN : N ≤ 64) (hr1 : W.rangeAt g (fi.toNat * 9) (totC l1 d1)) (e1 : l1.length = 8)
    (hn : n ≤ g6) (hk : k ≤ 64)
    (hQ : ∀ a' w' g' p' sv, w'.ownsRow n 35 2 (.slice (some ⟨g', 0, none⟩) (k + 1) p') (k + 1) (xs ++ [sv, .string d1]) → Sv W.heap.size w' l1 sv → w'.heap[g6]? = some (.cells #[.int .i64 cu, vC, .string salt, .slice (some ⟨g', 0, none⟩) (k + 1) p'] 51 (0, 0)) → Below n W w' → OthT 35 g6 W w' →
      (∃ v35 v36 v37 v38 v39 v40 v41 v42 v43 v44 v45 : Value, a' = { tmps := #[p0, p1, p2, p3, p4, p5, .pointer (some ⟨g6, 0, none⟩), .pointer (some ⟨g7, 0, none⟩), .slice (some ⟨g, 0, none⟩) N c, p9, p10, p11, p12, p13, p14, p15, p16, p17, p18, p19, p20, p21, p22, p23, p24, p25, p26, p27, p28, p29, p30, p31, p32, p33, p34, v35, v36, v37, v38, v39, v40, v41, v42, v43, v44, v45, p46, p47, p48], defers := [] }) → Q .normal a' w') :
    (accBody (Tryd.f26.body.getD .skip)).wpIn (Fence.wide.inRound lp) 3 Tryd.prog Q { tmps := #[p0, p1, p2, p3, p4, p5, .pointer (some ⟨g6, 0, none⟩), .pointer (some ⟨g7, 0, none⟩), .slice (some ⟨g, 0, none⟩) N c, p9, p10, p11, p12, p13, p14, p15, p16, p17, p18, p19, p20, p21, p22, p23, p24, p25, p26, p27, p28, p29, p30, p31, p32, p33, p34, p35, p36, p37, p38, p39, p40, p41, p42, p43, p44, p45, p46, p47, p48], defers := [] } W := by
  obtain ⟨i0, hi, hz0, hz1, hz2⟩ := info_parts (show (Tryd.prog.info? 35).map (fun i => (i.zero, i.size, i.bytes)) = some (some (.agg #[.slice none 0 0, .string ⟨#[]⟩]), 2, 40) by kernel_rfl)
  have I81 := Lib.hid (show (Tryd.prog.info? 81).map (·.size) = some 9 by kernel_rfl)
  simp only [Tryd.f26, accBody, Option.getD]
  have hC := fun W' => shown_calls l1 d1 W' e1
  have hL := fun w' (h : Below W.heap.size W w') (g o : Nat) (cs : List Value) (hr : W.rangeAt g o cs) => (show w'.rangeAt g o cs from fun j v hj => (h.cell (p := ⟨g, o + j, none⟩) (World.block_lt_of_cell? W _ (hr j v hj))).trans (hr j v hj))
  have hl1 : (totC l1 d1).length = 9 := by simp [totC, e1]
  generalize totC l1 d1 = cs1 at *
  have hg6 := (Array.getElem?_eq_some_iff.1 h6).1
  have hg7 := h7.lt
  have hpv : ∃ A a b, pv = .slice A a b := by
    rcases hown.2 with ⟨e, _⟩ | ⟨_, _, _, e, _⟩ <;> exact ⟨_, _, _, e⟩
  refine wpIn_region_cl (PInv W n g6 g7 g N c k ci fi cs1 l1 d1 cu vC pv salt xs p0 p1 p2 p3 p4 p5 p9 p10 p11 p12 p13 p14 p15 p16 p17 p18 p19 p20 p21 p22 p23 p24 p25 p26 p27 p28 p29 p30 p31 p32 p33 p34 p46 p47 p48) (by kernel_rfl) (by decide) (.inl ⟨rfl, rfl, _, _, _, _, _, _, _, _, _, _, _, rfl, below_drew (Below.refl _ _), ?_, ?_, ?_, ?_, ?_, ?_, ?_, ?_, ?_⟩) ?_ ?_
  iterate 9 (intro h; exact absurd h (by decide))
  · intro L act w i hs hcl hI hr
    obtain ⟨hi12, hf', hpre⟩ := ready_spec hr
    have hi12 : i < 12 := hi12
    have hfi : L.getD i false = false := by
      have h8 : i < L.size := by rw [hs]; exact hi12
      simp [Array.getD, h8] at hf' ⊢; exact hf'
    rcases hI with ⟨h9, h11, v35, v36, v37, v38, v39, v40, v41, v42, v43, v44, v45, rfl, hB, k0, k1, k2, k3, k4, k5, k6, k7, k8⟩ | ⟨h11, hall, v35, v36, v37, v38, v39, v40, v41, v42, v43, v44, v45, g', p', sv, rfl, rfl, h10, hown', hsv', h6', hb', hk'⟩ | ⟨hall, _⟩
    · have hc0 : w.cell? ⟨g6, 3, none⟩ = some pv := (hB.cell (p := ⟨g6, 3, none⟩) hg6).trans (by unfold World.cell?; rw [h6]; rfl)
      have hc1 := (hB.cell (p := ⟨g7, 0, none⟩) hg7).trans h7.cell
      rcases (by omega : i = 0 ∨ i = 1 ∨ i = 2 ∨ i = 3 ∨ i = 4 ∨ i = 5 ∨ i = 6 ∨ i = 7 ∨ i = 8 ∨ i = 9 ∨ i = 10 ∨ i = 11) with rfl | rfl | rfl | rfl | rfl | rfl | rfl | rfl | rfl | rfl | rfl | rfl
      · refine wpOpS_step rfl (fun K' hK => ?_)
        rw [if_pos (by rfl)]
        go_simp
        refine hK _ _ (.inl ⟨by rw [bit_set hs (by decide), h9]; rfl, by rw [bit_set hs (by decide), h11]; rfl, _, _, _, _, _, _, _, _, _, _, _, rfl, hB, ?_, ?_, ?_, ?_, ?_, ?_, ?_, ?_, ?_⟩) <;> intro h
        all_goals first | rfl | (rw [bit_set hs (by decide)] at h; first | exact k0 (by simpa using h) | exact k1 (by simpa using h) | exact k2 (by simpa using h) | exact k3 (by simpa using h) | exact k4 (by simpa using h) | exact k5 (by simpa using h) | exact k6 (by simpa using h) | exact k7 (by simpa using h) | exact k8 (by simpa using h))
      · obtain rfl := k0 (hpre _ rfl ⟨0, .data⟩ (by simp) rfl)
        refine wpOpS_step rfl (fun K' hK => ?_)
        rw [if_pos (by rfl)]
        obtain ⟨PA, pa, pb, rfl⟩ := hpv
        go_simp
        refine hK _ _ (.inl ⟨by rw [bit_set hs (by decide), h9]; rfl, by rw [bit_set hs (by decide), h11]; rfl, _, _, _, _, _, _, _, _, _, _, _, rfl, hB, ?_, ?_, ?_, ?_, ?_, ?_, ?_, ?_, ?_⟩) <;> intro h
        all_goals first | rfl | (rw [bit_set hs (by decide)] at h; first | exact k0 (by simpa using h) | exact k1 (by simpa using h) | exact k2 (by simpa using h) | exact k3 (by simpa using h) | exact k4 (by simpa using h) | exact k5 (by simpa using h) | exact k6 (by simpa using h) | exact k7 (by simpa using h) | exact k8 (by simpa using h))
      · refine wpOpS_step rfl (fun K' hK => ?_)
        rw [if_pos (by rfl)]
        go_simp
        refine hK _ _ (.inl ⟨by rw [bit_set hs (by decide), h9]; rfl, by rw [bit_set hs (by decide), h11]; rfl, _, _, _, _, _, _, _, _, _, _, _, rfl, hB, ?_, ?_, ?_, ?_, ?_, ?_, ?_, ?_, ?_⟩) <;> intro h
        all_goals first | rfl | (rw [bit_set hs (by decide)] at h; first | exact k0 (by simpa using h) | exact k1 (by simpa using h) | exact k2 (by simpa using h) | exact k3 (by simpa using h) | exact k4 (by simpa using h) | exact k5 (by simpa using h) | exact k6 (by simpa using h) | exact k7 (by simpa using h) | exact k8 (by simpa using h))
      · refine wpOpS_step rfl (fun K' hK => ?_)
        rw [if_pos (by rfl)]
        go_simp
        refine hK _ _ (.inl ⟨by rw [bit_set hs (by decide), h9]; rfl, by rw [bit_set hs (by decide), h11]; rfl, _, _, _, _, _, _, _, _, _, _, _, rfl, hB, ?_, ?_, ?_, ?_, ?_, ?_, ?_, ?_, ?_⟩) <;> intro h
        all_goals first | rfl | (rw [bit_set hs (by decide)] at h; first | exact k0 (by simpa using h) | exact k1 (by simpa using h) | exact k2 (by simpa using h) | exact k3 (by simpa using h) | exact k4 (by simpa using h) | exact k5 (by simpa using h) | exact k6 (by simpa using h) | exact k7 (by simpa using h) | exact k8 (by simpa using h))
      · obtain rfl := k3 (hpre _ rfl ⟨3, .data⟩ (by simp) rfl)
        refine wpOpS_step rfl (fun K' hK => ?_)
        rw [if_pos (by rfl)]
        go_simp
        refine hK _ _ (.inl ⟨by rw [bit_set hs (by decide), h9]; rfl, by rw [bit_set hs (by decide), h11]; rfl, _, _, _, _, _, _, _, _, _, _, _, rfl, hB, ?_, ?_, ?_, ?_, ?_, ?_, ?_, ?_, ?_⟩) <;> intro h
        all_goals first | rfl | (rw [bit_set hs (by decide)] at h; first | exact k0 (by simpa using h) | exact k1 (by simpa using h) | exact k2 (by simpa using h) | exact k3 (by simpa using h) | exact k4 (by simpa using h) | exact k5 (by simpa using h) | exact k6 (by simpa using h) | exact k7 (by simpa using h) | exact k8 (by simpa using h))
      · obtain rfl := k2 (hpre _ rfl ⟨2, .data⟩ (by simp) rfl)
        obtain rfl := k4 (hpre _ rfl ⟨4, .data⟩ (by simp) rfl)
        refine wpOpS_step rfl (fun K' hK => ?_)
        rw [if_pos (by rfl)]
        go_simp
        refine hK _ _ (.inl ⟨by rw [bit_set hs (by decide), h9]; rfl, by rw [bit_set hs (by decide), h11]; rfl, _, _, _, _, _, _, _, _, _, _, _, rfl, hB, ?_, ?_, ?_, ?_, ?_, ?_, ?_, ?_, ?_⟩) <;> intro h
        all_goals first | rfl | (rw [bit_set hs (by decide)] at h; first | exact k0 (by simpa using h) | exact k1 (by simpa using h) | exact k2 (by simpa using h) | exact k3 (by simpa using h) | exact k4 (by simpa using h) | exact k5 (by simpa using h) | exact k6 (by simpa using h) | exact k7 (by simpa using h) | exact k8 (by simpa using h))
      · obtain rfl := k5 (hpre _ rfl ⟨5, .data⟩ (by simp) rfl)
        refine wpOpS_step rfl (fun K' hK => ?_)
        rw [if_pos (by rfl)]
        refine wp_load_mid 81 (.tmp 40) rfl g (fi.toNat * 9) rfl cs1 _ (hL w hB _ _ _ hr1) Tryd.underlying81 rfl (I81.out.trans (by rw [hl1])) ?_
        refine hK _ _ (.inl ⟨by rw [bit_set hs (by decide), h9]; rfl, by rw [bit_set hs (by decide), h11]; rfl, _, _, _, _, _, _, _, _, _, _, _, rfl, hB, ?_, ?_, ?_, ?_, ?_, ?_, ?_, ?_, ?_⟩) <;> intro h
        all_goals first | rfl | (rw [bit_set hs (by decide)] at h; first | exact k0 (by simpa using h) | exact k1 (by simpa using h) | exact k2 (by simpa using h) | exact k3 (by simpa using h) | exact k4 (by simpa using h) | exact k5 (by simpa using h) | exact k6 (by simpa using h) | exact k7 (by simpa using h) | exact k8 (by simpa using h))
      · obtain rfl := k6 (hpre _ rfl ⟨6, .data⟩ (by simp) rfl)
        refine wpOpS_step rfl (fun K' hK => ?_)
        rw [if_pos (by rfl)]
        go_simp
        refine (hC w).mono ?_
        rintro e w' ⟨sv, rfl, _, ⟨q, c', rfl⟩, ho, hb⟩
        refine hK _ _ (.inl ⟨by rw [bit_set hs (by decide), h9]; rfl, by rw [bit_set hs (by decide), h11]; rfl, _, _, _, _, _, _, _, _, _, _, _, rfl, below_then hB hb, ?_, ?_, ?_, ?_, ?_, ?_, ?_, ?_, ?_⟩) <;> intro h
        all_goals first | rfl | (rw [bit_set hs (by decide)] at h; first | exact k0 (by simpa using h) | exact k1 (by simpa using h) | exact k2 (by simpa using h) | exact k3 (by simpa using h) | exact k4 (by simpa using h) | exact k5 (by simpa using h) | exact k6 (by simpa using h) | exact k7 (by simpa using h) | exact k8 (by simpa using h)) | exact ⟨q, c', rfl, ⟨ho.1, ho.2.imp (fun h => h) (fun ⟨x1, x2, x3, e1, e2, e3⟩ => ⟨x1, x2, x3, e1, Nat.le_trans hB.size e2, e3⟩)⟩⟩ | (exfalso; rw [bit_set hs (by decide)] at h; have := hcl 8 _ rfl (by simpa using h) ⟨7, .data⟩ (by simp) rfl; rw [this] at hfi; cases hfi)
      · obtain ⟨q, c', rfl, hsv⟩ := k7 (hpre _ rfl ⟨7, .data⟩ (by simp) rfl)
        refine wpOpS_step rfl (fun K' hK => ?_)
        rw [if_pos (by rfl)]
        go_simp
        refine hK _ _ (.inl ⟨by rw [bit_set hs (by decide), h9]; rfl, by rw [bit_set hs (by decide), h11]; rfl, _, _, _, _, _, _, _, _, _, _, _, rfl, below_alloc hB _, ?_, ?_, ?_, ?_, ?_, ?_, ?_, ?_, ?_⟩) <;> intro h
        all_goals first | rfl | (rw [bit_set hs (by decide)] at h; first | exact k0 (by simpa using h) | exact k1 (by simpa using h) | exact k2 (by simpa using h) | exact k3 (by simpa using h) | exact k4 (by simpa using h) | exact k5 (by simpa using h) | exact k6 (by simpa using h) | exact k7 (by simpa using h) | exact k8 (by simpa using h)) | exact ⟨q, c', rfl, hsv.keep (below_one w _)⟩ | exact ⟨_, q, c', rfl, heap_new w _, hsv.keep (below_one w _)⟩
      · obtain rfl := k1 (hpre _ rfl ⟨1, .data⟩ (by simp) rfl)
        obtain ⟨h, q, c', rfl, hq, hsv⟩ := k8 (hpre _ rfl ⟨8, .data⟩ (by simp) rfl)
        have hpre' : ∀ i, i < 10 → (L.setIfInBounds 9 true).getD i false = true := by
          intro i hi
          have b8 := hpre _ rfl ⟨8, .data⟩ (by simp) rfl
          have b7 := hcl 8 _ rfl b8 ⟨7, .data⟩ (by simp) rfl
          have b6 := hcl 7 _ rfl b7 ⟨6, .data⟩ (by simp) rfl
          have b5 := hcl 6 _ rfl b6 ⟨5, .data⟩ (by simp) rfl
          have b4 := hcl 5 _ rfl b5 ⟨4, .data⟩ (by simp) rfl
          have b2 := hcl 5 _ rfl b5 ⟨2, .data⟩ (by simp) rfl
          have b3 := hcl 4 _ rfl b4 ⟨3, .data⟩ (by simp) rfl
          have b1 := hpre _ rfl ⟨1, .data⟩ (by simp) rfl
          have b0 := hcl 1 _ rfl b1 ⟨0, .data⟩ (by simp) rfl
          rw [bit_set hs (by decide)]
          rcases (by omega : i = 0 ∨ i = 1 ∨ i = 2 ∨ i = 3 ∨ i = 4 ∨ i = 5 ∨ i = 6 ∨ i = 7 ∨ i = 8 ∨ i = 9) with rfl | rfl | rfl | rfl | rfl | rfl | rfl | rfl | rfl | rfl <;> simp [b0, b1, b2, b3, b4, b5, b6, b7, b8]
        have b10 : L.getD 10 false = false := by
          cases hh : L.getD 10 false with
          | false => rfl
          | true => have := hcl 10 _ rfl hh ⟨9, .phase⟩ (by simp) rfl; rw [this] at h9; cases h9
        refine wpOpS_step rfl (fun K' hK => ?_)
        rw [if_pos (by rfl)]
        have hows : w.ownsRow n 35 2 v36 k xs := ownsRow_keep (ts := [35]) hown (KeepT.of_below hB) (by decide)
        refine wp_append_lies _ (.tmp 36) (.tmp 43) 36 rfl n 35 i0 _ 2 40 (by kernel_rfl) hi hz0 hz1 hz2 rfl (by decide) _ k xs rfl hows ⟨h, 0, none⟩ 1 1 [.slice (some ⟨q, 0, none⟩) 8 c', .string d1] rfl rfl ?hnew (by simp [Value.oneCell']) (by decide) (by unfold maxLen; omega) (by omega) (by have := hB.size; omega) _ rfl ?_
        case hnew =>
          intro y u hy
          rw [Addr.add_mid, Nat.zero_add]
          unfold World.cell?
          rw [hq]
          simpa using hy
        intro g' p' w4 hown' hgrow _ _
        have hw6 : w.heap[g6]? = some (.cells #[.int .i64 cu, vC, .string salt, v36] 51 (0, 0)) := (hB.block _ hg6).trans h6
        have hne6 : some g6 ≠ v36.ownBlock := by
          rcases hows.2 with ⟨e, _⟩ | ⟨_, _, _, e, _, hg, _⟩
          · rw [e]; simp [Value.ownBlock]
          · rw [e]; intro e2; simp only [Value.ownBlock, Option.some.injEq] at e2; subst e2; rw [hw6] at hg; cases hg
        refine hK _ _ (.inr (.inl ⟨by rw [bit_set hs (by decide), h11]; rfl, hpre', _, _, _, _, _, _, _, _, _, _, _, g', p', _, rfl, rfl, ?_, hown', ?_, ?_, ?_, ?_⟩))
        · intro h; rw [bit_set hs (by decide), b10] at h; cases h
        · exact ownsRow_keep (ts := [3]) hsv (KeepT.grown hgrow (fun j hj => by
            have hj : v36.ownBlock = some j := hj
            rcases hows.2 with ⟨e, _⟩ | ⟨_, _, cur, e, _, hg, _⟩
            · rw [e] at hj; cases hj
            · rw [e] at hj; simp only [Value.ownBlock, Option.some.injEq] at hj; subst hj; exact ⟨cur, 35, (0, 0), hg, by decide⟩)) (by decide)
        · rw [hgrow.block g6 (by have := hB.size; omega) hne6]; exact hw6
        · exact (hB.mono (by omega)).grown hgrow (by have := hB.size; omega) (fun y hy => (hows.lt y hy).1)
        · exact (OthT.of_below hB).trans (OthT.grown hgrow hows)
      · have := hpre _ rfl ⟨9, .phase⟩ (by simp) rfl
        rw [this] at h9; cases h9
      · have := hpre _ rfl ⟨9, .data⟩ (by simp) rfl
        rw [this] at h9; cases h9
    · have hi10 : i = 10 ∨ i = 11 := by
        rcases Nat.lt_or_ge i 10 with h | h
        · rw [hall i h] at hfi; cases hfi
        · omega
      rcases hi10 with rfl | rfl
      · refine wpOpS_step rfl (fun K' hK => ?_)
        rw [if_pos (by rfl)]
        go_simp
        refine hK _ _ (.inr (.inl ⟨by rw [bit_set hs (by decide), h11]; rfl, fun q hq => by rw [bit_set hs (by decide), hall q hq]; simp, _, _, _, _, _, _, _, _, _, _, _, g', p', sv, rfl, rfl, fun _ => rfl, hown', hsv', h6', hb', hk'⟩))
      · obtain rfl := h10 (hpre _ rfl ⟨10, .data⟩ (by simp) rfl)
        have hc : w.cell? ⟨g6, 3, none⟩ = some pv := by unfold World.cell?; rw [h6']; rfl
        have hf6 : w.frozen? ⟨g6, 3, none⟩ = false := by unfold World.frozen?; rw [h6']; simp
        have b10 := hpre _ rfl ⟨10, .data⟩ (by simp) rfl
        refine wpOpS_step rfl (fun K' hK => ?_)
        rw [if_pos (by rfl)]
        go_simp
        refine hK _ _ (.inr (.inr ⟨fun q hq => ?_, _, _, _, _, _, _, _, _, _, _, _, g', p', sv, rfl, ?_, ?_, ?_, hb'.setCell (p := ⟨g6, 3, none⟩) hn _, hk'.setCell _ _⟩))
        · rw [bit_set hs (by decide)]
          rcases (by omega : q < 10 ∨ q = 10 ∨ q = 11) with h | rfl | rfl
          · rw [hall q h]; simp
          · rw [b10]; simp
          · simp
        · exact ownsRow_keep (ts := [35]) hown' ((KeepT.refl _ w).setCell h6' (by decide) 3 _) (by decide)
        · exact ownsRow_keep (ts := [3]) hsv' ((KeepT.refl _ w).setCell h6' (by decide) 3 _) (by decide)
        · simp only [World.setCell, Array.getElem?_modify, h6', Option.map_some, if_true]; rfl
    · rw [hall i hi12] at hfi; cases hfi
  · intro L act w hs hI hr
    have hall := all_run hs hr (backs_spec (by decide +kernel))
    rcases hI with ⟨h9, _⟩ | ⟨h11, _⟩ | ⟨_, v35, v36, v37, v38, v39, v40, v41, v42, v43, v44, v45, g', p', sv, rfl, ho, hsv, h6', hb, hk⟩
    · rw [hall 9 (by decide)] at h9; cases h9
    · rw [hall 11 (by decide)] at h11; cases h11
    · exact hQ _ w g' p' sv ho hsv h6' hb hk ⟨_, _, _, _, _, _, _, _, _, _, _, rfl⟩

end Go.Proofs.YthohfbeelepkmaaDoor

