/- digest.Leaf, digest.Node. -/
import Derived.Test.YthohfbeelepkmaaDoorA14
import Derived.Test.YthohfbeelepkmaaDoorA0
import Derived.Test.YthohfbeelepkmaaDoorA26
namespace Go.Proofs.YthohfbeelepkmaaDoor
open Go.RowKit Go.Shelf

def joinB (l : List ByteArray) : ByteArray := ⟨(Lib.join (l.map (·.data.toList)) []).toArray⟩
theorem keepCB {b j : Nat} {w w1 w2 : World} {v : Value} (hb : Below w1.heap.size w1 w2) (hB : Below w.heap.size w w1) (h : w1.cell? ⟨b, j, none⟩ = some v) (hlt : b < w.heap.size) : w2.cell? ⟨b, j, none⟩ = some v ∧ Below w.heap.size w w2 :=
  ⟨(hb.cell (p := ⟨b, j, none⟩) (Nat.lt_of_lt_of_le hlt hB.size)).trans h, below_then hB hb⟩
theorem joinB_len (l : List ByteArray) : (joinB l).size = (Lib.join (l.map (·.data.toList)) []).length := by simp [joinB, ← ByteArray.size_data]
theorem joinB_one (x : ByteArray) : joinB [x] = x := by simp [joinB, Lib.join_one]
theorem joinB_two (x y : ByteArray) : joinB [x, y] = x ++ y := by
  simp [joinB, Lib.join, List.intercalate]
  rfl

set_option maxHeartbeats 1000000 in
set_option maxRecDepth 100000 in
theorem marked1_calls (bm bk : Nat) (m : ByteArray) (l : List ByteArray) (c : Nat) (w : World) (hm : w.cell? ⟨bm, 0, none⟩ = some (.string m)) (hbk : bk < w.heap.size) (hl : l.length ≤ 100) (hcap : l.length ≤ c)
    (hc : ∀ j x, l[j]? = some x → w.cell? ⟨bk, 0 + j, none⟩ = some (.string x)) (hms : m.size = 1) (hsz : (joinB l).size ≤ 1000000) (hR : Rd w) :
    Calls Tryd.prog 113 #[.slice (some ⟨bk, 0, none⟩) l.length c, .pointer (some ⟨bm, 0, none⟩)] w fun e w' => e = .returned (.string (sha (m ++ joinB l))) ∧ Below w.heap.size w w' := by
  have HJ : ∀ W, Below w.heap.size w W → Calls Tryd.prog 115 #[.slice (some ⟨bk, 0, none⟩) l.length c, .string ⟨#[]⟩] W fun e w' => e = .returned (.string (joinB l)) ∧ Below W.heap.size W w' := fun W hW =>
    Tryd.strings_Join bk 0 c l ⟨#[]⟩ W (fun j x hx => (hW.cell (p := ⟨bk, 0 + j, none⟩) hbk).trans (hc j x hx)) (Nat.lt_of_lt_of_le hbk hW.size) (by omega) hcap (Nat.le_trans (joinB_len l ▸ hsz) (by decide : 1000000 ≤ 140737488355328))
  have HS : ∀ W, Below w.heap.size w W → Calls Tryd.prog 114 #[.string (m ++ joinB l)] W fun e w' => e = .returned (.string (sha (m ++ joinB l))) ∧ Below W.heap.size W w' := fun W hW =>
    Sum_calls (m ++ joinB l) W (by rw [size_append]; omega) (hR.below hW)
  generalize sha (m ++ joinB l) = d at *
  have hms2 : m.size + (joinB l).size ≤ 2000000 := by omega
  generalize joinB l = jl at *
  have hms7 : ¬ 9223372036854775807 < 1 + jl.size := by omega
  clear hsz hc hR
  have hbr := Below.refl w.heap.size w
  have hb0 : Below w.heap.size w w.drew := below_drew (Below.refl _ _)
  have hm0 := cellD hm
  have hbm := World.block_lt_of_cell? w _ hm
  dsimp only at hbm
  go_enter Tryd.func113, Tryd.ntmps113
  go_wp2
  refine wp_region_inv (fun L a w' => ∃ v3 v4 v5 v6 v7 v8, a = { tmps := #[.slice (some ⟨bk, 0, none⟩) l.length c, .pointer (some ⟨bm, 0, none⟩), undef, v3, v4, v5, v6, v7, v8], defers := [] } ∧ Below w.heap.size w w' ∧ (L.getD 0 false = true → v4 = .string m) ∧ (L.getD 1 false = true → v5 = .slice (some ⟨bk, 0, none⟩) l.length c) ∧ (L.getD 2 false = true → v6 = .string jl) ∧ (L.getD 3 false = true → v7 = .string (m ++ jl)) ∧ (L.getD 4 false = true → v8 = .string d) ∧ (L.getD 5 false = true → v3 = .string d)) (by kernel_rfl) ⟨_, _, _, _, _, _, rfl, hb0, ?_, ?_, ?_, ?_, ?_, ?_⟩ ?_ ?_
  iterate 6 (intro h; exact absurd h (by decide))
  · intro L a W i hs hI hr
    obtain ⟨hi6, _, hpre⟩ := ready_spec hr
    have hi6 : i < 6 := hi6
    obtain ⟨v3, v4, v5, v6, v7, v8, rfl, hB, k0, k1, k2, k3, k4, k5⟩ := hI
    have hmW : W.cell? ⟨bm, 0, none⟩ = some (.string m) := (hB.cell (p := ⟨bm, 0, none⟩) hbm).trans hm
    rcases (by omega : i = 0 ∨ i = 1 ∨ i = 2 ∨ i = 3 ∨ i = 4 ∨ i = 5) with rfl | rfl | rfl | rfl | rfl | rfl
    · refine wpOp_step rfl (fun K' hK => ?_)
      rw [if_pos (by rfl)]
      go_simp
      exact hK _ _ ⟨_, _, _, _, _, _, rfl, hB, fun _ => rfl, fun h => k1 (by rw [bit_set hs (by decide)] at h; simpa using h), fun h => k2 (by rw [bit_set hs (by decide)] at h; simpa using h), fun h => k3 (by rw [bit_set hs (by decide)] at h; simpa using h), fun h => k4 (by rw [bit_set hs (by decide)] at h; simpa using h), fun h => k5 (by rw [bit_set hs (by decide)] at h; simpa using h)⟩
    · refine wpOp_step rfl (fun K' hK => ?_)
      rw [if_pos (by rfl)]
      go_simp
      exact hK _ _ ⟨_, _, _, _, _, _, rfl, hB, fun h => k0 (by rw [bit_set hs (by decide)] at h; simpa using h), fun _ => rfl, fun h => k2 (by rw [bit_set hs (by decide)] at h; simpa using h), fun h => k3 (by rw [bit_set hs (by decide)] at h; simpa using h), fun h => k4 (by rw [bit_set hs (by decide)] at h; simpa using h), fun h => k5 (by rw [bit_set hs (by decide)] at h; simpa using h)⟩
    · obtain rfl := k1 (hpre _ rfl ⟨1, .data⟩ (by simp) rfl)
      refine wpOp_step rfl (fun K' hK => ?_)
      rw [if_pos (by rfl)]
      go_simp
      refine (HJ W hB).mono ?_
      rintro e w' ⟨rfl, hb⟩
      exact hK _ _ ⟨_, _, _, _, _, _, rfl, below_then hB hb, fun h => k0 (by rw [bit_set hs (by decide)] at h; simpa using h), fun h => k1 (by rw [bit_set hs (by decide)] at h; simpa using h), fun _ => rfl, fun h => k3 (by rw [bit_set hs (by decide)] at h; simpa using h), fun h => k4 (by rw [bit_set hs (by decide)] at h; simpa using h), fun h => k5 (by rw [bit_set hs (by decide)] at h; simpa using h)⟩
    · obtain rfl := k0 (hpre _ rfl ⟨0, .data⟩ (by simp) rfl)
      obtain rfl := k2 (hpre _ rfl ⟨2, .data⟩ (by simp) rfl)
      refine wpOp_step rfl (fun K' hK => ?_)
      rw [if_pos (by rfl)]
      go_simp
      exact hK _ _ ⟨_, _, _, _, _, _, rfl, hB, fun h => k0 (by rw [bit_set hs (by decide)] at h; simpa using h), fun h => k1 (by rw [bit_set hs (by decide)] at h; simpa using h), fun h => k2 (by rw [bit_set hs (by decide)] at h; simpa using h), fun _ => rfl, fun h => k4 (by rw [bit_set hs (by decide)] at h; simpa using h), fun h => k5 (by rw [bit_set hs (by decide)] at h; simpa using h)⟩
    · obtain rfl := k3 (hpre _ rfl ⟨3, .data⟩ (by simp) rfl)
      refine wpOp_step rfl (fun K' hK => ?_)
      rw [if_pos (by rfl)]
      go_simp
      refine (HS W hB).mono ?_
      rintro e w' ⟨rfl, hb⟩
      exact hK _ _ ⟨_, _, _, _, _, _, rfl, below_then hB hb, fun h => k0 (by rw [bit_set hs (by decide)] at h; simpa using h), fun h => k1 (by rw [bit_set hs (by decide)] at h; simpa using h), fun h => k2 (by rw [bit_set hs (by decide)] at h; simpa using h), fun h => k3 (by rw [bit_set hs (by decide)] at h; simpa using h), fun _ => rfl, fun h => k5 (by rw [bit_set hs (by decide)] at h; simpa using h)⟩
    · obtain rfl := k4 (hpre _ rfl ⟨4, .data⟩ (by simp) rfl)
      refine wpOp_step rfl (fun K' hK => ?_)
      rw [if_pos (by rfl)]
      go_simp
      exact hK _ _ ⟨_, _, _, _, _, _, rfl, hB, fun h => k0 (by rw [bit_set hs (by decide)] at h; simpa using h), fun h => k1 (by rw [bit_set hs (by decide)] at h; simpa using h), fun h => k2 (by rw [bit_set hs (by decide)] at h; simpa using h), fun h => k3 (by rw [bit_set hs (by decide)] at h; simpa using h), fun h => k4 (by rw [bit_set hs (by decide)] at h; simpa using h), fun _ => rfl⟩
  · intro L a W hs hI hr
    obtain ⟨v3, v4, v5, v6, v7, v8, rfl, hB, k0, k1, k2, k3, k4, k5⟩ := hI
    have hall := all_run hs hr (backs_spec (by kernel_rfl))
    obtain rfl := k5 (hall 5 (by decide))
    go_wp2
    go_ret
    exact ⟨rfl, hB⟩

theorem marked_calls (m : ByteArray) (w : World) :
    Calls Tryd.prog 106 #[.string m] w fun e w' => e = .returned (.func (.func 113) #[] #[.pointer (some ⟨w.heap.size, 0, none⟩)]) ∧ w' = w.alloc (.cells #[.string m] 9) := by
  go_enter Tryd.func106, Tryd.ntmps106
  go_wp2
  go_ret
  exact ⟨rfl, rfl⟩

def leafH (s : ByteArray) : ByteArray := sha (⟨#[0]⟩ ++ s)
def nodeH (s t : ByteArray) : ByteArray := sha (⟨#[1]⟩ ++ (s ++ t))

theorem cells_new (w : World) (cs : Array Value) (t : TypeId) (j : Nat) (x : Value) (h : cs[j]? = some x) : (w.alloc (.cells cs t)).cell? ⟨w.heap.size, j, none⟩ = some x := by
  unfold World.cell?
  rw [heap_new]
  exact h

set_option maxHeartbeats 1000000 in
theorem Leaf_calls (s : ByteArray) (w : World) (hs : s.size ≤ 1000000) (hR : Rd w) :
    Calls Tryd.prog 84 #[.string s] w fun e w' => e = .returned (.string (leafH s)) ∧ Below w.heap.size w w' := by
  have hb2 : Below w.heap.size w ((w.alloc (.cells #[.string ⟨#[0]⟩] 9)).alloc (.cells #[.string s] 9)) := below_alloc (below_one w _) _
  have hc := marked1_calls w.heap.size (w.heap.size + 1) ⟨#[0]⟩ [s] 1 ((w.alloc (.cells #[.string ⟨#[0]⟩] 9)).alloc (.cells #[.string s] 9)) (cellA (cells_new w _ 9 0 _ rfl) _) (by simp) (by simp) (by simp)
    (fun j x hx => by
      match j, hx with
      | 0, hx => simp at hx; subst hx; simp) rfl (by rw [joinB_one]; exact hs) (hR.below hb2)
  rw [joinB_one] at hc
  have HE := Lib.hid (show leafH s = sha (⟨#[0]⟩ ++ s) from rfl)
  rw [← HE.out] at hc
  generalize leafH s = d at *
  clear HE
  go_enter Tryd.func84, Tryd.ntmps84
  go_wp2_with (go_at_call 106; refine (marked_calls _ _).mono ?_; rintro e w' ⟨rfl, rfl⟩)
  refine hc.mono ?_
  rintro e w' ⟨rfl, hb⟩
  go_wp2
  go_ret
  exact ⟨rfl, below_then hb2 hb⟩

set_option maxHeartbeats 1000000 in
theorem Node_calls (s t : ByteArray) (w : World) (hs : s.size + t.size ≤ 1000000) (hR : Rd w) :
    Calls Tryd.prog 83 #[.string s, .string t] w fun e w' => e = .returned (.string (nodeH s t)) ∧ Below w.heap.size w w' := by
  have hb2 : Below w.heap.size w ((w.alloc (.cells #[.string ⟨#[1]⟩] 9)).alloc (.cells #[.string s, .string t] 9)) := below_alloc (below_one w _) _
  have hc := marked1_calls w.heap.size (w.heap.size + 1) ⟨#[1]⟩ [s, t] 2 ((w.alloc (.cells #[.string ⟨#[1]⟩] 9)).alloc (.cells #[.string s, .string t] 9)) (cellA (cells_new w _ 9 0 _ rfl) _) (by simp) (by simp) (by simp)
    (fun j x hx => by
      have h2 := fun j x h => cells_new (w.alloc (.cells #[.string ⟨#[1]⟩] 9)) #[.string s, .string t] 9 j x h
      rw [World.size_alloc] at h2
      match j, hx with
      | 0, hx => simp at hx; subst hx; exact h2 0 _ rfl
      | 1, hx => simp at hx; subst hx; exact h2 1 _ rfl) rfl (by rw [joinB_two, size_append]; exact hs) (hR.below hb2)
  rw [joinB_two] at hc
  have HE := Lib.hid (show nodeH s t = sha (⟨#[1]⟩ ++ (s ++ t)) from rfl)
  rw [← HE.out] at hc
  generalize nodeH s t = d at *
  clear HE
  go_enter Tryd.func83, Tryd.ntmps83
  go_wp2_with (go_at_call 106; refine (marked_calls _ _).mono ?_; rintro e w' ⟨rfl, rfl⟩)
  refine hc.mono ?_
  rintro e w' ⟨rfl, hb⟩
  go_wp2
  go_ret
  exact ⟨rfl, below_then hb2 hb⟩

end Go.Proofs.YthohfbeelepkmaaDoor

/- Totals: their code. -/
namespace Go.Proofs.YthohfbeelepkmaaDoor
open Go.RowKit Go.Shelf

/-- A total's cells: eight sums, a digest. -/
def totC (l : List Int) (d : ByteArray) : List Value := l.map (fun n => Value.int .i64 n) ++ [.string d]
theorem totC_int {l : List Int} {d : ByteArray} {j : Nat} (h : j < l.length) : (totC l d).toArray[j]? = some (.int .i64 l[j]) := by
  simp [totC, List.getElem?_append_left, h]
theorem totC_str {l : List Int} {d : ByteArray} (h : l.length = 8) : (totC l d).toArray[8]? = some (.string d) := by
  simp [totC, List.getElem?_append_right, h]
/-- The numbers are far from the ends. -/
def Small (l : List Int) : Prop := ∀ n ∈ l, -4611686018427387903 ≤ n ∧ n ≤ 4611686018427387903
def codeB (l : List Int) (d : ByteArray) : ByteArray := nums l ++ d
theorem nums_pos {l : List Int} (h : 0 < l.length) : 0 < (nums l).size := by
  obtain ⟨l', x, rfl⟩ : ∃ l' x, l = l' ++ [x] := ⟨l.dropLast, l.getLast (by intro e; subst e; simp at h), (List.dropLast_concat_getLast _).symm⟩
  rw [nums_snoc, size_append]; have := (putInt_size x).1; omega

set_option maxHeartbeats 1000000 in
set_option maxRecDepth 100000 in
theorem code_calls (l : List Int) (d : ByteArray) (w : World) (h8 : l.length = 8) (hl : Small l) (hd : d.size ≤ 1000) :
    Calls Tryd.prog 93 #[.agg (totC l d).toArray] w fun e w' => e = .returned (.string (codeB l d)) ∧ Below w.heap.size w w' := by
  obtain ⟨w1, hw1⟩ : ∃ w1, w1 = w.alloc (.cells (totC l d).toArray 81) := ⟨_, rfl⟩
  have hk1 : w1.heap[w.heap.size]? = some (.cells (totC l d).toArray 81 (0, 0)) := by rw [hw1]; exact heap_new w _
  have hb1 : Below w.heap.size w w1 := by rw [hw1]; exact below_one w _
  have hs1 : w1.heap.size = w.heap.size + 1 := by rw [hw1]; simp
  have hWb := Wb.new w1
  rw [hs1] at hWb
  obtain ⟨w2, hw2⟩ : ∃ w2, w2 = w1.alloc (.cells #[.pointer none, .slice none 0 0] 130) := ⟨_, rfl⟩
  rw [← hw2] at hWb
  have hk2 : w2.heap[w.heap.size]? = some (.cells (totC l d).toArray 81 (0, 0)) := by rw [hw2, Below.heap_alloc _ _ _ (by omega)]; exact hk1
  have hb2 : Below w.heap.size w w2 := by rw [hw2]; exact below_alloc hb1 _
  have hs2 : w2.heap.size = w.heap.size + 2 := by rw [hw2]; simp [hs1]
  have hnb : ¬ IsBuf (.cells (totC l d).toArray 81 (0, 0)) := by rintro (h | h) <;> cases h
  have hv : ∀ W, KeepTy w2 W → Ints W (.slice (some ⟨w.heap.size, 0, none⟩) 8 8) .i64 l := fun W hW => by
    have := hW _ _ hk2 hnb
    refine Ints.of_cells h8 (by omega) (Nat.le_refl _) (Array.getElem?_eq_some_iff.1 this).1 fun j hj => ?_
    unfold World.cell?
    rw [this]
    simpa using totC_int hj
  have hN := numbers_calls (w.heap.size + 1) (w.heap.size + 1) .empty _ l w2 hWb hv hl (by simp; omega) (by omega)
  have hns := nums_size l
  have hnp := nums_pos (l := l) (by omega)
  rw [ByteArray.empty_append] at hN
  have HC := Lib.hid (show codeB l d = nums l ++ d from rfl)
  have HX := Lib.hid (totC_str (d := d) h8)
  have HW1 := Lib.hid hw1
  have HW2 := Lib.hid hw2
  have HS2 := Lib.hid hs2
  have HNS := Lib.hid hns
  have HNP := Lib.hid hnp
  have HD := Lib.hid hd
  have H8 := Lib.hid h8
  have HK2 := Lib.hid hk2
  generalize (totC l d).toArray = X at *
  generalize nums l = N at *
  rw [hw2, hw1] at hN
  clear hk1 hb1 hs1 hWb hk2 hs2 hv hns hnp hd hw1 hw2 h8
  go_enter Tryd.func93, Tryd.ntmps93
  go_wp2_with fail
  refine hN.mono ?_
  rintro e w3 ⟨rfl, hwb, hb3, hk3⟩
  rw [← HW1.out, ← HW2.out] at hb3 hk3
  have hblk := hk3 _ _ HK2.out hnb
  have c8 : w3.cell? ⟨w.heap.size, 8, none⟩ = some (.string d) := by unfold World.cell?; rw [hblk]; exact HX.out
  have hW := WriteString_calls (w.heap.size + 1) (w.heap.size + 1) N d w3 hwb (by have := HNS.out; have := HD.out; have := H8.out; omega) (by have := hb3.size; have := HS2.out; omega)
  clear hN hwb hblk
  go_wp2_with fail
  refine hW.mono ?_
  rintro e w4 ⟨rfl, hwb, hb4, hk4⟩
  have hS := String_calls (w.heap.size + 1) (w.heap.size + 1) (N ++ d) w4 hwb (by rw [size_append]; have := HNP.out; omega)
  clear hW hwb c8
  go_wp2_with fail
  refine hS.mono ?_
  rintro e w5 ⟨rfl, hb5⟩
  go_wp2
  go_ret
  refine ⟨by rw [HC.out]; rfl, ((hb2.trans (hb3.mono (by omega))).trans (hb4.mono (by omega))).trans (hb5.mono (by omega))⟩

end Go.Proofs.YthohfbeelepkmaaDoor

/- audit.saltOf, audit.sums. -/
namespace Go.Proofs.YthohfbeelepkmaaDoor
open Go.RowKit Go.Shelf

theorem sha_size (s : ByteArray) : (sha s).size = 32 := by
  unfold sha; rw [strOfNums_size]; simp [outB]
theorem leafH_size (s : ByteArray) : (leafH s).size = 32 := sha_size _
theorem nodeH_size (s t : ByteArray) : (nodeH s t).size = 32 := sha_size _

def saltH (key : ByteArray) (h : Int) : ByteArray := nodeH key (leafH (putInt h))

set_option maxHeartbeats 1000000 in
theorem saltOf_calls (key : ByteArray) (h : Int) (w : World) (hk : key.size ≤ 1000) (h1 : -4611686018427387903 ≤ h) (h2 : h ≤ 4611686018427387903) (hR : Rd w) :
    Calls Tryd.prog 51 #[.string key, .int .i64 h] w fun e w' => e = .returned (.string (saltH key h)) ∧ Below w.heap.size w w' := by
  have hp := PutInt_calls h w h1 h2
  have hps := (putInt_size h).2
  have hL := fun W (hW : Below w.heap.size w W) => Leaf_calls (putInt h) W (by omega) (hR.below hW)
  have hls := leafH_size (putInt h)
  have hN := fun W (hW : Below w.heap.size w W) => Node_calls key (leafH (putInt h)) W (by omega) (hR.below hW)
  unfold saltH
  generalize nodeH key (leafH (putInt h)) = d at *
  generalize leafH (putInt h) = lf at *
  generalize putInt h = p at *
  clear hps hls hR
  go_enter Tryd.func51, Tryd.ntmps51
  go_wp2_with fail
  refine hp.mono ?_
  rintro e w1 ⟨rfl, hb1⟩
  replace hL := hL w1 hb1
  clear hp
  go_wp2_with fail
  refine hL.mono ?_
  rintro e w2 ⟨rfl, hb2⟩
  replace hb2 := below_then hb1 hb2
  replace hN := hN w2 hb2
  clear hL
  go_wp2_with fail
  refine hN.mono ?_
  rintro e w3 ⟨rfl, hb3⟩
  go_wp2
  go_ret
  exact ⟨rfl, below_then hb2 hb3⟩

/-- One charge is booked. -/
def addC (s : List Int) (c : Ch) : List Int :=
  let s1 := s.set c.pa.toNat (s.getD c.pa.toNat 0 - c.am)
  s1.set c.pe.toNat (s1.getD c.pe.toNat 0 + c.am)
def sumsL (l : List Ch) : List Int := l.foldl addC (List.replicate 8 0)
theorem addC_length (s : List Int) (c : Ch) : (addC s c).length = s.length := by simp [addC]
theorem sumsL_snoc (l : List Ch) (c : Ch) : sumsL (l ++ [c]) = addC (sumsL l) c := by simp [sumsL]
theorem sumsL_length (l : List Ch) : (sumsL l).length = 8 := by
  have : ∀ (l : List Ch) (s : List Int), (l.foldl addC s).length = s.length := by
    intro l
    induction l with
    | nil => intro s; rfl
    | cons c l ih => intro s; simp [ih, addC_length]
  simp [sumsL, this]
theorem getD_set_bound {s : List Int} {B x : Int} (h : ∀ i, -B ≤ s.getD i 0 ∧ s.getD i 0 ≤ B) (hx : -B ≤ x ∧ x ≤ B) (k i : Nat) : -B ≤ (s.set k x).getD i 0 ∧ (s.set k x).getD i 0 ≤ B := by
  have h0 := h i
  rw [List.getD_eq_getElem?_getD] at h0 ⊢
  rw [List.getElem?_set]
  split
  · split
    · exact hx
    · rename_i h1 h2; subst h1
      rw [List.getElem?_eq_none (by omega)] at h0
      simpa using h0
  · exact h0
theorem Ch.ok_facts {c : Ch} (h : c.ok = true) : 0 ≤ c.pa ∧ c.pa ≤ 7 ∧ 0 ≤ c.pe ∧ c.pe ≤ 7 ∧ c.pa ≠ c.pe ∧ 0 ≤ c.cu ∧ c.cu ≤ 63 ∧ 0 ≤ c.am ∧ c.am ≤ 1000000000 ∧ c.tx.size ≤ 100 := by
  simp only [Ch.ok, isChargeB, within, Bool.and_eq_true, decide_eq_true_eq, bne_iff_ne, ne_eq] at h
  omega
theorem addC_bound {s : List Int} {B : Int} {c : Ch} (hc : c.ok = true) (h : ∀ i, -B ≤ s.getD i 0 ∧ s.getD i 0 ≤ B) : ∀ i, -(B + 1000000000) ≤ (addC s c).getD i 0 ∧ (addC s c).getD i 0 ≤ B + 1000000000 := by
  obtain ⟨_, _, _, _, hne, _, _, h0, h1, _⟩ := Ch.ok_facts hc
  intro i
  unfold addC
  refine getD_set_bound (fun j => getD_set_bound (fun k => ⟨by have := h k; omega, by have := h k; omega⟩) ⟨by have := h c.pa.toNat; omega, by have := h c.pa.toNat; omega⟩ _ j) ?_ _ i
  have hk := h c.pe.toNat
  have : (s.set c.pa.toNat (s.getD c.pa.toNat 0 - c.am)).getD c.pe.toNat 0 = s.getD c.pe.toNat 0 := by
    rw [List.getD_eq_getElem?_getD, List.getElem?_set_ne (by omega), ← List.getD_eq_getElem?_getD]
  rw [this]
  omega
theorem sumsL_bound (l : List Ch) (h : l.all Ch.ok = true) : ∀ i, -(1000000000 * l.length : Int) ≤ (sumsL l).getD i 0 ∧ (sumsL l).getD i 0 ≤ 1000000000 * l.length := by
  have go : ∀ (l : List Ch) (s : List Int) (B : Int), l.all Ch.ok = true → (∀ i, -B ≤ s.getD i 0 ∧ s.getD i 0 ≤ B) → ∀ i, -(B + 1000000000 * l.length : Int) ≤ (l.foldl addC s).getD i 0 ∧ (l.foldl addC s).getD i 0 ≤ B + 1000000000 * l.length := by
    intro l
    induction l with
    | nil => intro s B _ h i; simpa using h i
    | cons c l ih =>
      intro s B hl h i
      simp only [List.all_cons, Bool.and_eq_true] at hl
      have := ih (addC s c) (B + 1000000000) hl.2 (addC_bound hl.1 h) i
      simp only [List.foldl_cons, List.length_cons]
      push_cast
      omega
  intro i
  have := go l (List.replicate 8 0) 0 h (fun i => by
    rw [List.getD_eq_getElem?_getD, List.getElem?_replicate]; split <;> simp) i
  simpa [sumsL] using this

set_option maxHeartbeats 2000000 in
set_option maxRecDepth 100000 in
theorem sums_calls (v : Value) (l : List Ch) (w : World) (hv : Chs w v l) (hok : l.all Ch.ok = true) (hlen : l.length ≤ 1000) :
    Calls Tryd.prog 46 #[v] w fun e w' => e = .returned (.agg ((sumsL l).map fun n => Value.int .i64 n).toArray) ∧ Below w.heap.size w w' := by
  obtain ⟨_, A, cap, rfl, hcap, hat⟩ := hv.open_
  obtain ⟨w2, hw2⟩ : ∃ w2, w2 = (w.alloc (.cells ((List.replicate 8 (0 : Int)).map fun n => Value.int .i64 n).toArray 79)).alloc (.cells ((List.replicate 8 (0 : Int)).map fun n => Value.int .i64 n).toArray 79) := ⟨_, rfl⟩
  have hA0 : Arr w2 w.heap.size .i64 79 (List.replicate 8 0) := by rw [hw2]; exact (Arr.new w .i64 79 _).alloc _
  have hA1 : Arr w2 (w.heap.size + 1) .i64 79 (sumsL []) := by
    rw [hw2]; have := Arr.new (w.alloc (.cells ((List.replicate 8 (0 : Int)).map fun n => Value.int .i64 n).toArray 79)) .i64 79 (List.replicate 8 0); rwa [World.size_alloc] at this
  have hb2 : Below w.heap.size w w2 := by rw [hw2]; exact below_alloc (below_one w _) _
  have HA0 := Lib.hid hA0
  have HA1 := Lib.hid hA1
  have HB2 := Lib.hid hb2
  simp only [List.replicate, List.map_cons, List.map_nil] at hw2
  have HOK := Lib.hid hok
  clear hv hA0 hA1 hb2 hok
  go_enter Tryd.func46, Tryd.ntmps46
  go_wp2
  rw [← hw2]
  clear hw2
  go_loopw [8] (fun s8 wr => ∃ k : Nat, k ≤ l.length ∧ s8 = .int .i64 k ∧ Aside (Arr wr w.heap.size .i64 79 (List.replicate 8 0)) ∧ Aside (Arr wr (w.heap.size + 1) .i64 79 (sumsL (l.take k))) ∧ Aside (Below w.heap.size w wr)) (fun s8 _ => l.length - (intOf s8).toNat)
  case atStart => exact ⟨0, Nat.zero_le _, rfl, HA0.out, HA1.out, HB2.out⟩
  case round =>
    obtain ⟨k, hk, rfl, hA0, hA1, hB⟩ := hrel
    by_cases hlt : k < l.length
    · obtain ⟨b, off, rfl, hb, c0, c1, c2, c3, c4⟩ := hat k hlt
      have hbk := sumsL_bound (l.take k) (by have := HOK.out; rw [List.all_eq_true] at this ⊢; exact fun x hx => this x (List.mem_of_mem_take hx))
      have hck := Ch.ok_facts (c := l[k]) (by have := HOK.out; rw [List.all_eq_true] at this; exact this _ (List.getElem_mem hlt))
      have HT := Lib.hid (take_succ_snoc l k hlt)
      have hk1 : ((l.take k).length : Int) ≤ 1000 := by simp; omega
      replace c0 := (hB.out.cell (p := ⟨b, _, none⟩) hb).trans c0
      replace c1 := (hB.out.cell (p := ⟨b, _, none⟩) hb).trans c1
      replace c2 := (hB.out.cell (p := ⟨b, _, none⟩) hb).trans c2
      replace c3 := (hB.out.cell (p := ⟨b, _, none⟩) hb).trans c3
      replace c4 := (hB.out.cell (p := ⟨b, _, none⟩) hb).trans c4
      generalize l[k] = c at *
      obtain ⟨cu, pa, pe, am, tx⟩ := c
      dsimp only at c0 c1 c2 c3 c4 hck
      have HCK := Lib.hid hck
      have hS8 := sumsL_length (l.take k)
      obtain ⟨S, hS⟩ : ∃ S, S = sumsL (l.take k) := ⟨_, rfl⟩
      rw [← hS] at hA1 hbk hS8
      have HS := Lib.hid hS.symm
      clear hS
      obtain ⟨g1, g2, g3, g4, g5, g6, g7, g8, g9, g10⟩ := hck
      obtain ⟨a, rfl⟩ : ∃ a : Nat, pa = a := ⟨pa.toNat, by omega⟩
      obtain ⟨p, rfl⟩ : ∃ p : Nat, pe = p := ⟨pe.toNat, by omega⟩
      have b0 := hbk a
      have b1 := hbk p
      clear hbk hat
      go_wp2_with fail
      have hA1' : Aside (Arr (wr.alloc (.cells #[.int .i64 cu, .int .i64 a, .int .i64 p, .int .i64 am, .string tx] 30)) (w.heap.size + 1) .i64 79 S) := hA1.out.alloc _
      have hA0' : Aside (Arr (wr.alloc (.cells #[.int .i64 cu, .int .i64 a, .int .i64 p, .int .i64 am, .string tx] 30)) w.heap.size .i64 79 (List.replicate 8 0)) := hA0.out.alloc _
      have hB' : Aside (Below w.heap.size w (wr.alloc (.cells #[.int .i64 cu, .int .i64 a, .int .i64 p, .int .i64 am, .string tx] 30))) := below_alloc hB.out _
      have t1 := cells_new wr #[.int .i64 cu, .int .i64 a, .int .i64 p, .int .i64 am, .string tx] 30 1 _ rfl
      have t2 := cells_new wr #[.int .i64 cu, .int .i64 a, .int .i64 p, .int .i64 am, .string tx] 30 2 _ rfl
      have t3 := cells_new wr #[.int .i64 cu, .int .i64 a, .int .i64 p, .int .i64 am, .string tx] 30 3 _ rfl
      have htb : w.heap.size + 1 < wr.heap.size := hA1.out.lt
      clear hA1 hA0 hB c0 c1 c2 c3 c4
      generalize wr.alloc (.cells #[.int .i64 cu, .int .i64 a, .int .i64 p, .int .i64 am, .string tx] 30) = W1 at *
      generalize wr.heap.size = tb at *
      obtain ⟨bo, hbo⟩ : ∃ bo, bo = w.heap.size + 1 := ⟨_, rfl⟩
      rw [← hbo] at htb hA1' ⊢
      have HBO := Lib.hid hbo
      clear hbo
      have HA := Lib.hid (show addC S ⟨cu, a, p, am, tx⟩ = (S.set a (S.getD a 0 - am)).set p ((S.set a (S.getD a 0 - am)).getD p 0 + am) from rfl)
      have x0 := hA1'.out.cellD a (by omega)
      have z0 := hA1'.out.frozen a
      have hpx : (S.set a (S.getD a 0 - am)).getD p 0 = S.getD p 0 := by rw [List.getD_eq_getElem?_getD, List.getElem?_set_ne (by omega), ← List.getD_eq_getElem?_getD]
      rw [hpx] at HA
      clear hpx
      generalize S.getD a 0 = xa at *
      have a8 : (a : Int) < 8 := by omega
      have p8 : (p : Int) < 8 := by omega
      have wa : IntKind.i64.wrap (xa - am) = xa - am := w64 (by omega) (by omega)
      have wp : IntKind.i64.wrap (S.getD p 0 + am) = S.getD p 0 + am := w64 (by omega) (by omega)
      have HWP := Lib.hid wp
      clear wp
      go_still_tail 8, (by kernel_rfl)
      go_wp2
      have hA2 : Aside (Arr (W1.setCell ⟨bo, a, none⟩ (.int .i64 (xa - am))).drew bo .i64 79 (S.set a (xa - am))) := hA1'.out.set a _
      have hA0'' : Aside (Arr (W1.setCell ⟨bo, a, none⟩ (.int .i64 (xa - am))).drew w.heap.size .i64 79 (List.replicate 8 0)) := hA0'.out.other (by show bo ≠ _; have := HBO.out; omega) _
      have hB'' : Aside (Below w.heap.size w (W1.setCell ⟨bo, a, none⟩ (.int .i64 (xa - am))).drew) := (hB'.out.setCell (p := ⟨bo, a, none⟩) (by show _ ≤ bo; have := HBO.out; omega) _).drew
      replace t2 := cellD (cellF (c := bo) (i := a) (by omega) t2 (.int .i64 (xa - am)))
      replace t3 := cellD (cellF (c := bo) (i := a) (by omega) t3 (.int .i64 (xa - am)))
      clear x0 z0 t1 hA1' hA0' hB' wa
      generalize (W1.setCell ⟨bo, a, none⟩ (.int .i64 (xa - am))).drew = W2 at *
      have y0 := hA2.out.cellD p (by simp; omega)
      have q0 := hA2.out.frozen p
      have hpx : (S.set a (xa - am)).getD p 0 = S.getD p 0 := by rw [List.getD_eq_getElem?_getD, List.getElem?_set_ne (by omega), ← List.getD_eq_getElem?_getD]
      rw [hpx] at y0
      clear hpx
      have wp := HWP.out
      clear b0
      generalize S.getD p 0 = xp at *
      go_still_tail 8, (by kernel_rfl)
      go_wp2
      have hbo := HBO.out
      subst hbo
      go_roundw
      case measure => simp [intOf]; omega
      case rel =>
        refine ⟨k + 1, by omega, by go_num, (show Arr _ _ _ _ _ from ?_), (show Arr _ _ _ _ _ from ?_), ((hB''.out.setCell (p := ⟨w.heap.size + 1, p, none⟩) (by show _ ≤ w.heap.size + 1; omega) _).drew)⟩
        · exact hA0''.out.other (by show w.heap.size + 1 ≠ _; omega) _
        · have := hA2.out.set p (xp + am)
          rw [HT.out, sumsL_snoc, HS.out, HA.out]
          exact this
    · have hkl : k = l.length := by omega
      subst hkl
      have hA1' := hA1.out
      rw [List.take_length] at hA1'
      have HSL := Lib.hid (sumsL_length l)
      have J79 := Lib.hid (show (Tryd.prog.info? 79).map (·.size) = some 8 by kernel_rfl)
      generalize hS : sumsL l = S at *
      have HSE := Lib.hid hS
      clear hS
      clear hat
      go_wp2_with (first | (refine wpList_load_arr 79 (.tmp 3) (w.heap.size + 1) 8 3 hA1' (by kernel_rfl) (by rw [HSL.out]; exact J79.out) rfl rfl rfl ?_) | (refine wpList_store_arr 79 (.tmp 2) (.tmp 29) w.heap.size hA0.out (by rw [HSL.out]; rfl) (by rw [HSL.out]; exact J79.out) rfl rfl rfl rfl ?_; intro w5 hA5 hB5 hS5; clear hS5; have hB6 := hB5 w (Nat.le_refl _) hB.out))
      refine bodyPost_arr 8 3 hA5 (by kernel_rfl) (by rw [HSL.out]; exact J79.out) rfl rfl rfl ⟨ret_v (by rw [HSE.out]), hB6⟩

end Go.Proofs.YthohfbeelepkmaaDoor

/- audit.Sums, audit.of. -/
namespace Go.Proofs.YthohfbeelepkmaaDoor
open Go.RowKit Go.Shelf

/-- A slice, an error number: what many functions hand over. -/
theorem Arr.ints {w : World} {b : Nat} {t : TypeId} {l : List Int} (h : Arr w b .i64 t l) (n : Nat) (hn : l.length = n) (hl : n ≤ 140737488355328) : Ints w (.slice (some ⟨b, 0, none⟩) n n) .i64 l :=
  Ints.of_cells hn hl (Nat.le_refl _) h.lt fun j hj => by rw [Nat.zero_add]; exact h.cell j hj

set_option maxHeartbeats 1000000 in
set_option maxRecDepth 100000 in
theorem Sums_calls (v : Value) (l : List Ch) (w : World) (hv : Chs w v l) (hok : okChs l = true) :
    Calls Tryd.prog 17 #[v] w fun e w' => ∃ v', e = .returned (.tuple #[v', .int .i64 0]) ∧ Ints w' v' .i64 (sumsL l) ∧ Below w.heap.size w w' := by
  have hlen : l.length ≤ 60 ∧ l.all Ch.ok = true := by simpa [okChs] using hok
  have h1 := areCharges_calls v l w hv
  rw [hok] at h1
  have h2 := fun W (hW : Below w.heap.size w W) => sums_calls v l W (hv.below hW) hlen.2 (by omega)
  have HSL := Lib.hid (sumsL_length l)
  have J79 := Lib.hid (show (Tryd.prog.info? 79).map (·.size) = some 8 by kernel_rfl)
  obtain ⟨_, A, cap, rfl, _, _⟩ := hv.open_
  clear hv hok hlen
  generalize sumsL l = S at *
  go_enter Tryd.func17, Tryd.ntmps17
  go_wp2_with fail
  refine h1.mono ?_
  rintro e w1 ⟨rfl, hb1⟩
  replace h2 := h2 w1 hb1
  clear h1
  go_wp2_with fail
  refine h2.mono ?_
  rintro e w2 ⟨rfl, hb2⟩
  clear h2
  have hA0 := Arr.new w2 .i64 79 (List.replicate 8 0)
  simp only [List.replicate, List.map_cons, List.map_nil] at hA0
  have hA0 : Arr _ w2.heap.size .i64 79 (List.replicate 8 0) := hA0
  have hb3 := below_alloc (below_then hb1 hb2) (.cells #[Value.int .i64 0, Value.int .i64 0, Value.int .i64 0, Value.int .i64 0, Value.int .i64 0, Value.int .i64 0, Value.int .i64 0, Value.int .i64 0] 79)
  have hle := (below_then hb1 hb2).size
  go_wp2_with (refine wpList_store_arr 79 (.tmp 4) (.tmp 9) w2.heap.size hA0 (by rw [HSL.out]; rfl) (by rw [HSL.out]; exact J79.out) rfl rfl rfl rfl ?_; intro w5 hA5 hB5 hS5; clear hS5; have hB6 := hB5 w hle hb3)
  go_ret2
  exact ⟨_, rfl, hA5.ints 8 HSL.out (by omega), hB6⟩

/-- Charges that are not valid have no sums. -/
theorem Sums_not (v : Value) (l : List Ch) (w : World) (hv : Chs w v l) (hok : okChs l = false) :
    Calls Tryd.prog 17 #[v] w fun e w' => e = .returned (.tuple #[.slice none 0 0, .int .i64 400]) ∧ Below w.heap.size w w' := by
  have h1 := areCharges_calls v l w hv
  rw [hok] at h1
  obtain ⟨_, A, cap, rfl, _, _⟩ := hv.open_
  clear hv hok
  go_enter Tryd.func17, Tryd.ntmps17
  go_wp2_with fail
  refine h1.mono ?_
  rintro e w1 ⟨rfl, hb1⟩
  go_wp2
  go_ret2
  exact ⟨rfl, hb1⟩

def ofL (l : List Ch) (h : Int) : List Ch := l.filter fun c => c.cu == h
theorem ofL_snoc (l : List Ch) (c : Ch) (h : Int) : ofL (l ++ [c]) h = if c.cu = h then ofL l h ++ [c] else ofL l h := by
  unfold ofL
  rw [List.filter_append]
  by_cases e : c.cu = h <;> simp [e]
def chCells (l : List Ch) : List Value := (l.map Ch.cells).flatten
theorem chCells_length (l : List Ch) : (chCells l).length = l.length * 5 := by
  induction l with
  | nil => rfl
  | cons c l ih => simp only [chCells, List.map_cons, List.flatten_cons, List.length_append, List.length_cons] at *; rw [ih]; simp [Ch.cells]; omega

theorem cells_new_add (w : World) (cs : List Value) (t : TypeId) : ∀ j u, cs[j]? = some u → (w.alloc (.cells cs.toArray t)).cell? ((⟨w.heap.size, 0, none⟩ : Addr).add j) = some u := by
  intro j u hj
  have hadd : (⟨w.heap.size, 0, none⟩ : Addr).add j = ⟨w.heap.size, j, none⟩ := by unfold Addr.add; split <;> simp_all
  rw [hadd]
  exact cells_new w _ t j u (by simpa using hj)

set_option maxHeartbeats 2000000 in
set_option maxRecDepth 100000 in
theorem of_own (v : Value) (l : List Ch) (h : Int) (w : World) (hv : Chs w v l) (hlen : l.length ≤ 100000) :
    Calls Tryd.prog 50 #[v, .int .i64 h] w fun e w' => ∃ v', e = .returned v' ∧ w'.ownsRow w.heap.size 30 5 v' (ofL l h).length (chCells (ofL l h)) ∧ Below w.heap.size w w' := by
  obtain ⟨_, A, cap, rfl, hcap, hat⟩ := hv.open_
  obtain ⟨i0, hi, hz0, hz1, hz2⟩ := info_parts (show (Tryd.prog.info? 30).map (fun i => (i.zero, i.size, i.bytes)) = some (some (.agg #[.int .i64 0, .int .i64 0, .int .i64 0, .int .i64 0, .string ⟨#[]⟩]), 5, 48) by kernel_rfl)
  clear hv
  go_enter Tryd.func50, Tryd.ntmps50
  go_wp2
  go_loopw [5, 10] (fun s5 s10 wr => ∃ k : Nat, k ≤ l.length ∧ s10 = .int .i64 k ∧ Aside (wr.ownsRow w.heap.size 30 5 s5 (ofL (l.take k) h).length (chCells (ofL (l.take k) h))) ∧ Aside (Below w.heap.size w wr)) (fun _ s10 _ => l.length - (intOf s10).toNat)
  case atStart => exact ⟨0, Nat.zero_le _, rfl, World.ownsRow_nil _ _ _ _, Below.refl _ _⟩
  case round =>
    obtain ⟨k, hk, rfl, hR, hB⟩ := hrel
    by_cases hlt : k < l.length
    · obtain ⟨b, off, rfl, hb, c0, c1, c2, c3, c4⟩ := hat k hlt
      have HT := Lib.hid (take_succ_snoc l k hlt)
      replace c0 := (hB.out.cell (p := ⟨b, _, none⟩) hb).trans c0
      replace c1 := (hB.out.cell (p := ⟨b, _, none⟩) hb).trans c1
      replace c2 := (hB.out.cell (p := ⟨b, _, none⟩) hb).trans c2
      replace c3 := (hB.out.cell (p := ⟨b, _, none⟩) hb).trans c3
      replace c4 := (hB.out.cell (p := ⟨b, _, none⟩) hb).trans c4
      generalize l[k] = c at *
      obtain ⟨cu, pa, pe, am, tx⟩ := c
      dsimp only at c0 c1 c2 c3 c4
      have HN := Lib.hid (ofL_snoc (l.take k) ⟨cu, pa, pe, am, tx⟩ h)
      have hol : (ofL (l.take k) h).length ≤ k := Nat.le_trans (List.length_filter_le _ _) (by simp; omega)
      clear hat
      generalize ofL (l.take k) h = O at *
      have hsz := hB.out.size
      by_cases hcu : cu = h
      · subst hcu
        have hnew := cells_new_add (wr.alloc (.cells #[.int .i64 cu, .int .i64 pa, .int .i64 pe, .int .i64 am, .string tx] 30)) [.int .i64 cu, .int .i64 pa, .int .i64 pe, .int .i64 am, .string tx] 30
        have hsz1 : (wr.alloc (.cells #[.int .i64 cu, .int .i64 pa, .int .i64 pe, .int .i64 am, .string tx] 30)).heap.size = wr.heap.size + 1 := by simp
        rw [hsz1] at hnew
        clear hsz1
        go_wp2_with (at_builtin; refine wpList_append_own _ rfl _ _ 24 rfl w.heap.size 30 i0 _ 5 48 (by kernel_rfl) hi hz0 hz1 hz2 rfl (by decide) _ O.length (chCells O) rfl ((hR.out.alloc _).alloc _) ⟨wr.heap.size + 1, 0, none⟩ 1 1 [.int .i64 cu, .int .i64 pa, .int .i64 pe, .int .i64 am, .string tx] rfl rfl hnew (by simp [Value.oneCell']) ?c1 ?c2 ?c3 ?_)
        case c1 => unfold maxLen; omega
        case c2 => omega
        case c3 => omega
        intro v' w3 hown hgrow _
        clear hnew
        have hb3 : Below w.heap.size w w3 := (below_alloc (below_alloc hB.out _) _).grown hgrow (by simp; omega) (fun k hk => (hR.out.lt k hk).1)
        obtain ⟨g', cap', rfl⟩ := ownsRow_succ hown
        have HOW := Lib.hid hown
        clear hown hgrow hR
        go_wp2
        go_roundw
        case measure => simp [intOf]; omega
        case rel =>
          refine ⟨k + 1, by omega, by go_num, (show World.ownsRow _ _ _ _ _ _ _ from ?_), hb3⟩
          rw [HT.out, HN.out]
          have := HOW.out
          simpa [chCells, Ch.cells] using this
      · go_wp2
        go_roundw
        case measure => simp [intOf]; omega
        case rel =>
          refine ⟨k + 1, by omega, by go_num, (show World.ownsRow _ _ _ _ _ _ _ from ?_), below_alloc hB.out _⟩
          rw [HT.out, HN.out, if_neg hcu]
          exact hR.out.alloc _
    · have hkl : k = l.length := by omega
      subst hkl
      have hR2 : Hid (World.ownsRow _ _ _ _ _ _ _) := Lib.hid hR.out
      rw [List.take_length] at hR2
      clear hat hR
      go_wp2
      go_ret
      exact ⟨_, rfl, hR2.out, hB.out⟩

theorem ownsRow_chs {w : World} {n : Nat} {v : Value} {l : List Ch} (h : w.ownsRow n 30 5 v l.length (chCells l)) (hl : l.length ≤ 100000) : Chs w v l :=
  ownsRow_sl (L := l.map Ch.cells) (n := l.length) h (by simp) (by intro x hx; simp only [List.mem_map] at hx; obtain ⟨c, _, rfl⟩ := hx; rfl) (by omega)
theorem of_calls (v : Value) (l : List Ch) (h : Int) (w : World) (hv : Chs w v l) (hlen : l.length ≤ 100000) :
    Calls Tryd.prog 50 #[v, .int .i64 h] w fun e w' => ∃ v', e = .returned v' ∧ Chs w' v' (ofL l h) ∧ (∃ A n c, v' = .slice A n c) ∧ Below w.heap.size w w' := by
  refine (of_own v l h w hv hlen).mono ?_
  rintro e w' ⟨v', he, ho, hb⟩
  have hs := ownsRow_chs ho (Nat.le_trans (List.length_filter_le _ _) hlen)
  obtain ⟨h1, h2, A', cap', e', h3⟩ := id hs
  exact ⟨v', he, hs, ⟨_, _, _, e'⟩, hb⟩

end Go.Proofs.YthohfbeelepkmaaDoor

/- audit.Sums: the sums lie in a block of their own. -/
namespace Go.Proofs.YthohfbeelepkmaaDoor
open Go.RowKit Go.Shelf

set_option maxHeartbeats 1000000 in
set_option maxRecDepth 100000 in
theorem Sums_new (v : Value) (l : List Ch) (w : World) (hv : Chs w v l) (hok : okChs l = true) :
    Calls Tryd.prog 17 #[v] w fun e w' => ∃ g, e = .returned (.tuple #[.slice (some ⟨g, 0, none⟩) 8 8, .int .i64 0]) ∧ w.heap.size ≤ g ∧ Arr w' g .i64 79 (sumsL l) ∧ Below w.heap.size w w' := by
  have hlen : l.length ≤ 60 ∧ l.all Ch.ok = true := by simpa [okChs] using hok
  have h1 := areCharges_calls v l w hv
  rw [hok] at h1
  have h2 := fun W (hW : Below w.heap.size w W) => sums_calls v l W (hv.below hW) hlen.2 (by omega)
  have HSL := Lib.hid (sumsL_length l)
  have J79 := Lib.hid (show (Tryd.prog.info? 79).map (·.size) = some 8 by kernel_rfl)
  obtain ⟨_, A, cap, rfl, _, _⟩ := hv.open_
  clear hv hok hlen
  generalize sumsL l = S at *
  go_enter Tryd.func17, Tryd.ntmps17
  go_wp2_with fail
  refine h1.mono ?_
  rintro e w1 ⟨rfl, hb1⟩
  replace h2 := h2 w1 hb1
  clear h1
  go_wp2_with fail
  refine h2.mono ?_
  rintro e w2 ⟨rfl, hb2⟩
  clear h2
  have hA0 := Arr.new w2 .i64 79 (List.replicate 8 0)
  simp only [List.replicate, List.map_cons, List.map_nil] at hA0
  have hA0 : Arr _ w2.heap.size .i64 79 (List.replicate 8 0) := hA0
  have hb3 := below_alloc (below_then hb1 hb2) (.cells #[Value.int .i64 0, Value.int .i64 0, Value.int .i64 0, Value.int .i64 0, Value.int .i64 0, Value.int .i64 0, Value.int .i64 0, Value.int .i64 0] 79)
  have hle := (below_then hb1 hb2).size
  go_wp2_with (refine wpList_store_arr 79 (.tmp 4) (.tmp 9) w2.heap.size hA0 (by rw [HSL.out]; rfl) (by rw [HSL.out]; exact J79.out) rfl rfl rfl rfl ?_; intro w5 hA5 hB5 hS5; clear hS5; have hB6 := hB5 w hle hb3)
  go_ret2
  exact ⟨_, rfl, hle, hA5, hB6⟩

end Go.Proofs.YthohfbeelepkmaaDoor
