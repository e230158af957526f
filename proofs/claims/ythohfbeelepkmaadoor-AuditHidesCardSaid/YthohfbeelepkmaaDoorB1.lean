/- dialtoneref40: pick, Ints. -/
import Derived.Test.YthohfbeelepkmaaDoorA0
import Derived.Test.YthohfbeelepkmaaDoorA19
import Derived.Laws.MakeOwn
import Derived.Test.YthohfbeelepkmaaDoorA23
namespace Go.Proofs.YthohfbeelepkmaaDoor
open Go.RowKit Go.Shelf

theorem getD_lt (l : List Int) (k : Nat) (h : k < l.length) : l.getD k 0 = l[k] := by simp [h]
/-- An index out of whatever integer. -/
def pickI (c : Int) (n : Nat) : Int := (if c < 0 then -(c + 1) else c) % n

theorem pick_calls (c : Int) (n : Nat) (w : World) (h1 : -9223372036854775808 ≤ c) (h2 : c ≤ 9223372036854775807) (hn : 0 < n) (hn2 : n ≤ 4000000000) :
    Calls Tryd.prog 41 #[.int .i64 c, .int .i64 n] w fun e w' => e = .returned (.int .i64 (pickI c n)) ∧ w = w' := by
  by_cases hc : c < 0
  · have e1 : pickI c n = (-(c + 1)) % (n : Int) := by simp [pickI, hc]
    have hm : (-(c + 1)).tmod (n : Int) = (-(c + 1)) % (n : Int) := Int.tmod_eq_emod_of_nonneg (by omega)
    rw [e1]
    have hne : (n : Int) ≠ 0 := by omega
    go_enter Tryd.func41, Tryd.ntmps41
    go_wp2
    go_ret
    exact ⟨rfl, rfl⟩
  · have e1 : pickI c n = c % (n : Int) := by simp [pickI, hc]
    have hm : c.tmod (n : Int) = c % (n : Int) := Int.tmod_eq_emod_of_nonneg (by omega)
    rw [e1]
    have hne : (n : Int) ≠ 0 := by omega
    go_enter Tryd.func41, Tryd.ntmps41
    go_wp2
    go_ret
    exact ⟨rfl, rfl⟩

set_option maxHeartbeats 1000000 in
theorem Ints_calls (v u : Value) (l m : List Int) (w : World) (hv : Ints w v .i64 l) (hu : Ints w u .i64 m) :
    Calls Tryd.prog 24 #[v, u] w fun e w' => e = .returned (.bool (decide (l = m))) ∧ Below w.heap.size w w' := by
  obtain ⟨hlen, A, cap, rfl, hcap, hat⟩ := hv.openD
  obtain ⟨hlen2, A2, cap2, rfl, hcap2, hat2⟩ := hu.openD
  clear hv hu
  by_cases hll : l.length = m.length
  · have HL := Lib.hid hll
    rw [← hll] at hat2 hcap2 hlen2 ⊢
    clear hll
    go_enter Tryd.func24, Tryd.ntmps24
    go_wp2
    go_loopw [5] (fun s5 wr => ∃ k : Nat, k ≤ l.length ∧ s5 = .int .i64 k ∧ Aside (l.take k = m.take k) ∧ Aside (Below w.heap.size w wr)) (fun s5 _ => l.length - (intOf s5).toNat)
    case atStart => exact ⟨0, Nat.zero_le _, rfl, (show l.take 0 = m.take 0 from by simp), Below.refl _ _⟩
    case round =>
      obtain ⟨k, hk, rfl, hE, hB⟩ := hrel
      by_cases hlt : k < l.length
      · obtain ⟨b, off, rfl, hb, hat⟩ := hat (by omega)
        obtain ⟨b2, off2, rfl, hb2, hat2⟩ := hat2 (by have := HL.out; omega)
        have c0 := hat wr hB.out k hlt
        have c1 := hat2 wr hB.out k (by have := HL.out; omega)
        have hlt2 : k < m.length := by have := HL.out; omega
        have HX := Lib.hid (getD_lt l k hlt)
        have HY := Lib.hid (getD_lt m k hlt2)
        generalize l.getD k 0 = x at *
        generalize m.getD k 0 = y at *
        have k0 : (0 : Int) ≤ (k : Int) := by omega
        clear hat hat2
        by_cases hxy : x = y
        · subst hxy
          go_wp2_with fail
          go_quiet (fail)
          have hB1 := below_drewN hB.out nq
          generalize wr.drewN nq = W1 at *
          clear c0 c1
          go_wp2
          go_roundw
          case measure => simp [intOf]; omega
          case rel =>
            refine ⟨k + 1, by omega, by go_num, (show l.take (k + 1) = m.take (k + 1) from ?_), hB1⟩
            rw [List.take_add_one, List.take_add_one, hE.out, List.getElem?_eq_getElem hlt, List.getElem?_eq_getElem hlt2, ← HX.out, ← HY.out]
        · go_wp2_with fail
          go_quiet (fail)
          have hB1 := below_drewN hB.out nq
          generalize wr.drewN nq = W1 at *
          clear c0 c1
          go_wp2
          go_ret
          refine ⟨?_, hB1⟩
          have hne : l ≠ m := by
            rintro rfl
            exact hxy (HX.out.trans HY.out.symm)
          simp [hne]
      · have hkl : k = l.length := by omega
        subst hkl
        clear hat hat2
        have hlm : l = m := by
          have := hE.out
          rw [List.take_length, HL.out, List.take_length] at this
          exact this
        go_wp2
        go_ret
        exact ⟨by simp [hlm], hB.out⟩
  · have hne : l ≠ m := by rintro rfl; exact hll rfl
    have hll2 : ¬ (l.length : Int) = (m.length : Int) := by omega
    clear hat hat2
    go_enter Tryd.func24, Tryd.ntmps24
    go_wp2
    go_ret
    exact ⟨by simp [hne], Below.refl _ _⟩

end Go.Proofs.YthohfbeelepkmaaDoor

/- dialtonelaw40.example. -/
namespace Go.Proofs.YthohfbeelepkmaaDoor
open Go.RowKit Go.Shelf

def exKey : ByteArray := strOfNums (List.replicate 32 0)
def exL : List Ch := [⟨5, 1, 2, 300, ⟨#[97]⟩⟩, ⟨9, 2, 0, 50, ⟨#[98]⟩⟩, ⟨5, 1, 0, 7, ⟨#[]⟩⟩]

def zeros32 : Array Value := ((List.replicate 32 (0 : Int)).map fun n => Value.int .u8 n).toArray
theorem make32 (W : World) : (Instr.makeSlice 66 (.int .i64 32) (.int .i64 32)).run Tryd.prog W = .ok (.slice (some ⟨W.heap.size, 0, none⟩) 32 32) (W.alloc (.cells zeros32 5)) := by
  obtain ⟨i0, hi, hz0, hz1, hz2⟩ := info_parts (show (Tryd.prog.info? 5).map (fun i => (i.zero, i.size, i.bytes)) = some (some (.int .u8 0), 1, 1) by kernel_rfl)
  have := run_makeSlice (P := Tryd.prog) W 66 5 i0 (.int .u8 0) (by kernel_rfl) hi hz0 .i64 .i64 32 32 (by decide) (by decide) (by rw [hz1]; decide) (by rw [hz2]; decide) (by decide)
  rw [this, hz1]
  have e : madeCells (Value.int IntKind.u8 0).cells ((32 : Int).toNat * 1) = zeros32 := by kernel_rfl
  rw [e]
  rfl

set_option maxHeartbeats 1000000 in
set_option maxRecDepth 100000 in
theorem example_calls (w : World) :
    Calls Tryd.prog 40 #[] w fun e w' => ∃ v, e = .returned (.agg #[.string exKey, v]) ∧ Chs w' v exL ∧ (∃ g c, v = .slice (some ⟨g, 0, none⟩) 3 c) ∧ Below w.heap.size w w' := by
  have hm := make32 (w.alloc (.cells #[.string ⟨#[]⟩, .slice none 0 0] 26))
  have hI : Ints ((w.alloc (.cells #[.string ⟨#[]⟩, .slice none 0 0] 26)).alloc (.cells zeros32 5)) (.slice (some ⟨(w.alloc (.cells #[.string ⟨#[]⟩, .slice none 0 0] 26)).heap.size, 0, none⟩) (List.replicate 32 (0 : Int)).length (List.replicate 32 (0 : Int)).length) .u8 (List.replicate 32 0) := Ints.lit (w.alloc (.cells #[.string ⟨#[]⟩, .slice none 0 0] 26)) .u8 5 (List.replicate 32 0) (by simp)
  rw [World.size_alloc] at hm hI
  rw [List.length_replicate] at hI
  have hst := hI.toString (P := Tryd.prog) (by simp) 66 5 9 (by kernel_rfl) (by kernel_rfl) (by kernel_rfl)
  rw [show strOfNums (List.replicate 32 0) = exKey from rfl] at hst
  have hb1 : Below w.heap.size w ((w.alloc (.cells #[.string ⟨#[]⟩, .slice none 0 0] 26)).alloc (.cells zeros32 5)) := below_alloc (below_one w _) _
  have hr1 : ((w.alloc (.cells #[.string ⟨#[]⟩, .slice none 0 0] 26)).alloc (.cells zeros32 5)).heap[w.heap.size]? = some (.cells #[.string ⟨#[]⟩, .slice none 0 0] 26 (0, 0)) := by
    rw [Below.heap_alloc _ _ _ (by simp)]; exact heap_new w _
  clear hI
  generalize hW1 : (w.alloc (.cells #[.string ⟨#[]⟩, .slice none 0 0] 26)).alloc (.cells zeros32 5) = W1 at *
  clear hW1
  generalize exKey = key at *
  have k0 : W1.cell? ⟨w.heap.size, 0, none⟩ = some (.string ⟨#[]⟩) := by unfold World.cell?; rw [hr1]; rfl
  have k1 : W1.cell? ⟨w.heap.size, 1, none⟩ = some (.slice none 0 0) := by unfold World.cell?; rw [hr1]; rfl
  have f0 : W1.frozen? ⟨w.heap.size, 0, none⟩ = false := by unfold World.frozen?; rw [hr1]; simp
  have f1 : W1.frozen? ⟨w.heap.size, 1, none⟩ = false := by unfold World.frozen?; rw [hr1]; simp
  have HR1 := Lib.hid hr1
  have HB1 := Lib.hid hb1
  clear hr1 hb1
  go_enter Tryd.func40, Tryd.ntmps40
  have hlt : w.heap.size < W1.heap.size := (Array.getElem?_eq_some_iff.1 HR1.out).1
  have hr2 : ∀ o, (W1.alloc o).heap[w.heap.size]? = some (.cells #[.string ⟨#[]⟩, .slice none 0 0] 26 (0, 0)) := fun o => (Below.heap_alloc _ _ _ hlt).trans HR1.out
  have I26 := Lib.hid (show (Tryd.prog.info? 26).map (·.size) = some 2 by kernel_rfl)
  have HLT := Lib.hid hlt
  clear k0 k1 f0 f1 hlt
  go_wp2_with (refine wpList_store_row rfl 26 (.tmp 0) (.tmp 7) rfl w.heap.size rfl 26 _ #[.string key, .slice (some ⟨W1.heap.size, 0, none⟩) 3 3] rfl (hr2 _) I26.out rfl (by simp [Value.oneCell']) ?_)
  refine bodyPost_row w.heap.size 26 _ _ (setRow_heap _ _ _ _ 26 (0, 0) (hr2 _)) Tryd.underlying26 rfl I26.out rfl rfl rfl ⟨_, rfl, ?_, ⟨_, _, rfl⟩, below_setRow (below_alloc HB1.out _) (Nat.le_refl _) _⟩
  refine Sl.of_cells (L := exL.map Ch.cells) (k := 5) (by decide) rfl (by decide) (Nat.le_refl _) (by rw [setRow_size]; simp) fun j i x y hx hy => ?_
  have h2 := flat_at (k := 5) (exL.map Ch.cells) (by decide) j i x y hx hy
  unfold World.cell?
  rw [setRow_other _ _ _ _ (Nat.ne_of_gt HLT.out), heap_new, Nat.zero_add]
  simpa [exL, Ch.cells] using h2

end Go.Proofs.YthohfbeelepkmaaDoor

/- dialtoneref40: SameDebts. -/
namespace Go.Proofs.YthohfbeelepkmaaDoor
open Go.RowKit Go.Shelf

theorem Dbs.openD {w : World} {v : Value} {l : List Db} (h : Dbs w v l) : l.length ≤ 140737488355328 ∧ ∃ A cap, v = .slice A l.length cap ∧ l.length ≤ cap ∧
    (∀ j (hj : j < l.length), ∃ b off, A = some ⟨b, off, none⟩ ∧ ∀ W, Below w.heap.size w W → W.cell? ⟨b, off + j * 3, none⟩ = some (.int .i64 l[j].fr) ∧ W.cell? ⟨b, off + j * 3 + 1, none⟩ = some (.int .i64 l[j].tr) ∧ W.cell? ⟨b, off + j * 3 + 2, none⟩ = some (.int .i64 l[j].am)) := by
  obtain ⟨h1, h2, A, cap, hv, hc, h3⟩ := h
  simp only [List.length_map] at *
  refine ⟨h2, A, cap, hv, hc, fun j hj => ?_⟩
  obtain ⟨b, off, e, hlt, hcell⟩ := h3 (by omega)
  have hm : (l.map Db.cells)[j]? = some l[j].cells := by simp [List.getElem?_eq_getElem hj]
  exact ⟨b, off, e, fun W hW => ⟨(hW.cell (p := ⟨b, _, none⟩) hlt).trans (hcell j 0 _ _ hm rfl), (hW.cell (p := ⟨b, _, none⟩) hlt).trans (hcell j 1 _ _ hm rfl), (hW.cell (p := ⟨b, _, none⟩) hlt).trans (hcell j 2 _ _ hm rfl)⟩⟩

set_option maxHeartbeats 1000000 in
/-- Of equal debts. -/
theorem SameDebts_calls (v u : Value) (l : List Db) (w : World) (hv : Dbs w v l) (hu : Dbs w u l) :
    Calls Tryd.prog 25 #[v, u] w fun e w' => e = .returned (.bool true) ∧ Below w.heap.size w w' := by
  obtain ⟨hlen, A, cap, rfl, hcap, hat⟩ := hv.openD
  obtain ⟨_, A2, cap2, rfl, hcap2, hat2⟩ := hu.openD
  clear hv hu
  go_enter Tryd.func25, Tryd.ntmps25
  go_wp2
  go_loopw [5] (fun s5 wr => ∃ k : Nat, k ≤ l.length ∧ s5 = .int .i64 k ∧ Aside (Below w.heap.size w wr)) (fun s5 _ => l.length - (intOf s5).toNat)
  case atStart => exact ⟨0, Nat.zero_le _, rfl, Below.refl _ _⟩
  case round =>
    obtain ⟨k, hk, rfl, hB⟩ := hrel
    by_cases hlt : k < l.length
    · obtain ⟨b, off, rfl, hA1⟩ := hat k hlt
      obtain ⟨b2, off2, rfl, hA2⟩ := hat2 k hlt
      obtain ⟨c0, c1, c2⟩ := hA1 wr hB.out
      obtain ⟨d0, d1, d2⟩ := hA2 wr hB.out
      clear hat hat2
      clear hA1 hA2
      generalize l[k] = c at *
      obtain ⟨x, y, z⟩ := c
      dsimp only at c0 c1 c2 d0 d1 d2
      have k0 : (0 : Int) ≤ (k : Int) := by omega
      go_wp2_with fail
      go_quiet (fail)
      have hB1 := below_drewN hB.out nq
      generalize wr.drewN nq = W1 at *
      clear c0 c1 c2 d0 d1 d2
      go_wp2
      go_roundw
      case measure => simp [intOf]; omega
      case rel => exact ⟨k + 1, by omega, by go_num, hB1⟩
    · have hkl : k = l.length := by omega
      subst hkl
      clear hat hat2
      go_wp2
      go_ret
      exact ⟨rfl, hB.out⟩

end Go.Proofs.YthohfbeelepkmaaDoor
