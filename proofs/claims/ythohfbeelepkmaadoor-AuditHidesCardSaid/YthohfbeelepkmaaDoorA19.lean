/- audit.leaf: what is written of charges. -/
import Derived.Test.YthohfbeelepkmaaDoorA15
namespace Go.Proofs.YthohfbeelepkmaaDoor
open Go.RowKit Go.Shelf

def chB (c : Ch) : ByteArray := nums [c.pa, c.pe, c.am] ++ (putInt c.tx.size ++ c.tx)
def contentB (n : Nat) (l : List Ch) : ByteArray := l.foldl (fun s c => s ++ chB c) (nums [(n : Int)])
theorem contentB_snoc (n : Nat) (l : List Ch) (c : Ch) : contentB n (l ++ [c]) = contentB n l ++ chB c := by simp [contentB]
theorem chB_size {c : Ch} (h : c.tx.size ≤ 100) : (chB c).size ≤ 140 := by
  unfold chB
  rw [size_append, size_append]
  have := nums_size [c.pa, c.pe, c.am]
  have := (putInt_size c.tx.size).2
  simp at *
  omega
theorem contentB_size (n : Nat) (l : List Ch) (h : ∀ c ∈ l, c.tx.size ≤ 100) : 0 < (contentB n l).size ∧ (contentB n l).size ≤ 10 + 140 * l.length := by
  have go : ∀ (l : List Ch) (s : ByteArray), (∀ c ∈ l, c.tx.size ≤ 100) → s.size ≤ (l.foldl (fun s c => s ++ chB c) s).size ∧ (l.foldl (fun s c => s ++ chB c) s).size ≤ s.size + 140 * l.length := by
    intro l
    induction l with
    | nil => intro s _; simp
    | cons c l ih =>
      intro s h
      have h1 := ih (s ++ chB c) (fun x hx => h x (by simp [hx]))
      have h2 := chB_size (h c (by simp))
      rw [size_append] at h1
      simp only [List.foldl_cons, List.length_cons]
      omega
  have h1 := go l (nums [(n : Int)]) h
  have h2 := nums_size [(n : Int)]
  have h3 := nums_pos (l := [(n : Int)]) (by simp)
  simp only [List.length_cons, List.length_nil] at h2
  unfold contentB
  omega
/-- A new slice of integers is read whatever a writer writes. -/
theorem keep_ints {W0 : World} {g n : Nat} {t : TypeId} {l : List Int} (h : W0.heap[g]? = some (.cells (l.map fun x => Value.int .i64 x).toArray t (0, 0))) (ht : ¬ (t = 130 ∨ t = 5)) (hn : l.length = n) (hl : n ≤ 140737488355328) :
    ∀ W, KeepTy W0 W → Ints W (.slice (some ⟨g, 0, none⟩) n n) .i64 l := fun W hW =>
  Arr.ints (t := t) (hW _ _ h ht) n hn hl

def leafDig (salt : ByteArray) (l : List Ch) : ByteArray := leafH (codeB (sumsL l) (nodeH salt (leafH (contentB l.length l))))

theorem bodyPost_row {P : Program} {fn : Func} {R : Ending → World → Prop} {a : Act} {w : World} {p : Tmp} {ty : TypeId} (g : Nat) (t : TypeId) (cs : Array Value) (d : TypeDesc) (h : w.heap[g]? = some (.cells cs t (0, 0))) (hu : P.underlying ty = some d)
    (hd' : (match d with | .struct _ | .array _ _ => true | _ => false) = true) (hi : (P.info? ty).map (·.size) = some cs.size) (hres : fn.results = #[.cell p ty]) (hp : a.tmps.getD p undef = .pointer (some ⟨g, 0, none⟩)) (hd : a.defers = []) (hR : R (.returned (.agg cs)) w) : bodyPost P fn R .ret a w :=
  bodyPost_ret (results_cell_row hres _ w g t _ (0, 0) _ hp h hu hd' hi) hd hR

theorem len8 {l : List Int} (h : l.length = 8) : ∃ a b c d e f g i, l = [a, b, c, d, e, f, g, i] := by
  match l, h with
  | [a, b, c, d, e, f, g, i], _ => exact ⟨a, b, c, d, e, f, g, i, rfl⟩

set_option maxHeartbeats 2000000 in
set_option maxRecDepth 100000 in
theorem leaf_calls (salt : ByteArray) (v : Value) (l : List Ch) (w : World) (hv : Chs w v l) (hlen : l.length ≤ 60) (hok : l.all Ch.ok = true) (hsalt : salt.size ≤ 1000) (hRd : Rd w) :
    Calls Tryd.prog 58 #[.string salt, v] w fun e w' => e = .returned (.agg (totC (sumsL l) (leafDig salt l)).toArray) ∧ Below w.heap.size w w' := by
  obtain ⟨_, A, cap, rfl, hcap, hat⟩ := hv.open_
  have hok2 : ∀ c ∈ l, c.ok = true := by rw [List.all_eq_true] at hok; exact hok
  obtain ⟨wA, hwA⟩ : ∃ wA, wA = w.alloc (.cells #[.int .i64 0, .int .i64 0, .int .i64 0, .int .i64 0, .int .i64 0, .int .i64 0, .int .i64 0, .int .i64 0, .string ⟨#[]⟩] 81) := ⟨_, rfl⟩
  have hZ : wA.heap[w.heap.size]? = some (.cells #[.int .i64 0, .int .i64 0, .int .i64 0, .int .i64 0, .int .i64 0, .int .i64 0, .int .i64 0, .int .i64 0, .string ⟨#[]⟩] 81 (0, 0)) := by rw [hwA]; exact heap_new w _
  have hbA : Below w.heap.size w wA := by rw [hwA]; exact below_one w _
  have hsA : wA.heap.size = w.heap.size + 1 := by rw [hwA]; simp
  have hWb := Wb.new wA
  rw [hsA] at hWb
  obtain ⟨wB, hwB⟩ : ∃ wB, wB = wA.alloc (.cells #[.pointer none, .slice none 0 0] 130) := ⟨_, rfl⟩
  rw [← hwB] at hWb
  have hbB : Below wA.heap.size wA wB := by rw [hwB]; exact below_one wA _
  have hsB : wB.heap.size = w.heap.size + 2 := by rw [hwB]; simp [hsA]
  have hI : (wB.alloc (.cells #[.int .i64 l.length] 3)).heap[w.heap.size + 2]? = some (.cells ([(l.length : Int)].map fun x => Value.int .i64 x).toArray 3 (0, 0)) := by rw [← hsB]; exact heap_new wB _
  have hN := numbers_calls (w.heap.size + 1) (w.heap.size + 1) .empty _ [(l.length : Int)] _ (hWb.below (below_one wB (.cells #[.int .i64 l.length] 3))) (keep_ints hI (by decide) rfl (by simp)) (by intro n hn; simp at hn; omega) (by simp) (by simp; omega)
  rw [ByteArray.empty_append] at hN
  rw [hwB, hwA] at hN
  have HA := Lib.hid hwA
  have HB := Lib.hid hwB
  have HSA := Lib.hid hsA
  have HSB := Lib.hid hsB
  have HC := Lib.hid (show contentB l.length [] = nums [(l.length : Int)] from rfl)
  have HOK2 := Lib.hid hok2
  have HV := Lib.hid hv
  have HOK := Lib.hid hok
  clear hwA hwB hsA hsB hI hWb hok2 hv hok
  generalize nums [(l.length : Int)] = N0 at *
  go_enter Tryd.func58, Tryd.ntmps58
  go_wp2_with fail
  refine hN.mono ?_
  rintro e w3 ⟨rfl, hw3, hb3, hk3⟩
  rw [← HA.out, ← HB.out] at hb3 hk3
  have hB3 : Below (w.heap.size + 1) wA w3 := by
    have h1 := below_alloc hbB (.cells #[.int .i64 l.length] 3)
    rw [HSA.out] at h1
    exact h1.trans hb3
  clear hN hb3 hk3 hbB
  go_wp2
  go_loopw [17] (fun s17 wr => ∃ k : Nat, k ≤ l.length ∧ s17 = .int .i64 k ∧ Aside (Wb (w.heap.size + 1) (w.heap.size + 1) (contentB l.length (l.take k)) wr) ∧ Aside (Below (w.heap.size + 1) wA wr)) (fun s17 _ => l.length - (intOf s17).toNat)
  case atStart => exact ⟨0, Nat.zero_le _, rfl, (show Wb _ _ _ _ by rw [List.take_zero, HC.out]; exact hw3), hB3⟩
  case round =>
    obtain ⟨k, hk, rfl, hW, hB⟩ := hrel
    by_cases hlt : k < l.length
    · obtain ⟨b, off, rfl, hb, c0, c1, c2, c3, c4⟩ := hat k hlt
      have HT := Lib.hid (take_succ_snoc l k hlt)
      have hcok := Ch.ok_facts (HOK2.out _ (List.getElem_mem hlt))
      have hbw : Below w.heap.size w wr := hbA.trans (hB.out.mono (by omega))
      replace c0 := (hbw.cell (p := ⟨b, _, none⟩) hb).trans c0
      replace c1 := (hbw.cell (p := ⟨b, _, none⟩) hb).trans c1
      replace c2 := (hbw.cell (p := ⟨b, _, none⟩) hb).trans c2
      replace c3 := (hbw.cell (p := ⟨b, _, none⟩) hb).trans c3
      replace c4 := (hbw.cell (p := ⟨b, _, none⟩) hb).trans c4
      have HSN := Lib.hid (contentB_snoc l.length (l.take k) l[k])
      have hcs := (contentB_size l.length (l.take k) (fun c hc => by have := Ch.ok_facts (HOK2.out c (List.mem_of_mem_take hc)); omega)).2
      have hk60 : (l.take k).length ≤ 60 := by simp; omega
      generalize contentB l.length (l.take k) = Ck at *
      generalize l[k] = c at *
      obtain ⟨cu, pa, pe, am, tx⟩ := c
      dsimp only at c0 c1 c2 c3 c4 hcok
      have HCB := Lib.hid (show chB ⟨cu, pa, pe, am, tx⟩ = nums [pa, pe, am] ++ (putInt tx.size ++ tx) from rfl)
      have hsz := hB.out.size
      have hwr : w.heap.size + 1 ≤ wr.heap.size := by have := HSA.out; omega
      have hch : ((wr.alloc (.cells #[.int .i64 cu, .int .i64 pa, .int .i64 pe, .int .i64 am, .string tx] 30)).alloc (.cells #[.int .i64 pa, .int .i64 pe, .int .i64 am] 3)).heap[wr.heap.size]? = some (.cells #[.int .i64 cu, .int .i64 pa, .int .i64 pe, .int .i64 am, .string tx] 30 (0, 0)) := by rw [Below.heap_alloc _ _ _ (by simp)]; exact heap_new wr _
      have hI : ((wr.alloc (.cells #[.int .i64 cu, .int .i64 pa, .int .i64 pe, .int .i64 am, .string tx] 30)).alloc (.cells #[.int .i64 pa, .int .i64 pe, .int .i64 am] 3)).heap[wr.heap.size + 1]? = some (.cells ([pa, pe, am].map fun x => Value.int .i64 x).toArray 3 (0, 0)) := by
        have := heap_new (wr.alloc (.cells #[.int .i64 cu, .int .i64 pa, .int .i64 pe, .int .i64 am, .string tx] 30)) (.cells #[.int .i64 pa, .int .i64 pe, .int .i64 am] 3); rwa [World.size_alloc] at this
      have hbr := below_alloc (below_one wr (.cells #[.int .i64 cu, .int .i64 pa, .int .i64 pe, .int .i64 am, .string tx] 30)) (.cells #[.int .i64 pa, .int .i64 pe, .int .i64 am] 3)
      have hszr : ((wr.alloc (.cells #[.int .i64 cu, .int .i64 pa, .int .i64 pe, .int .i64 am, .string tx] 30)).alloc (.cells #[.int .i64 pa, .int .i64 pe, .int .i64 am] 3)).heap.size = wr.heap.size + 2 := by simp
      have hN := numbers_calls (w.heap.size + 1) (w.heap.size + 1) Ck _ [pa, pe, am] _ (hW.out.below hbr) (keep_ints hI (by decide) rfl (by simp)) (by intro n hn; simp at hn; omega) (by simp; omega) (by omega)
      have hns := nums_size [pa, pe, am]
      simp only [List.length_cons, List.length_nil] at hns
      have hPS := fun W => PutString_calls tx W (by omega)
      have hps := (putInt_size tx.size).2
      generalize nums [pa, pe, am] = Nk at *
      generalize putInt tx.size = Pk at *
      have HCH := Lib.hid hch
      have HSZ := Lib.hid hszr
      have HBR := Lib.hid hbr
      clear hat hI hW hch hszr hbr
      go_wp2_with fail
      refine hN.mono ?_
      rintro e w4 ⟨rfl, hw4, hb4, hk4⟩
      have hcell := hk4 _ _ HCH.out (by rintro (h | h) <;> cases h)
      have t4 : w4.cell? ⟨wr.heap.size, 4, none⟩ = some (.string tx) := by unfold World.cell?; rw [hcell]; rfl
      replace hPS := hPS w4
      have hB4 : Below (w.heap.size + 1) wA w4 := (hB.out.trans (HBR.out.mono hwr)).trans hb4
      clear hN hcell hk4 c0 c1 c2 c3 c4 hb4 hB
      go_wp2_with fail
      refine hPS.mono ?_
      rintro e w5 ⟨rfl, hb5⟩
      have hB5 : Below (w.heap.size + 1) wA w5 := hB4.trans (hb5.mono (by have := hB4.size; have := HSA.out; omega))
      have hWS := WriteString_calls _ _ _ (Pk ++ tx) w5 (hw4.below hb5) (by rw [size_append, size_append]; omega) (by have := hB5.size; have := HSA.out; omega)
      clear hPS t4 hw4
      go_wp2_with fail
      refine hWS.mono ?_
      rintro e w6 ⟨rfl, hw6, hb6, _⟩
      clear hWS
      go_wp2
      go_roundw
      case measure => simp [intOf]; omega
      case rel =>
        refine ⟨k + 1, by omega, by go_num, (show Wb _ _ _ _ from ?_), hB5.trans hb6⟩
        rw [HT.out, HSN.out, HCB.out, ← ByteArray.append_assoc]
        exact hw6
    · have hkl : k = l.length := by omega
      subst hkl
      have hW' := hW.out
      rw [List.take_length] at hW'
      clear hat hW hlt hk hw3 hB3
      have hbw : Below w.heap.size w wr := hbA.trans (hB.out.mono (by omega))
      have hSu := sums_calls _ l wr (HV.out.below hbw) HOK.out (by omega)
      have hcs := contentB_size l.length l (fun c hc => by have := Ch.ok_facts (HOK2.out c hc); omega)
      have hsb := sumsL_bound l HOK.out
      have HD := Lib.hid (show leafDig salt l = leafH (codeB (sumsL l) (nodeH salt (leafH (contentB l.length l)))) from rfl)
      obtain ⟨a0, a1, a2, a3, a4, a5, a6, a7, hS⟩ := len8 (sumsL_length l)
      rw [hS] at hSu HD hsb
      have HS := Lib.hid hS
      have hsm : Small [a0, a1, a2, a3, a4, a5, a6, a7] := by
        have h0 := hsb 0; have h1 := hsb 1; have h2 := hsb 2; have h3 := hsb 3; have h4 := hsb 4; have h5 := hsb 5; have h6 := hsb 6; have h7 := hsb 7
        simp at h0 h1 h2 h3 h4 h5 h6 h7
        intro n hn
        simp at hn
        omega
      have hwr : w.heap.size + 1 ≤ wr.heap.size := by have := hB.out.size; have := HSA.out; omega
      have HW := Lib.hid hW'
      generalize contentB l.length l = Cn at *
      have HB0 := Lib.hid hB.out
      clear hS hsb hW' hB
      go_wp2_with fail
      refine hSu.mono ?_
      rintro e w4 ⟨rfl, hb4⟩
      have hStr := String_calls (w.heap.size + 1) (w.heap.size + 1) Cn w4 (HW.out.below hb4) hcs.1
      have hB4 : Below (w.heap.size + 1) wA w4 := HB0.out.trans (hb4.mono hwr)
      clear hSu
      go_wp2_with fail
      refine hStr.mono ?_
      rintro e w5 ⟨rfl, hb5⟩
      have hB5 := hB4.trans hb5
      have hRo : ∀ W, Below (w.heap.size + 1) wA W → Rd W := fun W h => hRd.below (hbA.trans (h.mono (by omega)))
      have hLf := Leaf_calls Cn w5 (by omega) (hRo _ hB5)
      have hls := leafH_size Cn
      generalize leafH Cn = Lf at *
      clear hStr
      go_wp2_with fail
      refine hLf.mono ?_
      rintro e w6 ⟨rfl, hb6⟩
      have hle : ∀ W, Below (w.heap.size + 1) wA W → w.heap.size + 1 ≤ W.heap.size := fun W h => by have := h.size; have := HSA.out; omega
      have hB6 := hB5.trans (hb6.mono (hle _ hB5))
      have hNd := Node_calls salt Lf w6 (by omega) (hRo _ hB6)
      have hns := nodeH_size salt Lf
      generalize nodeH salt Lf = Nd at *
      clear hLf
      go_wp2_with fail
      refine hNd.mono ?_
      rintro e w7 ⟨rfl, hb7⟩
      have hB7 := hB6.trans (hb7.mono (hle _ hB6))
      have hblk := heap_new w7 (.cells #[.int .i64 a0, .int .i64 a1, .int .i64 a2, .int .i64 a3, .int .i64 a4, .int .i64 a5, .int .i64 a6, .int .i64 a7, .string Nd] 81)
      have hB8 : Below (w.heap.size + 1) wA (w7.alloc (.cells #[.int .i64 a0, .int .i64 a1, .int .i64 a2, .int .i64 a3, .int .i64 a4, .int .i64 a5, .int .i64 a6, .int .i64 a7, .string Nd] 81)) := hB7.alloc (hle _ hB7) _
      have hCo := code_calls [a0, a1, a2, a3, a4, a5, a6, a7] Nd (w7.alloc (.cells #[.int .i64 a0, .int .i64 a1, .int .i64 a2, .int .i64 a3, .int .i64 a4, .int .i64 a5, .int .i64 a6, .int .i64 a7, .string Nd] 81)) rfl hsm (by omega)
      simp only [totC, List.map_cons, List.map_nil, List.cons_append, List.nil_append] at hCo
      have hcz : (codeB [a0, a1, a2, a3, a4, a5, a6, a7] Nd).size ≤ 1000 := by
        unfold codeB; rw [size_append]; have := nums_size [a0, a1, a2, a3, a4, a5, a6, a7]; simp at this; omega
      generalize codeB [a0, a1, a2, a3, a4, a5, a6, a7] Nd = Co at *
      have hw7 := hle _ hB7
      clear hNd
      go_wp2_with fail
      refine hCo.mono ?_
      rintro e w8 ⟨rfl, hb8⟩
      have hblk8 := (hb8.block _ (by simp)).trans hblk
      have hB9 := hB8.trans (hb8.mono (hle _ hB8))
      have hL2 := Leaf_calls Co w8 (by omega) (hRo _ hB9)
      generalize leafH Co = D at *
      clear hCo hblk
      go_wp2_with fail
      refine hL2.mono ?_
      rintro e w9 ⟨rfl, hb9⟩
      have hblk9 := (hb9.block _ (Array.getElem?_eq_some_iff.1 hblk8).1).trans hblk8
      have hB10 := hB9.trans (hb9.mono (hle _ hB9))
      have k8 : w9.cell? ⟨w7.heap.size, 8, none⟩ = some (.string Nd) := by unfold World.cell?; rw [hblk9]; rfl
      have f8 : w9.frozen? ⟨w7.heap.size, 8, none⟩ = false := by unfold World.frozen?; rw [hblk9]; simp
      have hblk10 : (w9.setCell ⟨w7.heap.size, 8, none⟩ (.string D)).heap[w7.heap.size]? = some (.cells #[.int .i64 a0, .int .i64 a1, .int .i64 a2, .int .i64 a3, .int .i64 a4, .int .i64 a5, .int .i64 a6, .int .i64 a7, .string D] 81 (0, 0)) := by
        simp only [World.setCell, Array.getElem?_modify, hblk9, Option.map_some, if_true]; rfl
      have hB11 := hB10.setCell (p := ⟨w7.heap.size, 8, none⟩) hw7 (.string D)
      have hr11 := (hB11.block _ (by omega)).trans hZ
      have I81 := Lib.hid (show (Tryd.prog.info? 81).map (·.size) = some 9 by kernel_rfl)
      clear hL2 hblk8 hblk9
      go_wp2_with (first | (refine wpList_load_row rfl 81 (.tmp 10) rfl w7.heap.size rfl 81 _ (0, 0) _ hblk10 Tryd.underlying81 rfl I81.out ?_) | (refine wpList_store_row rfl 81 (.tmp 4) (.tmp 51) rfl w.heap.size rfl 81 _ #[.int .i64 a0, .int .i64 a1, .int .i64 a2, .int .i64 a3, .int .i64 a4, .int .i64 a5, .int .i64 a6, .int .i64 a7, .string D] rfl hr11 I81.out rfl (by simp [Value.oneCell']) ?_))
      have hfin : ((w9.setCell ⟨w7.heap.size, 8, none⟩ (.string D)).setRow w.heap.size #[.int .i64 a0, .int .i64 a1, .int .i64 a2, .int .i64 a3, .int .i64 a4, .int .i64 a5, .int .i64 a6, .int .i64 a7, .string D]).heap[w.heap.size]? = some (.cells #[.int .i64 a0, .int .i64 a1, .int .i64 a2, .int .i64 a3, .int .i64 a4, .int .i64 a5, .int .i64 a6, .int .i64 a7, .string D] 81 (0, 0)) := setRow_heap _ _ _ _ 81 (0, 0) hr11
      refine bodyPost_row w.heap.size 81 _ _ hfin Tryd.underlying81 rfl I81.out rfl rfl rfl ?_
      refine ⟨?_, below_setRow (hbA.trans (hB11.mono (by omega))) (Nat.le_refl _) _⟩
      rw [HS.out, HD.out]
      rfl

end Go.Proofs.YthohfbeelepkmaaDoor

/- audit.total: join, shown. -/
namespace Go.Proofs.YthohfbeelepkmaaDoor
open Go.RowKit Go.Shelf

/-- A block that holds a total. -/
def Tot (w : World) (b : Nat) (l : List Int) (d : ByteArray) : Prop := w.heap[b]? = some (.cells (totC l d).toArray 81 (0, 0))
theorem Tot.lt {w : World} {b : Nat} {l : List Int} {d : ByteArray} (h : Tot w b l d) : b < w.heap.size := (Array.getElem?_eq_some_iff.1 h).1
theorem Tot.cellD {w : World} {b : Nat} {l : List Int} {d : ByteArray} (h : Tot w b l d) (i : Nat) (hi : i < l.length) : w.cell? ⟨b, i, none⟩ = some (.int .i64 (l.getD i 0)) := by
  unfold World.cell?; rw [h]; have := totC_int (d := d) hi; simpa [hi] using this
theorem Tot.frozen {w : World} {b : Nat} {l : List Int} {d : ByteArray} (h : Tot w b l d) (i : Nat) : w.frozen? ⟨b, i, none⟩ = false := by
  unfold World.frozen?; rw [h]; simp
theorem Tot.below {w w' : World} {b : Nat} {l : List Int} {d : ByteArray} (h : Tot w b l d) (hb : Below w.heap.size w w') : Tot w' b l d := (hb.block b h.lt).trans h
theorem Tot.other {w : World} {b : Nat} {l : List Int} {d : ByteArray} (h : Tot w b l d) {a : Addr} (ha : a.block ≠ b) (v : Value) : Tot (w.setCell a v) b l d := by
  unfold Tot at *; rw [Below.heap_setCell _ _ _ _ (fun e => ha e.symm)]; exact h
theorem Tot.set {w : World} {b : Nat} {l : List Int} {d : ByteArray} (h : Tot w b l d) (i : Nat) (hi : i < l.length) (x : Int) : Tot (w.setCell ⟨b, i, none⟩ (.int .i64 x)) b (l.set i x) d := by
  unfold Tot at *
  simp only [World.setCell, Array.getElem?_modify, h, Option.map_some, if_true]
  congr 2
  apply Array.ext'
  simp [totC, List.map_set, List.set_append_left, hi]

def restOf : Code → Code
  | .seq _ (.seq _ r) => r
  | c => c

/-- The sums of two totals, the first k of them added. -/
def addK (a b : List Int) (k : Nat) : List Int := (List.zipWith (· + ·) a b).take k ++ List.replicate (8 - k) 0
theorem addK_succ (a b : List Int) (ha : a.length = 8) (hb : b.length = 8) (k : Nat) (hk : k < 8) : (addK a b k).set k (a.getD k 0 + b.getD k 0) = addK a b (k + 1) := by
  obtain ⟨a0, a1, a2, a3, a4, a5, a6, a7, rfl⟩ := len8 ha
  obtain ⟨b0, b1, b2, b3, b4, b5, b6, b7, rfl⟩ := len8 hb
  match k, hk with
  | 0, _ => rfl
  | 1, _ => rfl
  | 2, _ => rfl
  | 3, _ => rfl
  | 4, _ => rfl
  | 5, _ => rfl
  | 6, _ => rfl
  | 7, _ => rfl
def addT (a b : List Int) : List Int := List.zipWith (· + ·) a b

set_option maxHeartbeats 1000000 in
set_option maxRecDepth 100000 in
theorem join_rest (w : World) (R : Ending → World → Prop) (n r2 r3 r4 r5 : Nat) (l1 l2 : List Int) (d1 d2 dn : ByteArray) (p0 p1 u6 u7 u8 u9 u10 u11 u12 u13 u14 u15 u16 u17 u18 u19 u20 u21 u22 u23 u24 u25 u26 u27 u28 u29 : Value) (W : World)
    (h1 : Tot W r2 l1 d1) (h2 : Tot W r3 l2 d2) (h4 : Tot W r4 (List.replicate 8 0) .empty) (h5 : Tot W r5 (List.replicate 8 0) dn) (hne2 : r2 ≠ r5) (hne3 : r3 ≠ r5) (hne4 : r4 ≠ r5)
    (hb : Below n w W) (hn5 : n ≤ r5) (hn4 : n ≤ r4) (e1 : l1.length = 8) (e2 : l2.length = 8) (s1 : Small l1) (s2 : Small l2)
    (hR : ∀ W', Below n w W' → R (.returned (.agg (totC (addT l1 l2) dn).toArray)) W') :
    (restOf (Tryd.f60.body.getD .skip)).wp Tryd.prog (bodyPost Tryd.prog Tryd.f60 R) { tmps := #[p0, p1, .pointer (some ⟨r2, 0, none⟩), .pointer (some ⟨r3, 0, none⟩), .pointer (some ⟨r4, 0, none⟩), .pointer (some ⟨r5, 0, none⟩), u6, u7, u8, u9, u10, u11, u12, u13, u14, u15, u16, u17, u18, u19, u20, u21, u22, u23, u24, u25, u26, u27, u28, u29], defers := [] } W := by
  simp only [Tryd.f60, restOf, Option.getD]
  have hK0 : addK l1 l2 0 = List.replicate 8 0 := by simp [addK]
  have hK8 : addK l1 l2 8 = addT l1 l2 := by
    simp only [addK, addT]
    rw [List.take_of_length_le (by simp [e1, e2])]
    simp
  rw [← hK0] at h5
  have hkl : ∀ k, k ≤ 8 → (addK l1 l2 k).length = 8 := by intro k hk; simp [addK, e1, e2]; omega
  have H1 := Lib.hid e1
  have H2 := Lib.hid e2
  have H4 := Lib.hid h4
  clear hK0
  go_wp2
  go_loopw [13] (fun s13 wr => ∃ k : Nat, k ≤ 8 ∧ s13 = .int .i64 k ∧ Aside (Tot wr r2 l1 d1) ∧ Aside (Tot wr r3 l2 d2) ∧ Aside (Tot wr r4 (List.replicate 8 0) .empty) ∧ Aside (Tot wr r5 (addK l1 l2 k) dn) ∧ Aside (Below n w wr)) (fun s13 _ => 8 - (intOf s13).toNat)
  case atStart => exact ⟨0, Nat.zero_le _, rfl, h1, h2, h4, h5, hb⟩
  case round =>
    clear h1 h2 h4 h5 hb
    obtain ⟨k, hk, rfl, h1, h2, h4, h5, hb⟩ := hrel
    by_cases hlt : k < 8
    · have c1 := h1.out.cellD k (by omega)
      have c2 := h2.out.cellD k (by omega)
      have c5 := h5.out.cellD k (by rw [hkl k hk]; omega)
      have f5 := h5.out.frozen k
      have b1 : -4611686018427387903 ≤ l1.getD k 0 ∧ l1.getD k 0 ≤ 4611686018427387903 := by
        rw [List.getD_eq_getElem?_getD, List.getElem?_eq_getElem (by omega)]; exact s1 _ (List.getElem_mem _)
      have b2 : -4611686018427387903 ≤ l2.getD k 0 ∧ l2.getD k 0 ≤ 4611686018427387903 := by
        rw [List.getD_eq_getElem?_getD, List.getElem?_eq_getElem (by omega)]; exact s2 _ (List.getElem_mem _)
      have HA := Lib.hid (addK_succ l1 l2 e1 e2 k hlt)
      have hwr : IntKind.i64.wrap (l1.getD k 0 + l2.getD k 0) = l1.getD k 0 + l2.getD k 0 := w64 (by omega) (by omega)
      have k8 : (k : Int) < 8 := by omega
      have k0 : (0 : Int) ≤ (k : Int) := by omega
      have hset := h5.out.set k (by rw [hkl k hk]; omega) (l1.getD k 0 + l2.getD k 0)
      have HSE := Lib.hid hset
      rw [HA.out] at HSE
      clear HA hset hkl s1 s2
      generalize l1.getD k 0 = x1 at *
      generalize l2.getD k 0 = x2 at *
      generalize (addK l1 l2 k).getD k 0 = x5 at *
      go_wp2_with fail
      go_still_tail 12, (by kernel_rfl)
      go_wp2
      go_roundw
      case measure => simp [intOf]; omega
      case rel =>
        exact ⟨k + 1, by omega, by go_num, h1.out.other (Ne.symm hne2) _, h2.out.other (Ne.symm hne3) _, h4.out.other (Ne.symm hne4) _, HSE.out, (hb.out.setCell (p := ⟨r5, k, none⟩) hn5 _).drew⟩
    · obtain rfl : k = 8 := by omega
      rw [hK8] at h5
      have hl8 : (addT l1 l2).length = 8 := by simp [addT, e1, e2]
      generalize addT l1 l2 = S at *
      obtain ⟨a0, a1, a2, a3, a4, a5, a6, a7, rfl⟩ := len8 hl8
      have h4' := h4.out
      have h5' := h5.out
      unfold Tot at h4' h5'
      simp only [totC, List.map_cons, List.map_nil, List.cons_append, List.nil_append, List.replicate] at h4' h5'
      have I81 := Lib.hid (show (Tryd.prog.info? 81).map (·.size) = some 9 by kernel_rfl)
      clear hkl
      go_wp2_with (first | (refine wpList_load_row rfl 81 (.tmp 5) rfl r5 rfl 81 _ (0, 0) _ h5' Tryd.underlying81 rfl I81.out ?_) | (refine wpList_store_row rfl 81 (.tmp 4) (.tmp 29) rfl r4 rfl 81 _ _ rfl h4' I81.out rfl (by simp [Value.oneCell']) ?_))
      have hfin := setRow_heap wr r4 _ #[.int .i64 a0, .int .i64 a1, .int .i64 a2, .int .i64 a3, .int .i64 a4, .int .i64 a5, .int .i64 a6, .int .i64 a7, .string dn] 81 (0, 0) h4'
      exact bodyPost_row r4 81 _ _ hfin Tryd.underlying81 rfl I81.out rfl rfl rfl (hR _ ⟨hb.out.os, hb.out.tape, hb.out.output, by rw [setRow_size]; exact hb.out.size, fun k hk => (setRow_other _ _ _ _ (by omega)).trans (hb.out.block k hk)⟩)

theorem below_then' {w w1 w2 : World} (k : Below w1.heap.size w1 w2) (h : Below w.heap.size w w1) : Below w.heap.size w w2 := below_then h k

end Go.Proofs.YthohfbeelepkmaaDoor
