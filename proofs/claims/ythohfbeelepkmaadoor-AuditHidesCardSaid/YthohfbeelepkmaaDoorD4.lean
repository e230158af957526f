/- audit.Account. -/
import Derived.Test.YthohfbeelepkmaaDoorD3
namespace Go.Proofs.YthohfbeelepkmaaDoor
open Go.RowKit Go.Shelf
attribute [local go_sem] Oper.semAt_some

set_option maxHeartbeats 1000000 in
set_option maxRecDepth 100000 in
theorem Account_not (key : ByteArray) (A : Option Addr) (n cap : Nat) (l : List Ch) (cu : Int) (w : World) (hv : Chs w (.slice A n cap) l) (hok : (validB key l && within cu 0 63) = false) :
    Calls Tryd.prog 26 #[.agg #[.string key, .slice A n cap], .int .i64 cu] w fun e w' => e = .returned (.tuple #[.agg #[.int .i64 0, .slice none 0 0, .string ⟨#[]⟩, .slice none 0 0], .int .i64 400]) ∧ Below w.heap.size w w' := by
  have hV := fun W (hb : Below w.heap.size w W) => Valid_calls key (.slice A n cap) l W (hv.below hb)
  have hV0 := hV ((w.alloc (.cells #[.string key, .slice A n cap] 26)).alloc (.cells #[.int .i64 0, .slice none 0 0, .string ⟨#[]⟩, .slice none 0 0] 51)) (below_alloc (below_one w _) _)
  have HB := Lib.hid (below_alloc (below_one w (.cells #[.string key, .slice A n cap] 26)) (.cells #[.int .i64 0, .slice none 0 0, .string ⟨#[]⟩, .slice none 0 0] 51))
  have r2 : ((w.alloc (.cells #[.string key, .slice A n cap] 26)).alloc (.cells #[.int .i64 0, .slice none 0 0, .string ⟨#[]⟩, .slice none 0 0] 51)).heap[w.heap.size + 1]? = some (.cells #[.int .i64 0, .slice none 0 0, .string ⟨#[]⟩, .slice none 0 0] 51 (0, 0)) := by
    have := heap_new (w.alloc (.cells #[.string key, .slice A n cap] 26)) (.cells #[.int .i64 0, .slice none 0 0, .string ⟨#[]⟩, .slice none 0 0] 51); rwa [World.size_alloc] at this
  have HR2 := Lib.hid r2
  have I51 := Lib.hid (show (Tryd.prog.info? 51).map (·.size) = some 4 by kernel_rfl)
  have hW := fun W => isWithin_calls cu 0 63 W
  change (validB key l && within cu 0 63) = false at hok
  change Calls _ _ _ _ fun e w' => e = .returned (.bool (validB key l)) ∧ _ at hV0
  generalize validB key l = vb at *
  generalize within cu 0 63 = wb at *
  clear hv hV r2
  refine calls_of_wp_marks Tryd.func26 rfl ?_
  simp only [Tryd.ntmps26, List.size_toArray, List.length_cons, List.length_nil, Nat.reduceAdd, Nat.reduceSub, Array.replicate_succ, Array.replicate_zero, List.push_toArray, List.append_toArray, List.nil_append, List.cons_append]
  go_wp2_with fail
  refine hV0.mono ?_
  rintro e w1 ⟨rfl, hb1⟩
  have HH := Lib.hid ((hb1.block _ (Array.getElem?_eq_some_iff.1 HR2.out).1).trans HR2.out)
  have HB1 := Lib.hid (below_then HB.out hb1)
  clear hV0 hb1
  cases vb
  · clear hok
    go_wp2_with (refine wpList_store_row rfl 51 (.tmp 4) (.tmp 17) rfl (w.heap.size + 1) rfl 51 _ _ rfl HH.out I51.out rfl (by simp [Value.oneCell']) ?_)
    refine ⟨_, results_row_tmp rfl _ _ (w.heap.size + 1) 51 #[.int .i64 0, .slice none 0 0, .string ⟨#[]⟩, .slice none 0 0] (0, 0) _ rfl (setRow_heap w1 (w.heap.size + 1) _ _ 51 (0, 0) HH.out) Tryd.underlying51 rfl I51.out, rfl, below_setRow HB1.out (Nat.le_succ _) _⟩
  · simp only [Bool.true_and] at hok
    subst hok
    go_wp2_with fail
    refine (hW w1).mono ?_
    rintro e w2 ⟨rfl, rfl⟩
    go_wp2_with (refine wpList_store_row rfl 51 (.tmp 4) (.tmp 17) rfl (w.heap.size + 1) rfl 51 _ _ rfl HH.out I51.out rfl (by simp [Value.oneCell']) ?_)
    refine ⟨_, results_row_tmp rfl _ _ (w.heap.size + 1) 51 #[.int .i64 0, .slice none 0 0, .string ⟨#[]⟩, .slice none 0 0] (0, 0) _ rfl (setRow_heap w1 (w.heap.size + 1) _ _ 51 (0, 0) HH.out) Tryd.underlying51 rfl I51.out, rfl, below_setRow HB1.out (Nat.le_succ _) _⟩

def pthCells (L : List (Value × TT)) : List Value := (L.map fun p => [p.1, .string p.2.2]).flatten
theorem pthCells_snoc (L : List (Value × TT)) (p : Value × TT) : pthCells (L ++ [p]) = pthCells L ++ [p.1, .string p.2.2] := by simp [pthCells]
/-- A path that lies in rows of its own. -/
def Tots (n : Nat) (W : World) (pv : Value) (L : List (Value × TT)) : Prop := W.ownsRow n 35 2 pv L.length (pthCells L) ∧ ∀ p ∈ L, Sv n W p.2.1 p.1
theorem Tots.keep {n : Nat} {W W' : World} {pv : Value} {L : List (Value × TT)} (h : Tots n W pv L) (hk : KeepT [35, 3] W W') : Tots n W' pv L :=
  ⟨ownsRow_keep h.1 hk (by decide), fun p hp => ownsRow_keep (h.2 p hp) hk (by decide)⟩
/-- The path of a customer, the first k totals of it. -/
def pathL (key : ByteArray) (l : List Ch) (cu k : Nat) : List TT := (List.range k).map fun j => nodeT key l j ((cu / 2 ^ j) ^^^ 1)
theorem pathL_succ (key : ByteArray) (l : List Ch) (cu k : Nat) : pathL key l cu (k + 1) = pathL key l cu k ++ [nodeT key l k ((cu / 2 ^ k) ^^^ 1)] := by simp [pathL, List.range_succ]
theorem flip_lt {j k : Nat} (h : j < 64) : j ^^^ 1 < 64 ∧ (j < 2 ^ (k + 1) → j ^^^ 1 < 2 ^ (k + 1)) := by
  refine ⟨Nat.xor_lt_two_pow (n := 6) h (by decide), fun h => Nat.xor_lt_two_pow h (Nat.one_lt_two_pow (by omega))⟩
theorem flip_bits : ∀ j : Nat, j < 64 → bits .xor .i64 (j : Int) 1 = ((j ^^^ 1 : Nat) : Int) := by decide

theorem Sv.box {n b : Nat} {w : World} {l1 : List Int} {sv u x : Value} (h : Sv n w l1 sv) (hb : Boxed w b 3 u) : Sv n (w.setCell ⟨b, 0, none⟩ x) l1 sv := by
  refine ⟨h.1, h.2.imp id ?_⟩
  rintro ⟨q, c, cur, e, h1, h2, h3, h4, h5, h6⟩
  refine ⟨q, c, cur, e, h1, ?_, h3, h4, h5, h6⟩
  have hne : q ≠ b := by
    intro e2
    rw [e2, show w.heap[b]? = _ from hb] at h2
    cases h2
    simp at h5
    omega
  rw [Below.heap_setCell _ _ _ _ hne]
  exact h2

set_option maxHeartbeats 4000000 in
set_option maxRecDepth 100000 in
theorem Account_calls (key : ByteArray) (A : Option Addr) (n cap : Nat) (l : List Ch) (cu : Nat) (w : World) (hv : Chs w (.slice A n cap) l) (hok : validB key l = true) (hcu : cu < 64) (hRd : Rd w) :
    Calls Tryd.prog 26 #[.agg #[.string key, .slice A n cap], .int .i64 cu] w fun e w' => ∃ vC vP L', e = .returned (.tuple #[.agg #[.int .i64 cu, vC, .string (saltH key cu), vP], .int .i64 0]) ∧
      w'.ownsRow w.heap.size 30 5 vC (ofL l cu).length (chCells (ofL l cu)) ∧ Tots w.heap.size w' vP L' ∧ L'.map Prod.snd = pathL key l cu 6 ∧ Below w.heap.size w w' := by
  have hV := fun W (hb : Below w.heap.size w W) => Valid_calls key (.slice A n cap) l W (hv.below hb)
  have hV0 := hV ((w.alloc (.cells #[.string key, .slice A n cap] 26)).alloc (.cells #[.int .i64 0, .slice none 0 0, .string ⟨#[]⟩, .slice none 0 0] 51)) (below_alloc (below_one w _) _)
  have HB := Lib.hid (below_alloc (below_one w (.cells #[.string key, .slice A n cap] 26)) (.cells #[.int .i64 0, .slice none 0 0, .string ⟨#[]⟩, .slice none 0 0] 51))
  have r2 : ((w.alloc (.cells #[.string key, .slice A n cap] 26)).alloc (.cells #[.int .i64 0, .slice none 0 0, .string ⟨#[]⟩, .slice none 0 0] 51)).heap[w.heap.size + 1]? = some (.cells #[.int .i64 0, .slice none 0 0, .string ⟨#[]⟩, .slice none 0 0] 51 (0, 0)) := by
    have := heap_new (w.alloc (.cells #[.string key, .slice A n cap] 26)) (.cells #[.int .i64 0, .slice none 0 0, .string ⟨#[]⟩, .slice none 0 0] 51); rwa [World.size_alloc] at this
  have r1 : ((w.alloc (.cells #[.string key, .slice A n cap] 26)).alloc (.cells #[.int .i64 0, .slice none 0 0, .string ⟨#[]⟩, .slice none 0 0] 51)).heap[w.heap.size]? = some (.cells #[.string key, .slice A n cap] 26 (0, 0)) := by
    rw [Below.heap_alloc _ _ _ (by simp)]; exact heap_new w _
  have HR1 := Lib.hid r1
  have HR2 := Lib.hid r2
  have I51 := Lib.hid (show (Tryd.prog.info? 51).map (·.size) = some 4 by kernel_rfl)
  have hWi := fun W => isWithin_calls (cu : Int) 0 63 W
  have hwc : within (cu : Int) 0 63 = true := by simp [within]; omega
  rw [hwc] at hWi
  change Calls _ _ _ _ fun e w' => e = .returned (.bool (validB key l)) ∧ _ at hV0
  have hok' := hok
  unfold validB at hok'
  simp only [Bool.and_eq_true, decide_eq_true_eq] at hok'
  obtain ⟨hks, hch⟩ := hok'
  rw [hok] at hV0
  have HRD := Lib.hid hRd
  have HV := Lib.hid hv
  have HCH := Lib.hid hch
  have HKS := Lib.hid hks
  have HCU := Lib.hid hcu
  clear hv hV r1 r2 hRd hch hks hok hwc hcu
  refine calls_of_wp_marks Tryd.func26 rfl ?_
  simp only [Tryd.ntmps26, List.size_toArray, List.length_cons, List.length_nil, Nat.reduceAdd, Nat.reduceSub, Array.replicate_succ, Array.replicate_zero, List.push_toArray, List.append_toArray, List.nil_append, List.cons_append]
  go_wp2_with fail
  refine hV0.mono ?_
  rintro e w1 ⟨rfl, hb1⟩
  have HH1 := Lib.hid ((hb1.block _ (Array.getElem?_eq_some_iff.1 HR1.out).1).trans HR1.out)
  have HH2 := Lib.hid ((hb1.block _ (Array.getElem?_eq_some_iff.1 HR2.out).1).trans HR2.out)
  have HB1 := Lib.hid (below_then HB.out hb1)
  clear hV0 hb1
  go_wp2_with fail
  refine (hWi w1).mono ?_
  rintro e w2 ⟨rfl, rfl⟩
  clear hWi
  go_wp2_with fail
  refine acc_region w1 w.heap.size cu A n cap key l _ _ _ _ _ _ _ _ _ _ _ _ _ _ _ _ _ _ _ _ _ _ _ _ _ _ _ _ _ _ _ _ _ _ _ _ _ _ _ _ _ _ _ _ _ _ _ _ (by unfold World.cell?; rw [HH1.out]; rfl) (by unfold World.cell?; rw [HH1.out]; rfl) (HV.out.below HB1.out) (okChs_facts HCH.out).1 (by have := HKS.out; omega) (by have := HCU.out; omega) (HRD.out.below HB1.out) ?_
  intro w3 v18 v19 v20 v21 v22 v23 v24 v25 v26 v27 g6 hb3 hg6 hO hz6
  have hsz1 := HB1.out.size
  have hlt1 := (Array.getElem?_eq_some_iff.1 HH2.out).1
  have hh1 := (hb3.block _ (Array.getElem?_eq_some_iff.1 HH1.out).1).trans HH1.out
  have HH12 := Lib.hid ((hb3.block _ (Array.getElem?_eq_some_iff.1 HH2.out).1).trans HH2.out)
  have k0 : (w3.alloc (.cells #[.int .i64 (cu : Int)] 3)).cell? ⟨w.heap.size, 0, none⟩ = some (.string key) := cellA (by unfold World.cell?; rw [hh1]; rfl) _
  have k1 : (w3.alloc (.cells #[.int .i64 (cu : Int)] 3)).cell? ⟨w.heap.size, 1, none⟩ = some (.slice A n cap) := cellA (by unfold World.cell?; rw [hh1]; rfl) _
  have hC42 := rows_calls A n cap key (w3.alloc (.cells #[.int .i64 (cu : Int)] 3))
  have HB3 := Lib.hid (below_then HB1.out hb3)
  have HO := Lib.hid hO
  have HZ6 := Lib.hid hz6
  have HG6 := Lib.hid hg6
  have HS1 := Lib.hid (And.intro hsz1 hlt1)
  have HS3 := Lib.hid hb3.size
  clear hh1 hO hz6 hb3 hg6 hsz1 hlt1
  go_wp2_with fail
  refine hC42.mono ?_
  rintro e w2 ⟨rfl, rfl⟩
  clear hC42 k0 k1
  go_wp2_with fail
  have hz4 : ((w3.alloc (.cells #[.int .i64 (cu : Int)] 3)).alloc (.cells #[.string key, .slice A n cap] 26)).heap[g6]? = some (.cells #[.int .i64 cu, v22, .string (saltH key cu), .slice none 0 0] 51 (0, 0)) := by
    have h := HZ6.out
    have hlt := (Array.getElem?_eq_some_iff.1 h).1
    rw [Below.heap_alloc _ _ _ (by simp; omega), Below.heap_alloc _ _ _ (by omega)]; exact h
  have h7 : Boxed ((w3.alloc (.cells #[.int .i64 (cu : Int)] 3)).alloc (.cells #[.string key, .slice A n cap] 26)) w3.heap.size 3 (.int .i64 (cu : Int)) := (Boxed.new w3 _ _).alloc _
  have hO4 : ((w3.alloc (.cells #[.int .i64 (cu : Int)] 3)).alloc (.cells #[.string key, .slice A n cap] 26)).ownsRow w1.heap.size 30 5 v22 (ofL l cu).length (chCells (ofL l cu)) := (HO.out.alloc _).alloc _
  have h12 : ((w3.alloc (.cells #[.int .i64 (cu : Int)] 3)).alloc (.cells #[.string key, .slice A n cap] 26)).heap[w.heap.size + 1]? = some (.cells #[.int .i64 0, .slice none 0 0, .string ⟨#[]⟩, .slice none 0 0] 51 (0, 0)) := by
    have h := HH12.out
    have hlt := (Array.getElem?_eq_some_iff.1 h).1
    rw [Below.heap_alloc _ _ _ (by simp; omega), Below.heap_alloc _ _ _ (by omega)]; exact h
  have hb26 : ((w3.alloc (.cells #[.int .i64 (cu : Int)] 3)).alloc (.cells #[.string key, .slice A n cap] 26)).heap[w3.heap.size + 1]? = some (.cells #[.string key, .slice A n cap] 26 (0, 0)) := by
    have := heap_new (w3.alloc (.cells #[.int .i64 (cu : Int)] 3)) (.cells #[.string key, .slice A n cap] 26); rwa [World.size_alloc] at this
  have hs4 : ((w3.alloc (.cells #[.int .i64 (cu : Int)] 3)).alloc (.cells #[.string key, .slice A n cap] 26)).heap.size = w3.heap.size + 2 := by simp
  have hb4 : Below w.heap.size w ((w3.alloc (.cells #[.int .i64 (cu : Int)] 3)).alloc (.cells #[.string key, .slice A n cap] 26)) := below_alloc (below_alloc HB3.out _) _
  have hlt6 := (Array.getElem?_eq_some_iff.1 HZ6.out).1
  have hlt22 : ∀ q, v22.ownBlock = some q → q < w3.heap.size := by
    intro q hq
    rcases HO.out.2 with ⟨e, _⟩ | ⟨_, _, _, e, _, hg, _⟩
    · rw [e] at hq; cases hq
    · rw [e] at hq; simp only [Value.ownBlock, Option.some.injEq] at hq; subst hq; exact (Array.getElem?_eq_some_iff.1 hg).1
  have hG6 := HG6.out
  obtain ⟨hS1, hS12⟩ := HS1.out
  have hS3 := HS3.out
  generalize (w3.alloc (.cells #[.int .i64 (cu : Int)] 3)).alloc (.cells #[.string key, .slice A n cap] 26) = w4 at *
  have HB4 := Lib.hid hb4
  clear hb4
  generalize hn3 : w3.heap.size = n3 at *
  have hseq : ∀ o, SeqW Tryd.prog 75 #[.pointer (some ⟨n3 + 1, 0, none⟩)] (fun x : Value => #[x]) (KpR (n3 + 4) [0]) (StR (n3 + 4)) (fun xs => xs.length = 7) (NR key l) ((w4.alloc (.deferred (some []))).alloc (.loop o)) := fun o => by
    have h4 : ((w4.alloc (.deferred (some []))).alloc (.loop o)).heap.size = n3 + 4 := by simp [hs4]
    have hbb : Below w.heap.size w ((w4.alloc (.deferred (some []))).alloc (.loop o)) := below_alloc (below_alloc HB4.out _) _
    have h26 : ((w4.alloc (.deferred (some []))).alloc (.loop o)).heap[n3 + 1]? = some (.cells #[.string key, .slice A n cap] 26 (0, 0)) := by
      rw [Below.heap_alloc _ _ _ (by simp; omega), Below.heap_alloc _ _ _ (by omega)]; exact hb26
    have := rows1_seq (n3 + 1) key A n cap l ((w4.alloc (.deferred (some []))).alloc (.loop o)) (by unfold World.cell?; rw [h26]; rfl) (by unfold World.cell?; rw [h26]; rfl) (HV.out.below hbb) HCH.out (by have := HKS.out; omega) (HRD.out.below hbb)
    rwa [h4] at this
  refine wp_rangeFuncW (gf := 75) (lb := #[.pointer (some ⟨n3 + 1, 0, none⟩)]) rfl (enters_of Tryd.func75 (by kernel_rfl) rfl) hseq (fun h k => h.trans k) ?hkb ?hst (fun _ => rfl)
    (fun xs W => ∃ pv L', W.heap[g6]? = some (.cells #[.int .i64 cu, v22, .string (saltH key cu), pv] 51 (0, 0)) ∧ Boxed W n3 3 (.int .i64 ((cu / 2 ^ xs.length : Nat) : Int)) ∧ Tots w.heap.size W pv L' ∧ L'.map Prod.snd = pathL key l cu (min xs.length 6) ∧
      W.ownsRow w1.heap.size 30 5 v22 (ofL l cu).length (chCells (ofL l cu)) ∧ Rd W ∧ W.heap[w.heap.size + 1]? = some (.cells #[.int .i64 0, .slice none 0 0, .string ⟨#[]⟩, .slice none 0 0] 51 (0, 0)) ∧ Below w.heap.size w W ∧ n3 + 4 ≤ W.heap.size) ?his ?hip ?hNp ?h0 ?a₁ ?assign ?body ?done
  case assign =>
    intro l x W K hK
    gi_wp2
    exact hK
  case hkb =>
    intro W o o' h
    rw [hs4] at h ⊢
    refine KpR.loop (fun k hk => ?_) (by omega)
    simp only [List.mem_cons, List.not_mem_nil, or_false] at hk
    omega
  case hst =>
    intro A B k o hS hk h _
    rw [hS.1.block k (by omega)]; exact h
  case his =>
    rintro s A B hS ⟨pv, L', i1, i2, i3, i4, i5, i6, i7, i8, i9⟩
    refine ⟨pv, L', (hS.1.block _ (by omega)).trans i1, (hS.1.block _ (by omega)).trans i2, i3.keep hS.2, i4, ?_, ?_, (hS.1.block _ (by omega)).trans i7, i8.trans (hS.1.mono (by omega)), Nat.le_trans i9 hS.1.size⟩
    · refine ⟨i5.1, i5.2.imp id ?_⟩
      rintro ⟨q, c, cur, e, h1, h2, h3⟩
      exact ⟨q, c, cur, e, h1, (hS.1.block _ (by have := hlt22 q (by rw [e]; rfl); omega)).trans h2, h3⟩
    · exact i6.of_block (hS.1.block 0 (by omega))
  case hip =>
    rintro s W o o' h ⟨pv, L', i1, i2, i3, i4, i5, i6, i7, i8, i9⟩
    have kt : KeepT [51, 3, 35, 30, 176] W (W.putObj (w4.heap.size + 1) (.loop o')) := KeepT.putObj h
    exact ⟨pv, L', kt _ _ _ _ (by decide) i1, boxed_keep i2 kt (by decide), ⟨ownsRow_keep i3.1 kt (by decide), fun p hp => ownsRow_keep (i3.2 p hp) kt (by decide)⟩, i4, ownsRow_keep i5 kt (by decide), i6.of_block (World.putObj_heap_other (by omega)), kt _ _ _ _ (by decide) i7, i8.trans (below_putLoop (by omega) h), by simpa using i9⟩
  case hNp =>
    intro pre x W o o' h hN
    exact hN.loop h
  case h0 =>
    intro o
    have hbb : Below w.heap.size w ((w4.alloc (.deferred (some []))).alloc (.loop o)) := below_alloc (below_alloc HB4.out _) _
    have hb2 : Below w4.heap.size w4 ((w4.alloc (.deferred (some []))).alloc (.loop o)) := below_alloc (below_one _ _) _
    exact ⟨.slice none 0 0, [], (hb2.block _ (by omega)).trans hz4, by simpa using (h7.alloc _).alloc _, ⟨World.ownsRow_nil _ _ _ _, by simp⟩, rfl, (hO4.alloc _).alloc _, HRD.out.below hbb, (hb2.block _ (by omega)).trans h12, hbb, by simp [hs4]⟩
  case body =>
    rintro lp xs x W ⟨pv, L', i1, i2, i3, i4, i5, i6, i7, i8, i9⟩ hN hW
    obtain ⟨g, c, rfl, _⟩ := id hN
    clear hseq
    rcases Nat.lt_or_ge xs.length 6 with hk6 | hk6
    · have hci : cu / 2 ^ xs.length < 64 := Nat.lt_of_le_of_lt (Nat.div_le_self _ _) HCU.out
      have hci2 : cu / 2 ^ xs.length < 2 ^ (5 - xs.length + 1) := by
        rw [Nat.div_lt_iff_lt_mul (Nat.pos_of_ne_zero (by simp)), ← Nat.pow_add, show 5 - xs.length + 1 + xs.length = 6 by omega]
        exact HCU.out
      have hfl := flip_lt (k := 5 - xs.length) hci
      have hfl2 := hfl.2 hci2
      have hfb := flip_bits _ hci
      rw [show 5 - xs.length + 1 = 6 - xs.length by omega] at hfl2
      obtain ⟨hNN, hr⟩ := hN.range _ hfl2
      obtain ⟨e1, _, _, _⟩ := nodeT_ok key HCH.out xs.length ((cu / 2 ^ xs.length) ^^^ 1)
      have hPS := Lib.hid (pathL_succ key l cu xs.length)
      have hN64 : 2 ^ (6 - xs.length) ≤ 64 := Nat.pow_le_pow_right (n := 2) (j := 6) (by decide) (Nat.sub_le 6 _)
      have hN2 : 2 ≤ 2 ^ (6 - xs.length) := Nat.pow_le_pow_right (n := 2) (i := 1) (j := 6 - xs.length) (by decide) (by omega)
      have hdd : cu / 2 ^ xs.length / 2 = cu / 2 ^ (xs.length + 1) := by rw [Nat.div_div_eq_div_mul, Nat.pow_succ]
      have HDD := Lib.hid hdd
      have HI4 := Lib.hid i4
      have hlL : L'.length = xs.length := by
        have := congrArg List.length i4
        simpa [pathL, Nat.min_eq_left (Nat.le_of_lt hk6)] using this
      generalize hnd : nodeT key l xs.length ((cu / 2 ^ xs.length) ^^^ 1) = nd at *
      generalize hcc : cu / 2 ^ xs.length = ci at *
      have hN1 : (1 : Int) < ((2 ^ (6 - xs.length) : Nat) : Int) := by omega
      generalize 2 ^ (6 - xs.length) = N at *
      have HCC := Lib.hid hcc
      have HND := Lib.hid hnd
      have HI2 := Lib.hid i2
      have HR := Lib.hid hr
      clear hdd i4 hcc hnd hci hci2 hr hN
      rw [hNN] at *
      gi_wp2_with fail
      refine acc_body W w.heap.size g6 n3 g N c L'.length ci ((ci ^^^ 1 : Nat) : Int) nd.1 nd.2 cu v22 pv (saltH key cu) (pthCells L') _ _ _ _ _ _ _ _ _ _ _ _ _ _ _ _ _ _ _ _ _ _ _ _ _ _ _ _ _ _ _ _ _ _ _ _ _ _ _ _ _ _ _ _ _ _ lp _ i1 HI2.out i3.1 hfb (by omega) (by omega) (by omega) (by simpa using HR.out) e1 (by omega) (by omega) ?_
      rintro a' w' g' p' sv ho hsv h6' hb' hk' ⟨u35, u36, u37, u38, u39, u40, u41, u42, u43, u44, u45, rfl⟩
      have h7' : Boxed w' n3 3 (.int .i64 (ci : Int)) := hk' n3 _ (by omega) HI2.out rfl
      have hc7 := h7'.cell
      have hf7 := h7'.frozen
      have HO2 := Lib.hid ho
      have HSV := Lib.hid hsv
      have H6' := Lib.hid h6'
      have HB' := Lib.hid hb'
      have HK' := Lib.hid hk'
      have H7' := Lib.hid h7'
      clear ho hsv h6' hb' hk' h7'
      gi_wp2_with fail
      have hw2 : wrap64 ((ci : Int) / 2) = ((ci / 2 : Nat) : Int) := by
        have h1 : ci ≤ cu := by rw [← HCC.out]; exact Nat.div_le_self _ _
        have h2 := HCU.out
        unfold wrap64; omega
      have HCC2 : Hid (ci / 2 = cu / 2 ^ (xs.length + 1)) := HDD
      refine ⟨(HK'.out.nc i1).setCell _ _, ⟨fun q hq => ?_, fun q o hq hqo hkp => ?_, by rw [World.size_setCell]; exact HB'.out.size⟩, .slice (some ⟨g', 0, none⟩) (L'.length + 1) p', L' ++ [(sv, nd)], ?_, ?_, ⟨?_, ?_⟩, ?_, ?_, ?_, ?_, ?_, ?_⟩
      · simp only [List.mem_cons, List.not_mem_nil, or_false] at hq
        subst hq
        rw [Below.heap_setCell _ _ _ _ (by show 0 ≠ n3; omega)]
        exact HB'.out.block 0 HRD.out.lt
      · rw [Below.heap_setCell _ _ _ _ (by show q ≠ n3; omega)]
        exact HK'.out q o (by omega) hqo (by cases o <;> first | rfl | (simp only [Keepy, decide_eq_true_eq] at hkp; simp [NotT, hkp]))
      · rw [Below.heap_setCell _ _ _ _ (by show g6 ≠ n3; omega)]; exact H6'.out
      · rw [List.length_append, List.length_singleton, ← HCC2.out, ← hw2]
        exact H7'.out.set _
      · rw [List.length_append, List.length_singleton, pthCells_snoc]
        exact ownsRow_keep (ts := [35]) HO2.out ((KeepT.refl _ w').setCell H7'.out (by decide) 0 _) (by decide)
      · intro p hp
        rcases List.mem_append.1 hp with h | h
        · exact Sv.box (OthT.row HK'.out i1 (by decide) (by decide) (i3.2 p h)) H7'.out
        · obtain rfl := List.mem_singleton.1 h
          refine Sv.box ⟨HSV.out.1, HSV.out.2.imp id ?_⟩ H7'.out
          rintro ⟨q, c2, cur, e, h1, h2⟩
          exact ⟨q, c2, cur, e, Nat.le_trans i8.size h1, h2⟩
      · rw [List.map_append, HI4.out, List.length_append, List.length_singleton, Nat.min_eq_left (Nat.le_of_lt hk6), Nat.min_eq_left (show xs.length + 1 ≤ 6 by omega), hPS.out]; rfl
      · exact ownsRow_keep (ts := [30]) (OthT.row HK'.out i1 (by decide) (by decide) i5) ((KeepT.refl _ w').setCell H7'.out (by decide) 0 _) (by decide)
      · exact i6.of_block ((Below.heap_setCell _ _ _ _ (by show 0 ≠ n3; omega)).trans (HB'.out.block 0 HRD.out.lt))
      · rw [Below.heap_setCell _ _ _ _ (by show w.heap.size + 1 ≠ n3; omega)]
        exact HK'.out _ _ (by omega) i7 rfl
      · exact (i8.trans HB'.out).setCell (p := ⟨n3, 0, none⟩) (by show w.heap.size ≤ n3; omega) _
      · rw [World.size_setCell]; exact Nat.le_trans i9 HB'.out.size
    · obtain ⟨hNN, _⟩ := hN.range 0 (Nat.pos_of_ne_zero (by simp))
      rw [show 6 - xs.length = 0 by omega, Nat.pow_zero] at hNN
      have hc7 := i2.cell
      have hf7 := i2.frozen
      have hdd : cu / 2 ^ xs.length / 2 = cu / 2 ^ (xs.length + 1) := by rw [Nat.div_div_eq_div_mul, Nat.pow_succ]
      have hle : cu / 2 ^ xs.length ≤ cu := Nat.div_le_self _ _
      have HI2 := Lib.hid i2
      rw [show 6 - xs.length = 0 by omega, Nat.pow_zero] at *
      generalize hcc : cu / 2 ^ xs.length = ci at *
      have HCC2 := Lib.hid hdd
      have HLE := Lib.hid hle
      clear hNN hN hcc hdd hle i2
      gi_wp2_with fail
      have hw2 : wrap64 ((ci : Int) / 2) = ((ci / 2 : Nat) : Int) := by
        have h1 := HLE.out
        have h2 := HCU.out
        unfold wrap64; omega
      refine ⟨(KeepNC.refl W).setCell _ _, ⟨fun q hq => ?_, fun q o hq hqo hkp => ?_, by rw [World.size_setCell]; exact Nat.le_refl _⟩, pv, L', ?_, ?_, ⟨?_, ?_⟩, ?_, ?_, ?_, ?_, ?_, ?_⟩
      · simp only [List.mem_cons, List.not_mem_nil, or_false] at hq
        subst hq
        exact Below.heap_setCell _ _ _ _ (by show 0 ≠ n3; omega)
      · rw [Below.heap_setCell _ _ _ _ (by show q ≠ n3; omega)]; exact hqo
      · rw [Below.heap_setCell _ _ _ _ (by show g6 ≠ n3; omega)]; exact i1
      · rw [List.length_append, List.length_singleton, ← HCC2.out, ← hw2]
        exact HI2.out.set _
      · exact ownsRow_keep (ts := [35]) i3.1 ((KeepT.refl _ W).setCell HI2.out (by decide) 0 _) (by decide)
      · intro p hp
        exact Sv.box (i3.2 p hp) HI2.out
      · rw [i4, List.length_append, List.length_singleton, Nat.min_eq_right hk6, Nat.min_eq_right (show 6 ≤ xs.length + 1 by omega)]
      · exact ownsRow_keep (ts := [30]) i5 ((KeepT.refl _ W).setCell HI2.out (by decide) 0 _) (by decide)
      · exact i6.of_block (Below.heap_setCell _ _ _ _ (by show 0 ≠ n3; omega))
      · rw [Below.heap_setCell _ _ _ _ (by show w.heap.size + 1 ≠ n3; omega)]; exact i7
      · exact i8.setCell (p := ⟨n3, 0, none⟩) (by show w.heap.size ≤ n3; omega) _
      · rw [World.size_setCell]; exact i9
  case done =>
    rintro xs W hS ⟨pv, L', i1, i2, i3, i4, i5, i6, i7, i8, i9⟩ hd
    rw [hs4] at hd ⊢
    have hp1 : pv.oneCell' = true := by
      rcases i3.1.2 with ⟨rfl, _⟩ | ⟨_, _, _, rfl, _⟩ <;> rfl
    have hp2 : v22.oneCell' = true := by
      rcases i5.2 with ⟨e, _⟩ | ⟨_, _, _, e, _⟩ <;> rw [e] <;> rfl
    have H1 := Lib.hid i1
    have H3 := Lib.hid i3
    have H4 := Lib.hid i4
    have H5 := Lib.hid i5
    have H7 := Lib.hid i7
    have H8 := Lib.hid i8
    have HD := Lib.hid hd
    have HSX := Lib.hid hS
    clear hseq i1 i2 i3 i4 i5 i6 i7 i8 hd hS hz4 h7 hO4 h12 hb26
    go_wp2_with (first | (refine wpList_load_row rfl 51 (.tmp 6) rfl g6 rfl 51 _ (0, 0) _ H1.out Tryd.underlying51 rfl I51.out ?_) | (refine wpList_store_row rfl 51 (.tmp 4) (.tmp 48) rfl (w.heap.size + 1) rfl 51 _ _ rfl H7.out I51.out rfl (by simp [hp1, hp2]; simp [Value.oneCell']) ?_))
    have hd2 : (W.setRow (w.heap.size + 1) #[.int .i64 cu, v22, .string (saltH key cu), pv]).heap[n3 + 2]? = some (.deferred (some [])) := by
      rw [setRow_other _ _ _ _ (by omega)]; exact HD.out
    refine ⟨by simp, .inl ⟨_, _, rfl, run_takeDeferred hd2, ?_⟩⟩
    have hkt : KeepT [30, 35, 3] W ((W.setRow (w.heap.size + 1) #[.int .i64 cu, v22, .string (saltH key cu), pv]).putObj (n3 + 2) (.deferred none)) := by
      intro q cs t f ht hq
      rw [World.putObj_heap_other (by rintro rfl; rw [HD.out] at hq; cases hq), setRow_other _ _ _ _ (by rintro rfl; rw [H7.out] at hq; cases hq; simp at ht)]
      exact hq
    refine ⟨_, results_row_tmp rfl _ _ (w.heap.size + 1) 51 #[.int .i64 cu, v22, .string (saltH key cu), pv] (0, 0) _ rfl ?_ Tryd.underlying51 rfl I51.out, v22, pv, L', rfl, ?_, ?_, ?_, ?_⟩
    · rw [World.putObj_heap_other (by omega)]; exact setRow_heap W (w.heap.size + 1) _ _ 51 (0, 0) H7.out
    · have h := ownsRow_keep (ts := [30, 35, 3]) H5.out hkt (by decide)
      refine ⟨h.1, h.2.imp id ?_⟩
      rintro ⟨q, c2, cur, e, h1, h2⟩
      exact ⟨q, c2, cur, e, by omega, h2⟩
    · exact ⟨ownsRow_keep (ts := [30, 35, 3]) H3.out.1 hkt (by decide), fun p hp => ownsRow_keep (ts := [30, 35, 3]) (H3.out.2 p hp) hkt (by decide)⟩
    · rw [H4.out, HSX.out]; rfl
    · exact (below_setRow H8.out (Nat.le_succ _) _).trans ⟨rfl, rfl, rfl, by simp, fun k hk => World.putObj_heap_other (by omega)⟩

end Go.Proofs.YthohfbeelepkmaaDoor
