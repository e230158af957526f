/- audit.Seal. -/
import Derived.Test.YthohfbeelepkmaaDoorC5
import Derived.Test.YthohfbeelepkmaaDoorA23
namespace Go.Proofs.YthohfbeelepkmaaDoor
open Go.RowKit Go.Shelf
attribute [local go_sem] Oper.semAt_some

def validB (key : ByteArray) (l : List Ch) : Bool := decide (key.size = 32) && okChs l
def rootT (key : ByteArray) (l : List Ch) : TT := nodeT key l 6 0

set_option maxHeartbeats 1000000 in
set_option maxRecDepth 100000 in
theorem Seal_not (key : ByteArray) (A : Option Addr) (n cap : Nat) (l : List Ch) (w : World) (hv : Chs w (.slice A n cap) l) (hok : validB key l = false) :
    Calls Tryd.prog 15 #[.agg #[.string key, .slice A n cap]] w fun e w' => e = .returned (.tuple #[.agg #[.slice none 0 0, .string ⟨#[]⟩], .int .i64 400]) ∧ Below w.heap.size w w' := by
  have hV := fun W (hb : Below w.heap.size w W) => Valid_calls key (.slice A n cap) l W (hv.below hb)
  unfold validB at hok
  rw [hok] at hV
  have hV0 := hV ((w.alloc (.cells #[.string key, .slice A n cap] 26)).alloc (.cells #[.slice none 0 0, .string ⟨#[]⟩] 35)) (below_alloc (below_one w _) _)
  have HB := Lib.hid (below_alloc (below_one w (.cells #[.string key, .slice A n cap] 26)) (.cells #[.slice none 0 0, .string ⟨#[]⟩] 35))
  have r2 : ((w.alloc (.cells #[.string key, .slice A n cap] 26)).alloc (.cells #[.slice none 0 0, .string ⟨#[]⟩] 35)).heap[w.heap.size + 1]? = some (.cells #[.slice none 0 0, .string ⟨#[]⟩] 35 (0, 0)) := by
    have := heap_new (w.alloc (.cells #[.string key, .slice A n cap] 26)) (.cells #[.slice none 0 0, .string ⟨#[]⟩] 35); rwa [World.size_alloc] at this
  have HR2 := Lib.hid r2
  have I35 := Lib.hid (show (Tryd.prog.info? 35).map (·.size) = some 2 by kernel_rfl)
  clear hv hV hok r2
  refine calls_of_wp_marks Tryd.func15 rfl ?_
  simp only [Tryd.ntmps15, List.size_toArray, List.length_cons, List.length_nil, Nat.reduceAdd, Nat.reduceSub, Array.replicate_succ, Array.replicate_zero, List.push_toArray, List.append_toArray, List.nil_append, List.cons_append]
  go_wp2_with fail
  refine hV0.mono ?_
  rintro e w1 ⟨rfl, hb1⟩
  have hr := (hb1.block _ (Array.getElem?_eq_some_iff.1 HR2.out).1).trans HR2.out
  have HH := Lib.hid hr
  have HB1 := Lib.hid (below_then HB.out hb1)
  clear hV0 hb1 hr
  go_wp2_with (refine wpList_store_row rfl 35 (.tmp 2) (.tmp 9) rfl (w.heap.size + 1) rfl 35 _ _ rfl HH.out I35.out rfl (by simp [Value.oneCell']) ?_)
  refine ⟨_, results_row_tmp rfl _ _ (w.heap.size + 1) 35 _ (0, 0) _ rfl (setRow_heap w1 (w.heap.size + 1) _ _ 35 (0, 0) HH.out) Tryd.underlying35 rfl I35.out, rfl, below_setRow HB1.out (Nat.le_succ _) _⟩

/-- A slice reads the same where a loop's record is put. -/
theorem Sl.loop {W : World} {v : Value} {k r : Nat} {L : List (List Value)} {o o' : Loop} (h : Sl W v k L) (hr : W.heap[r]? = some (.loop o)) : Sl (W.putObj r (.loop o')) v k L := by
  obtain ⟨h1, h2, A, cap, hv, hc, h3⟩ := h
  refine ⟨h1, h2, A, cap, hv, hc, fun hp => ?_⟩
  obtain ⟨b, off, e, hlt, hcell⟩ := h3 hp
  refine ⟨b, off, e, by simpa using hlt, fun j i x y hx hy => ?_⟩
  have := hcell j i x y hx hy
  by_cases hb : b = r
  · subst hb; simp [World.cell?, hr] at this
  · simp only [World.cell?, World.putObj_heap_other hb] at this ⊢; exact this
theorem NR.loop {key : ByteArray} {l : List Ch} {pre : List Value} {x : Value} {W : World} {r : Nat} {o o' : Loop} (h : NR key l pre x W) (hr : W.heap[r]? = some (.loop o)) : NR key l pre x (W.putObj r (.loop o')) := by
  obtain ⟨g, c, e, hs⟩ := h
  exact ⟨g, c, e, hs.loop hr⟩
/-- A total of a row, where it lies. -/
theorem NR.range {key : ByteArray} {l : List Ch} {pre : List Value} {g N c : Nat} {W : World} (h : NR key l pre (.slice (some ⟨g, 0, none⟩) N c) W) (j : Nat) (hj : j < 2 ^ (6 - pre.length)) :
    N = 2 ^ (6 - pre.length) ∧ W.rangeAt g (j * 9) (totC (nodeT key l pre.length j).1 (nodeT key l pre.length j).2) := by
  obtain ⟨g', c', e, _, _, A, cap, e2, _, h3⟩ := h
  simp only [Value.slice.injEq] at e
  obtain ⟨_, rfl, rfl⟩ := e
  simp only [Value.slice.injEq] at e2
  obtain ⟨rfl, _, _⟩ := e2
  obtain ⟨b, off, e, _, hc⟩ := h3 (by simp only [List.length_map, levelT, List.length_range]; exact Nat.pos_of_ne_zero (by simp))
  simp only [Option.some.injEq, Addr.mk.injEq] at e
  obtain ⟨rfl, rfl, _⟩ := e
  refine ⟨rfl, fun i x hx => ?_⟩
  have := hc j i _ x (by simp only [levelT, List.getElem?_map]; rw [List.getElem?_range hj]; rfl) hx
  rwa [Nat.zero_add] at this
theorem KpR.loop {n r : Nat} {bs : List Nat} {W : World} {o' : Loop} (hb : ∀ k ∈ bs, k ≠ r) (hr : r < n) : KpR n bs W (W.putObj r (.loop o')) :=
  ⟨fun k hk => World.putObj_heap_other (hb k hk), fun k o hn ho _ => by rw [World.putObj_heap_other (by omega)]; exact ho, by simp⟩
theorem Chs.blk {w : World} {A : Option Addr} {n cap : Nat} {l : List Ch} (h : Chs w (.slice A n cap) l) (hl : 0 < l.length) : blkOf A < w.heap.size := by
  obtain ⟨_, _, A', cap', e, _, h3⟩ := h
  simp only [Value.slice.injEq] at e
  obtain ⟨rfl, _, _⟩ := e
  obtain ⟨b, off, rfl, hb, _⟩ := h3 (by simpa using hl)
  exact hb

/-- Where the blocks that hold a number lie as they lay, slices of numbers read the same. -/
theorem Ints.move {W W' : World} {v : Value} {q : IntKind} {l : List Int} (h : Ints W v q l) (hk : ∀ (k : Nat) (cs : Array Value) (t : TypeId) (f : Nat × Nat) (i : Nat) (x : Int), W.heap[k]? = some (.cells cs t f) → cs[i]? = some (.int q x) → W'.heap[k]? = some (.cells cs t f)) : Ints W' v q l := by
  obtain ⟨h1, h2, A, cap, hv, hc, h3⟩ := h
  refine ⟨h1, h2, A, cap, hv, hc, fun hp => ?_⟩
  obtain ⟨b, off, e, hlt, hcell⟩ := h3 hp
  have hb : ∀ (j i : Nat) (x : List Value) (y : Value), (l.map fun n => [Value.int q n])[j]? = some x → x[i]? = some y → ∃ cs t f, W.heap[b]? = some (.cells cs t f) ∧ W'.heap[b]? = some (.cells cs t f) := by
    intro j i x y hx hy
    have hc := hcell j i x y hx hy
    simp only [List.getElem?_map, Option.map_eq_some_iff] at hx
    obtain ⟨m, _, rfl⟩ := hx
    have hi : i = 0 := by
      cases i with
      | zero => rfl
      | succ i => simp at hy
    subst hi
    simp only [List.getElem?_cons_zero, Option.some.injEq] at hy
    subst hy
    cases ho : W.heap[b]? with
    | none => simp [World.cell?, ho] at hc
    | some o =>
      cases o with
      | cells cs t f =>
        simp [World.cell?, ho] at hc
        exact ⟨cs, t, f, rfl, hk b cs t f _ m ho hc⟩
      | _ => simp [World.cell?, ho] at hc
  have hl : 0 < l.length := by simpa using hp
  obtain ⟨cs, t, f, e1, e2⟩ := hb 0 0 [.int q l[0]] (.int q l[0]) (by simp [hl]) rfl
  refine ⟨b, off, e, (Array.getElem?_eq_some_iff.1 e2).1, fun j i x y hx hy => ?_⟩
  have := hcell j i x y hx hy
  simp only [World.cell?, e1, e2] at this ⊢
  exact this
theorem KeepNC.setRow {W : World} {g : Nat} {cs : Array Value} {t : TypeId} {f : Nat × Nat} (h : W.heap[g]? = some (.cells cs t f)) (c : Array Value) : KeepNC W (W.setRow g c) := by
  intro k o ho hn
  rw [setRow_other _ _ _ _ (by rintro rfl; rw [h] at ho; cases ho; cases hn)]
  exact ho

/-- A row of the call's own, from an elder base on. -/
theorem ownsRow_low {W : World} {b b' e s n : Nat} {v : Value} {xs : List Value} (h : W.ownsRow b e s v n xs) (hb : b' ≤ b) : W.ownsRow b' e s v n xs := by
  refine ⟨h.1, ?_⟩
  rcases h.2 with h | ⟨g, cap, cur, hv, hg, r⟩
  · exact .inl h
  · exact .inr ⟨g, cap, cur, hv, Nat.le_trans hb hg, r⟩
theorem ownsRow_move {W W' : World} {b e s n : Nat} {v : Value} {xs : List Value} (h : W.ownsRow b e s v n xs) (hm : ∀ (k : Nat) (c : Array Value), W.heap[k]? = some (Obj.cells c e (0, 0)) → W'.heap[k]? = W.heap[k]?) : W'.ownsRow b e s v n xs := by
  refine ⟨h.1, ?_⟩
  rcases h.2 with h | ⟨g, cap, cur, hv, hg, hh, r⟩
  · exact .inl h
  · exact .inr ⟨g, cap, cur, hv, hg, (hm g cur hh).trans hh, r⟩

set_option maxHeartbeats 2000000 in
set_option maxRecDepth 100000 in
theorem Seal_own (key : ByteArray) (A : Option Addr) (n cap : Nat) (l : List Ch) (w : World) (hv : Chs w (.slice A n cap) l) (hok : validB key l = true) (hRd : Rd w) :
    Calls Tryd.prog 15 #[.agg #[.string key, .slice A n cap]] w fun e w' => ∃ v, e = .returned (.tuple #[.agg #[v, .string (rootT key l).2], .int .i64 0]) ∧ Ints w' v .i64 (rootT key l).1 ∧ (∃ g c, v = .slice (some ⟨g, 0, none⟩) 8 c) ∧ w'.ownsRow w.heap.size 3 1 v 8 ((rootT key l).1.map fun n => .int .i64 n) ∧ Below w.heap.size w w' := by
  have hV := fun W (hb : Below w.heap.size w W) => Valid_calls key (.slice A n cap) l W (hv.below hb)
  have hok' := hok
  unfold validB at hok'
  rw [hok'] at hV
  simp only [Bool.and_eq_true, decide_eq_true_eq] at hok'
  obtain ⟨hks, hch⟩ := hok'
  have hV0 := hV ((w.alloc (.cells #[.string key, .slice A n cap] 26)).alloc (.cells #[.slice none 0 0, .string ⟨#[]⟩] 35)) (below_alloc (below_one w _) _)
  have HB := Lib.hid (below_alloc (below_one w (.cells #[.string key, .slice A n cap] 26)) (.cells #[.slice none 0 0, .string ⟨#[]⟩] 35))
  have r2 : ((w.alloc (.cells #[.string key, .slice A n cap] 26)).alloc (.cells #[.slice none 0 0, .string ⟨#[]⟩] 35)).heap[w.heap.size + 1]? = some (.cells #[.slice none 0 0, .string ⟨#[]⟩] 35 (0, 0)) := by
    have := heap_new (w.alloc (.cells #[.string key, .slice A n cap] 26)) (.cells #[.slice none 0 0, .string ⟨#[]⟩] 35); rwa [World.size_alloc] at this
  have r1 : ((w.alloc (.cells #[.string key, .slice A n cap] 26)).alloc (.cells #[.slice none 0 0, .string ⟨#[]⟩] 35)).heap[w.heap.size]? = some (.cells #[.string key, .slice A n cap] 26 (0, 0)) := by
    rw [Below.heap_alloc _ _ _ (by simp)]; exact heap_new w _
  have HR1 := Lib.hid r1
  have HR2 := Lib.hid r2
  have I35 := Lib.hid (show (Tryd.prog.info? 35).map (·.size) = some 2 by kernel_rfl)
  have I81 := Lib.hid (show (Tryd.prog.info? 81).map (·.size) = some 9 by kernel_rfl)
  have HRD := Lib.hid hRd
  have HV := Lib.hid hv
  have HCH := Lib.hid hch
  have HKS := Lib.hid hks
  clear hv hV hok r1 r2 hRd hch hks
  refine calls_of_wp_marks Tryd.func15 rfl ?_
  simp only [Tryd.ntmps15, List.size_toArray, List.length_cons, List.length_nil, Nat.reduceAdd, Nat.reduceSub, Array.replicate_succ, Array.replicate_zero, List.push_toArray, List.append_toArray, List.nil_append, List.cons_append]
  go_wp2_with fail
  refine hV0.mono ?_
  rintro e w1 ⟨rfl, hb1⟩
  have hr1 := (hb1.block _ (Array.getElem?_eq_some_iff.1 HR1.out).1).trans HR1.out
  have HH1 := Lib.hid hr1
  have HH2 := Lib.hid ((hb1.block _ (Array.getElem?_eq_some_iff.1 HR2.out).1).trans HR2.out)
  have HB1 := Lib.hid (below_then HB.out hb1)
  clear hV0 hb1
  have k0 : (w1.alloc (.cells #[.int .i64 0, .int .i64 0, .int .i64 0, .int .i64 0, .int .i64 0, .int .i64 0, .int .i64 0, .int .i64 0, .string ⟨#[]⟩] 81)).cell? ⟨w.heap.size, 0, none⟩ = some (.string key) := cellA (by unfold World.cell?; rw [hr1]; rfl) _
  have k1 : (w1.alloc (.cells #[.int .i64 0, .int .i64 0, .int .i64 0, .int .i64 0, .int .i64 0, .int .i64 0, .int .i64 0, .int .i64 0, .string ⟨#[]⟩] 81)).cell? ⟨w.heap.size, 1, none⟩ = some (.slice A n cap) := cellA (by unfold World.cell?; rw [hr1]; rfl) _
  have hC42 := rows_calls A n cap key (w1.alloc (.cells #[.int .i64 0, .int .i64 0, .int .i64 0, .int .i64 0, .int .i64 0, .int .i64 0, .int .i64 0, .int .i64 0, .string ⟨#[]⟩] 81))
  clear hr1
  go_wp2_with fail
  refine hC42.mono ?_
  rintro e w2 ⟨rfl, rfl⟩
  clear hC42 k0 k1
  go_wp2_with fail
  generalize hw2 : (w1.alloc (.cells #[.int .i64 0, .int .i64 0, .int .i64 0, .int .i64 0, .int .i64 0, .int .i64 0, .int .i64 0, .int .i64 0, .string ⟨#[]⟩] 81)).alloc (.cells #[.string key, .slice A n cap] 26) = w2 at *
  obtain ⟨g4, hg4⟩ : ∃ g4, g4 = w1.heap.size := ⟨_, rfl⟩
  have hT : Tot w2 g4 (List.replicate 8 0) ⟨#[]⟩ := by
    rw [← hw2, hg4]; unfold Tot; rw [Below.heap_alloc _ _ _ (by simp)]; exact heap_new w1 _
  have hb26 : w2.heap[g4 + 1]? = some (.cells #[.string key, .slice A n cap] 26 (0, 0)) := by
    rw [← hw2, hg4]; have := heap_new (w1.alloc (.cells #[.int .i64 0, .int .i64 0, .int .i64 0, .int .i64 0, .int .i64 0, .int .i64 0, .int .i64 0, .int .i64 0, .string ⟨#[]⟩] 81)) (.cells #[.string key, .slice A n cap] 26); rwa [World.size_alloc] at this
  have hb2 : Below w1.heap.size w1 w2 := by rw [← hw2]; exact below_alloc (below_one w1 _) _
  have hs2 : w2.heap.size = g4 + 2 := by rw [← hw2, hg4]; simp
  have hs1 := HB1.out.size
  have hz2 : w2.heap[w.heap.size + 1]? = some (.cells #[.slice none 0 0, .string ⟨#[]⟩] 35 (0, 0)) := (hb2.block _ (Array.getElem?_eq_some_iff.1 HH2.out).1).trans HH2.out
  have hlt35 : w.heap.size + 1 < g4 := by rw [hg4]; exact (Array.getElem?_eq_some_iff.1 HH2.out).1
  have hbw : Below w.heap.size w w2 := below_then HB1.out hb2
  rw [← hg4]
  have HB2 := Lib.hid hbw
  clear hw2 hb2 hs1 hg4 hbw
  have hseq : ∀ o, SeqW Tryd.prog 75 #[.pointer (some ⟨g4 + 1, 0, none⟩)] (fun x : Value => #[x]) (KpR (g4 + 4) [0]) (StR (g4 + 4)) (fun xs => xs.length = 7) (NR key l) ((w2.alloc (.deferred (some []))).alloc (.loop o)) := fun o => by
    have h4 : ((w2.alloc (.deferred (some []))).alloc (.loop o)).heap.size = g4 + 4 := by simp [hs2]
    have hbb : Below w.heap.size w ((w2.alloc (.deferred (some []))).alloc (.loop o)) := below_alloc (below_alloc HB2.out _) _
    have h26 : ((w2.alloc (.deferred (some []))).alloc (.loop o)).heap[g4 + 1]? = some (.cells #[.string key, .slice A n cap] 26 (0, 0)) := by
      rw [Below.heap_alloc _ _ _ (by simp; omega), Below.heap_alloc _ _ _ (by omega)]; exact hb26
    have := rows1_seq (g4 + 1) key A n cap l ((w2.alloc (.deferred (some []))).alloc (.loop o)) (by unfold World.cell?; rw [h26]; rfl) (by unfold World.cell?; rw [h26]; rfl) (HV.out.below hbb) HCH.out (by have := HKS.out; omega) (HRD.out.below hbb)
    rwa [h4] at this
  have hn0 : 0 < g4 := by omega
  refine wp_rangeFuncW (gf := 75) (lb := #[.pointer (some ⟨g4 + 1, 0, none⟩)]) rfl (enters_of Tryd.func75 (by kernel_rfl) rfl) hseq (fun h k => h.trans k) ?hkb ?hst (fun _ => rfl)
    (fun xs W => (∃ t : TT, Tot W g4 t.1 t.2 ∧ t.1.length = 8 ∧ ∀ k, xs.length = k + 1 → t = nodeT key l k 0) ∧ W.heap[w.heap.size + 1]? = some (.cells #[.slice none 0 0, .string ⟨#[]⟩] 35 (0, 0)) ∧ Below w.heap.size w W ∧ g4 + 4 ≤ W.heap.size) ?his ?hip ?hNp ?h0 ?a₁ ?assign ?body ?done
  case assign =>
    intro l x W K hK
    gi_wp2
    exact hK
  case hkb =>
    intro W o o' h
    rw [hs2] at h ⊢
    refine KpR.loop (fun k hk => ?_) (by omega)
    simp only [List.mem_cons, List.not_mem_nil, or_false] at hk
    omega
  case hst =>
    intro A B k o hS hk h _
    rw [hS.1.block k (by omega)]; exact h
  case his =>
    rintro s A B hS ⟨⟨t, h1, h2, h3⟩, h4, h5, h6⟩
    exact ⟨⟨t, (hS.1.block _ (by omega)).trans h1, h2, h3⟩, (hS.1.block _ (by omega)).trans h4, h5.trans (hS.1.mono (by omega)), Nat.le_trans h6 hS.1.size⟩
  case hip =>
    rintro s W o o' h ⟨⟨t, h1, h2, h3⟩, h4, h5, h6⟩
    rw [hs2] at h ⊢
    exact ⟨⟨t, (World.putObj_heap_other (by omega)).trans h1, h2, h3⟩, (World.putObj_heap_other (by omega)).trans h4, h5.trans (below_putLoop (by omega) h), by simpa using h6⟩
  case hNp =>
    intro pre x W o o' h hN
    exact hN.loop h
  case h0 =>
    intro o
    have hbb : Below w.heap.size w ((w2.alloc (.deferred (some []))).alloc (.loop o)) := below_alloc (below_alloc HB2.out _) _
    have hb2 : Below w2.heap.size w2 ((w2.alloc (.deferred (some []))).alloc (.loop o)) := below_alloc (below_one _ _) _
    exact ⟨⟨(List.replicate 8 0, ⟨#[]⟩), (hb2.block _ (by omega)).trans hT, rfl, by simp⟩, (hb2.block _ (by omega)).trans hz2, hbb, by simp [hs2]⟩
  case body =>
    rintro lp xs x W ⟨⟨t, h1, h2, h3⟩, h4, h5, h6⟩ hN hW
    obtain ⟨g, c, rfl, _⟩ := id hN
    obtain ⟨_, hr⟩ := hN.range 0 (Nat.pos_of_ne_zero (by simp))
    obtain ⟨t1, t2⟩ := t
    have h8 := (nodeT_ok key HCH.out xs.length 0).1
    generalize hnd : nodeT key l xs.length 0 = nd at *
    have HND := Lib.hid hnd
    have HN1 : 1 ≤ 2 ^ (6 - xs.length) := Nat.one_le_two_pow
    generalize 2 ^ (6 - xs.length) = N at *
    have hsz1 : (totC t1 t2).toArray.size = 9 := by simp [totC, h2]
    have hsz2 : (totC nd.1 nd.2).toArray.size = 9 := by simp [totC, h8]
    have hone : (totC nd.1 nd.2).toArray.all (·.oneCell') = true := by simp [totC, Value.oneCell']
    rw [Nat.zero_mul] at hr
    clear hnd hseq
    gi_wp2_with (first | (refine wpListIn_plain rfl fun K hK => oper_in _ _ (by intro c h; cases h) ?_; refine wp_load_mid 81 (.tmp 14) rfl g 0 rfl (totC nd.1 nd.2) _ hr Tryd.underlying81 rfl (I81.out.trans (by simpa using hsz2.symm)) ?_; refine hK _ _ ?_) | (refine wpListIn_plain rfl fun K hK => oper_in _ _ (by intro c h; cases h) ?_; refine wp_store_row' 81 (.tmp 4) (.tmp 15) rfl g4 rfl 81 _ (totC nd.1 nd.2).toArray rfl h1 (I81.out.trans (by rw [hsz2])) (by rw [hsz1, hsz2]) hone ?_; refine hK _ _ ?_))
    refine ⟨KeepNC.setRow h1 _, ⟨fun k hk => ?_, fun k o hk ho _ => ?_, by rw [setRow_size]; exact Nat.le_refl _⟩, ⟨nd.1, nd.2, setRow_heap W g4 _ _ 81 (0, 0) h1, h8, fun k hk => ?_⟩, ?_, ?_, by rw [setRow_size]; exact h6⟩
    · simp only [List.mem_cons, List.not_mem_nil, or_false] at hk
      subst hk
      exact setRow_other _ _ _ _ (by omega)
    · rw [setRow_other _ _ _ _ (by omega)]; exact ho
    · rw [List.length_append, List.length_singleton] at hk
      obtain rfl : xs.length = k := by omega
      exact HND.out.symm
    · rw [setRow_other _ _ _ _ (by omega)]; exact h4
    · exact below_setRow h5 (by omega) _
  case done =>
    rintro xs W hS ⟨⟨t, h1, h2, h3⟩, h4, h5, h6⟩ hd
    obtain rfl := h3 6 hS
    have hH := Lib.hid hd
    rw [hs2] at hd ⊢
    have hsh := shown_calls (nodeT key l 6 0).1 (nodeT key l 6 0).2 W h2
    have hW : W.heap[g4]? = some (.cells (totC (nodeT key l 6 0).1 (nodeT key l 6 0).2).toArray 81 (0, 0)) := h1
    have hsz : (totC (nodeT key l 6 0).1 (nodeT key l 6 0).2).toArray.size = 9 := by simp [totC, h2]
    generalize (totC (nodeT key l 6 0).1 (nodeT key l 6 0).2).toArray = X at hW hsz hsh
    have HW := Lib.hid hW
    clear hW
    clear h1 hseq hT hb26
    go_wp2_with (first | (refine wpList_load_row rfl 81 (.tmp 4) rfl g4 rfl 81 _ (0, 0) _ HW.out Tryd.underlying81 rfl (I81.out.trans (by rw [hsz])) ?_) | fail)
    refine hsh.mono ?_
    rintro e w3 ⟨v, rfl, hI, hsl, hown, hb3⟩
    have HOWN := Lib.hid (ownsRow_low hown h5.size)
    clear hown
    have hz3 := (hb3.block _ (Array.getElem?_eq_some_iff.1 h4).1).trans h4
    have hd3 := (hb3.block _ (Array.getElem?_eq_some_iff.1 hd).1).trans hd
    have HZ3 := Lib.hid hz3
    have HD3 := Lib.hid hd3
    have HB3 := Lib.hid (below_then h5 hb3)
    have HI := Lib.hid hI
    have HSL := Lib.hid hsl
    clear hz3 hd3 hI hsl hb3 hsh h4 h5 hd
    go_wp2_with (refine wpList_store_row rfl 35 (.tmp 2) (.tmp 17) rfl (w.heap.size + 1) rfl 35 _ _ rfl HZ3.out I35.out rfl (by obtain ⟨g5, c5, rfl⟩ := HSL.out; simp [Value.oneCell']) ?_)
    refine ⟨by simp, .inl ⟨_, _, rfl, run_takeDeferred (by rw [setRow_other _ _ _ _ (by omega)]; exact HD3.out), ?_⟩⟩
    refine ⟨_, results_row_tmp rfl _ _ (w.heap.size + 1) 35 #[v, .string (nodeT key l 6 0).2] (0, 0) _ rfl ?_ Tryd.underlying35 rfl I35.out, v, rfl, ?_, HSL.out, ?_, ?_⟩
    · rw [World.putObj_heap_other (by omega)]; exact setRow_heap w3 (w.heap.size + 1) _ _ 35 (0, 0) HZ3.out
    · refine HI.out.move fun k cs t f i x hk hx => ?_
      rw [World.putObj_heap_other (by rintro rfl; rw [HD3.out] at hk; cases hk), setRow_other _ _ _ _ (by rintro rfl; rw [HZ3.out] at hk; cases hk; revert hx; rcases i with _ | _ | i <;> simp)]
      exact hk
    · refine ownsRow_move HOWN.out fun k c hk => ?_
      rw [World.putObj_heap_other (by rintro rfl; rw [HD3.out] at hk; cases hk), setRow_other _ _ _ _ (by rintro rfl; rw [HZ3.out] at hk; cases hk)]
    · refine (below_setRow HB3.out (Nat.le_succ _) _).trans ⟨rfl, rfl, rfl, by simp, fun k hk => World.putObj_heap_other (by omega)⟩

theorem Seal_calls (key : ByteArray) (A : Option Addr) (n cap : Nat) (l : List Ch) (w : World) (hv : Chs w (.slice A n cap) l) (hok : validB key l = true) (hRd : Rd w) :
    Calls Tryd.prog 15 #[.agg #[.string key, .slice A n cap]] w fun e w' => ∃ v, e = .returned (.tuple #[.agg #[v, .string (rootT key l).2], .int .i64 0]) ∧ Ints w' v .i64 (rootT key l).1 ∧ (∃ g c, v = .slice (some ⟨g, 0, none⟩) 8 c) ∧ Below w.heap.size w w' :=
  (Seal_own key A n cap l w hv hok hRd).mono fun _ _ ⟨v, h1, h2, h3, _, h4⟩ => ⟨v, h1, h2, h3, h4⟩

end Go.Proofs.YthohfbeelepkmaaDoor

/- audit.Account: the account's head: customer, charges, salt. -/
namespace Go.Proofs.YthohfbeelepkmaaDoor
open Go.RowKit Go.Shelf

def accReg : Code → Code
  | .seq _ (.seq _ (.seq r _)) => r
  | c => c

def AInv (W0 : World) (g2 : Nat) (cu : Int) (A : Option Addr) (n cap : Nat) (key salt : ByteArray) (O : List Ch) (p0 p3 p4 p5 p7 p8 p9 p10 p11 p12 p13 p14 p15 p16 p17 p28 p29 p30 p31 p32 p33 p34 p35 p36 p37 p38 p39 p40 p41 p42 p43 p44 p45 p46 p47 p48 : Value) (L : Array Bool) (a : Act) (w : World) : Prop :=
  (L.getD 11 false = false ∧ ∃ v6 v18 v19 v20 v21 v22 v23 v24 v25 v26 v27 : Value, a = { tmps := #[p0, .int .i64 cu, .pointer (some ⟨g2, 0, none⟩), p3, p4, p5, v6, p7, p8, p9, p10, p11, p12, p13, p14, p15, p16, p17, v18, v19, v20, v21, v22, v23, v24, v25, v26, v27, p28, p29, p30, p31, p32, p33, p34, p35, p36, p37, p38, p39, p40, p41, p42, p43, p44, p45, p46, p47, p48], defers := [] } ∧ Below W0.heap.size W0 w ∧
    (L.getD 0 false = true → v18 = .int .i64 cu) ∧ (L.getD 1 false = true → v19 = .pointer (some ⟨g2, 1, none⟩)) ∧ (L.getD 2 false = true → v20 = .slice A n cap) ∧ (L.getD 3 false = true → v21 = .int .i64 cu) ∧
    (L.getD 4 false = true → w.ownsRow W0.heap.size 30 5 v22 O.length (chCells O)) ∧
    (L.getD 5 false = true → v23 = .pointer (some ⟨g2, 0, none⟩)) ∧ (L.getD 6 false = true → v24 = .string key) ∧ (L.getD 7 false = true → v25 = .int .i64 cu) ∧ (L.getD 8 false = true → v26 = .string salt) ∧
    (L.getD 9 false = true → v27 = .agg #[.int .i64 cu, v22, .string salt, .slice none 0 0]) ∧
    (L.getD 10 false = true → ∃ g, v6 = .pointer (some ⟨g, 0, none⟩) ∧ W0.heap.size ≤ g ∧ w.heap[g]? = some (.cells #[.int .i64 0, .slice none 0 0, .string ⟨#[]⟩, .slice none 0 0] 51 (0, 0)))) ∨
  ((∀ i, i < 12 → L.getD i false = true) ∧ ∃ (v18 v19 v20 v21 v22 v23 v24 v25 v26 v27 : Value) (g6 : Nat), a = { tmps := #[p0, .int .i64 cu, .pointer (some ⟨g2, 0, none⟩), p3, p4, p5, .pointer (some ⟨g6, 0, none⟩), p7, p8, p9, p10, p11, p12, p13, p14, p15, p16, p17, v18, v19, v20, v21, v22, v23, v24, v25, v26, v27, p28, p29, p30, p31, p32, p33, p34, p35, p36, p37, p38, p39, p40, p41, p42, p43, p44, p45, p46, p47, p48], defers := [] } ∧ Below W0.heap.size W0 w ∧ W0.heap.size ≤ g6 ∧ w.ownsRow W0.heap.size 30 5 v22 O.length (chCells O) ∧ w.heap[g6]? = some (.cells #[.int .i64 cu, v22, .string salt, .slice none 0 0] 51 (0, 0)))

set_option maxHeartbeats 4000000 in
set_option maxRecDepth 100000 in
theorem acc_region (W0 : World) (g2 : Nat) (cu : Int) (A : Option Addr) (n cap : Nat) (key : ByteArray) (l : List Ch) (p0 p3 p4 p5 p6 p7 p8 p9 p10 p11 p12 p13 p14 p15 p16 p17 p18 p19 p20 p21 p22 p23 p24 p25 p26 p27 p28 p29 p30 p31 p32 p33 p34 p35 p36 p37 p38 p39 p40 p41 p42 p43 p44 p45 p46 p47 p48 : Value) (Q : Exit → Act → World → Prop)
    (c0 : W0.cell? ⟨g2, 0, none⟩ = some (.string key)) (c1 : W0.cell? ⟨g2, 1, none⟩ = some (.slice A n cap)) (hv : Chs W0 (.slice A n cap) l) (hlen : l.length ≤ 60) (hk : key.size ≤ 1000) (hcu : 0 ≤ cu ∧ cu ≤ 63) (hRd : Rd W0)
    (hQ : ∀ w (v18 v19 v20 v21 v22 v23 v24 v25 v26 v27 : Value) (g6 : Nat), Below W0.heap.size W0 w → W0.heap.size ≤ g6 → w.ownsRow W0.heap.size 30 5 v22 (ofL l cu).length (chCells (ofL l cu)) → w.heap[g6]? = some (.cells #[.int .i64 cu, v22, .string (saltH key cu), .slice none 0 0] 51 (0, 0)) →
      Q .normal { tmps := #[p0, .int .i64 cu, .pointer (some ⟨g2, 0, none⟩), p3, p4, p5, .pointer (some ⟨g6, 0, none⟩), p7, p8, p9, p10, p11, p12, p13, p14, p15, p16, p17, v18, v19, v20, v21, v22, v23, v24, v25, v26, v27, p28, p29, p30, p31, p32, p33, p34, p35, p36, p37, p38, p39, p40, p41, p42, p43, p44, p45, p46, p47, p48], defers := [] } w) :
    (accReg (Tryd.f26.body.getD .skip)).wp Tryd.prog Q { tmps := #[p0, .int .i64 cu, .pointer (some ⟨g2, 0, none⟩), p3, p4, p5, p6, p7, p8, p9, p10, p11, p12, p13, p14, p15, p16, p17, p18, p19, p20, p21, p22, p23, p24, p25, p26, p27, p28, p29, p30, p31, p32, p33, p34, p35, p36, p37, p38, p39, p40, p41, p42, p43, p44, p45, p46, p47, p48], defers := [] } W0 := by
  have I51 := Lib.hid (show (Tryd.prog.info? 51).map (·.size) = some 4 by kernel_rfl)
  simp only [Tryd.f26, accReg, Option.getD]
  have hC4 := fun W' (h : Below W0.heap.size W0 W') => of_own (.slice A n cap) l cu W' (hv.below h) (by omega)
  have hC8 := fun W' (h : Below W0.heap.size W0 W') => saltOf_calls key cu W' hk (by omega) (by omega) (hRd.below h)
  have hb0 := World.block_lt_of_cell? W0 _ c0
  dsimp only at hb0
  generalize saltH key cu = salt at *
  generalize ofL l cu = O at *
  refine wp_region_cl (AInv W0 g2 cu A n cap key salt O p0 p3 p4 p5 p7 p8 p9 p10 p11 p12 p13 p14 p15 p16 p17 p28 p29 p30 p31 p32 p33 p34 p35 p36 p37 p38 p39 p40 p41 p42 p43 p44 p45 p46 p47 p48) (by kernel_rfl) (.inl ⟨rfl, _, _, _, _, _, _, _, _, _, _, _, rfl, below_drew (Below.refl _ _), ?_, ?_, ?_, ?_, ?_, ?_, ?_, ?_, ?_, ?_, ?_⟩) ?_ ?_
  iterate 11 (intro h; exact absurd h (by decide))
  · intro L act w i hs hcl hI hr
    obtain ⟨hi12, hf, hpre⟩ := ready_spec hr
    have hi12 : i < 12 := hi12
    have hfi : L.getD i false = false := by
      have h8 : i < L.size := by rw [hs]; exact hi12
      simp [Array.getD, h8] at hf ⊢; exact hf
    rcases hI with ⟨h11, v6, v18, v19, v20, v21, v22, v23, v24, v25, v26, v27, rfl, hB, h0, h1, h2, h3, h4, h5, h6, h7, h8, h9, h10⟩ | ⟨hall, _⟩
    · rcases (by omega : i = 0 ∨ i = 1 ∨ i = 2 ∨ i = 3 ∨ i = 4 ∨ i = 5 ∨ i = 6 ∨ i = 7 ∨ i = 8 ∨ i = 9 ∨ i = 10 ∨ i = 11) with rfl | rfl | rfl | rfl | rfl | rfl | rfl | rfl | rfl | rfl | rfl | rfl
      · refine wpOp_step rfl (fun K' hK => ?_)
        rw [if_pos (by rfl)]
        go_simp
        refine hK _ _ (.inl ⟨by rw [bit_set hs (by decide), h11]; rfl, _, _, _, _, _, _, _, _, _, _, _, rfl, hB, ?_, ?_, ?_, ?_, ?_, ?_, ?_, ?_, ?_, ?_, ?_⟩) <;> intro h
        all_goals first | rfl | (rw [bit_set hs (by decide)] at h; first | exact h0 (by simpa using h) | exact h1 (by simpa using h) | exact h2 (by simpa using h) | exact h3 (by simpa using h) | exact h5 (by simpa using h) | exact h6 (by simpa using h) | exact h7 (by simpa using h) | exact h8 (by simpa using h) | exact h9 (by simpa using h)) | (rw [bit_set hs (by decide)] at h; exact h4 (by simpa using h)) | (rw [bit_set hs (by decide)] at h; obtain ⟨q, e1, e2, e3⟩ := h10 (by simpa using h); exact ⟨q, e1, e2, e3⟩)
      · refine wpOp_step rfl (fun K' hK => ?_)
        rw [if_pos (by rfl)]
        go_simp
        refine hK _ _ (.inl ⟨by rw [bit_set hs (by decide), h11]; rfl, _, _, _, _, _, _, _, _, _, _, _, rfl, hB, ?_, ?_, ?_, ?_, ?_, ?_, ?_, ?_, ?_, ?_, ?_⟩) <;> intro h
        all_goals first | rfl | (rw [bit_set hs (by decide)] at h; first | exact h0 (by simpa using h) | exact h1 (by simpa using h) | exact h2 (by simpa using h) | exact h3 (by simpa using h) | exact h5 (by simpa using h) | exact h6 (by simpa using h) | exact h7 (by simpa using h) | exact h8 (by simpa using h) | exact h9 (by simpa using h)) | (rw [bit_set hs (by decide)] at h; exact h4 (by simpa using h)) | (rw [bit_set hs (by decide)] at h; obtain ⟨q, e1, e2, e3⟩ := h10 (by simpa using h); exact ⟨q, e1, e2, e3⟩)
      · obtain rfl := h1 (hpre _ rfl ⟨1, .data⟩ (by simp) rfl)
        refine wpOp_step rfl (fun K' hK => ?_)
        rw [if_pos (by rfl)]
        have hc0 := (hB.cell (p := ⟨g2, 0, none⟩) hb0).trans c0
        have hc1 := (hB.cell (p := ⟨g2, 1, none⟩) hb0).trans c1
        go_simp
        refine hK _ _ (.inl ⟨by rw [bit_set hs (by decide), h11]; rfl, _, _, _, _, _, _, _, _, _, _, _, rfl, hB, ?_, ?_, ?_, ?_, ?_, ?_, ?_, ?_, ?_, ?_, ?_⟩) <;> intro h
        all_goals first | rfl | (rw [bit_set hs (by decide)] at h; first | exact h0 (by simpa using h) | exact h1 (by simpa using h) | exact h2 (by simpa using h) | exact h3 (by simpa using h) | exact h5 (by simpa using h) | exact h6 (by simpa using h) | exact h7 (by simpa using h) | exact h8 (by simpa using h) | exact h9 (by simpa using h)) | (rw [bit_set hs (by decide)] at h; exact h4 (by simpa using h)) | (rw [bit_set hs (by decide)] at h; obtain ⟨q, e1, e2, e3⟩ := h10 (by simpa using h); exact ⟨q, e1, e2, e3⟩)
      · refine wpOp_step rfl (fun K' hK => ?_)
        rw [if_pos (by rfl)]
        go_simp
        refine hK _ _ (.inl ⟨by rw [bit_set hs (by decide), h11]; rfl, _, _, _, _, _, _, _, _, _, _, _, rfl, hB, ?_, ?_, ?_, ?_, ?_, ?_, ?_, ?_, ?_, ?_, ?_⟩) <;> intro h
        all_goals first | rfl | (rw [bit_set hs (by decide)] at h; first | exact h0 (by simpa using h) | exact h1 (by simpa using h) | exact h2 (by simpa using h) | exact h3 (by simpa using h) | exact h5 (by simpa using h) | exact h6 (by simpa using h) | exact h7 (by simpa using h) | exact h8 (by simpa using h) | exact h9 (by simpa using h)) | (rw [bit_set hs (by decide)] at h; exact h4 (by simpa using h)) | (rw [bit_set hs (by decide)] at h; obtain ⟨q, e1, e2, e3⟩ := h10 (by simpa using h); exact ⟨q, e1, e2, e3⟩)
      · obtain rfl := h2 (hpre _ rfl ⟨2, .data⟩ (by simp) rfl)
        obtain rfl := h3 (hpre _ rfl ⟨3, .data⟩ (by simp) rfl)
        refine wpOp_step rfl (fun K' hK => ?_)
        rw [if_pos (by rfl)]
        go_simp
        refine (hC4 w hB).mono ?_
        rintro e w' ⟨v', rfl, ho, hb⟩
        refine hK _ _ (.inl ⟨by rw [bit_set hs (by decide), h11]; rfl, _, _, _, _, _, _, _, _, _, _, _, rfl, below_then hB hb, ?_, ?_, ?_, ?_, ?_, ?_, ?_, ?_, ?_, ?_, ?_⟩) <;> intro h
        all_goals first | rfl | (rw [bit_set hs (by decide)] at h; first | exact h0 (by simpa using h) | exact h1 (by simpa using h) | exact h2 (by simpa using h) | exact h3 (by simpa using h) | exact h5 (by simpa using h) | exact h6 (by simpa using h) | exact h7 (by simpa using h) | exact h8 (by simpa using h) | exact h9 (by simpa using h)) | exact ⟨ho.1, ho.2.imp (fun h => h) (fun ⟨x1, x2, x3, e1, e2, e3⟩ => ⟨x1, x2, x3, e1, Nat.le_trans hB.size e2, e3⟩)⟩ | (rw [bit_set hs (by decide)] at h; obtain ⟨q, e1, e2, e3⟩ := h10 (by simpa using h); exact ⟨q, e1, e2, ((hb.block _ (Array.getElem?_eq_some_iff.1 e3).1).trans e3)⟩) | (exfalso; rw [bit_set hs (by decide)] at h; have := hcl 9 _ rfl (by simpa using h) ⟨4, .data⟩ (by simp) rfl; rw [this] at hfi; cases hfi)
      · refine wpOp_step rfl (fun K' hK => ?_)
        rw [if_pos (by rfl)]
        go_simp
        refine hK _ _ (.inl ⟨by rw [bit_set hs (by decide), h11]; rfl, _, _, _, _, _, _, _, _, _, _, _, rfl, hB, ?_, ?_, ?_, ?_, ?_, ?_, ?_, ?_, ?_, ?_, ?_⟩) <;> intro h
        all_goals first | rfl | (rw [bit_set hs (by decide)] at h; first | exact h0 (by simpa using h) | exact h1 (by simpa using h) | exact h2 (by simpa using h) | exact h3 (by simpa using h) | exact h5 (by simpa using h) | exact h6 (by simpa using h) | exact h7 (by simpa using h) | exact h8 (by simpa using h) | exact h9 (by simpa using h)) | (rw [bit_set hs (by decide)] at h; exact h4 (by simpa using h)) | (rw [bit_set hs (by decide)] at h; obtain ⟨q, e1, e2, e3⟩ := h10 (by simpa using h); exact ⟨q, e1, e2, e3⟩)
      · obtain rfl := h5 (hpre _ rfl ⟨5, .data⟩ (by simp) rfl)
        refine wpOp_step rfl (fun K' hK => ?_)
        rw [if_pos (by rfl)]
        have hc0 := (hB.cell (p := ⟨g2, 0, none⟩) hb0).trans c0
        have hc1 := (hB.cell (p := ⟨g2, 1, none⟩) hb0).trans c1
        go_simp
        refine hK _ _ (.inl ⟨by rw [bit_set hs (by decide), h11]; rfl, _, _, _, _, _, _, _, _, _, _, _, rfl, hB, ?_, ?_, ?_, ?_, ?_, ?_, ?_, ?_, ?_, ?_, ?_⟩) <;> intro h
        all_goals first | rfl | (rw [bit_set hs (by decide)] at h; first | exact h0 (by simpa using h) | exact h1 (by simpa using h) | exact h2 (by simpa using h) | exact h3 (by simpa using h) | exact h5 (by simpa using h) | exact h6 (by simpa using h) | exact h7 (by simpa using h) | exact h8 (by simpa using h) | exact h9 (by simpa using h)) | (rw [bit_set hs (by decide)] at h; exact h4 (by simpa using h)) | (rw [bit_set hs (by decide)] at h; obtain ⟨q, e1, e2, e3⟩ := h10 (by simpa using h); exact ⟨q, e1, e2, e3⟩)
      · refine wpOp_step rfl (fun K' hK => ?_)
        rw [if_pos (by rfl)]
        go_simp
        refine hK _ _ (.inl ⟨by rw [bit_set hs (by decide), h11]; rfl, _, _, _, _, _, _, _, _, _, _, _, rfl, hB, ?_, ?_, ?_, ?_, ?_, ?_, ?_, ?_, ?_, ?_, ?_⟩) <;> intro h
        all_goals first | rfl | (rw [bit_set hs (by decide)] at h; first | exact h0 (by simpa using h) | exact h1 (by simpa using h) | exact h2 (by simpa using h) | exact h3 (by simpa using h) | exact h5 (by simpa using h) | exact h6 (by simpa using h) | exact h7 (by simpa using h) | exact h8 (by simpa using h) | exact h9 (by simpa using h)) | (rw [bit_set hs (by decide)] at h; exact h4 (by simpa using h)) | (rw [bit_set hs (by decide)] at h; obtain ⟨q, e1, e2, e3⟩ := h10 (by simpa using h); exact ⟨q, e1, e2, e3⟩)
      · obtain rfl := h6 (hpre _ rfl ⟨6, .data⟩ (by simp) rfl)
        obtain rfl := h7 (hpre _ rfl ⟨7, .data⟩ (by simp) rfl)
        refine wpOp_step rfl (fun K' hK => ?_)
        rw [if_pos (by rfl)]
        go_simp
        refine (hC8 w hB).mono ?_
        rintro e w' ⟨rfl, hb⟩
        refine hK _ _ (.inl ⟨by rw [bit_set hs (by decide), h11]; rfl, _, _, _, _, _, _, _, _, _, _, _, rfl, below_then hB hb, ?_, ?_, ?_, ?_, ?_, ?_, ?_, ?_, ?_, ?_, ?_⟩) <;> intro h
        all_goals first | rfl | (rw [bit_set hs (by decide)] at h; first | exact h0 (by simpa using h) | exact h1 (by simpa using h) | exact h2 (by simpa using h) | exact h3 (by simpa using h) | exact h5 (by simpa using h) | exact h6 (by simpa using h) | exact h7 (by simpa using h) | exact h8 (by simpa using h) | exact h9 (by simpa using h)) | (rw [bit_set hs (by decide)] at h; exact ownsRow_keep (ts := [30]) (h4 (by simpa using h)) (KeepT.of_below hb) (by decide)) | (rw [bit_set hs (by decide)] at h; obtain ⟨q, e1, e2, e3⟩ := h10 (by simpa using h); exact ⟨q, e1, e2, ((hb.block _ (Array.getElem?_eq_some_iff.1 e3).1).trans e3)⟩)
      · obtain rfl := h0 (hpre _ rfl ⟨0, .data⟩ (by simp) rfl)
        obtain rfl := h8 (hpre _ rfl ⟨8, .data⟩ (by simp) rfl)
        refine wpOp_step rfl (fun K' hK => ?_)
        rw [if_pos (by rfl)]
        obtain ⟨A9, n9, c9, rfl⟩ : ∃ A n c, v22 = .slice A n c := by
          rcases (h4 (hpre _ rfl ⟨4, .data⟩ (by simp) rfl)).2 with ⟨e, _⟩ | ⟨_, _, _, e, _⟩ <;> exact ⟨_, _, _, e⟩
        go_simp
        refine hK _ _ (.inl ⟨by rw [bit_set hs (by decide), h11]; rfl, _, _, _, _, _, _, _, _, _, _, _, rfl, hB, ?_, ?_, ?_, ?_, ?_, ?_, ?_, ?_, ?_, ?_, ?_⟩) <;> intro h
        all_goals first | rfl | (rw [bit_set hs (by decide)] at h; first | exact h0 (by simpa using h) | exact h1 (by simpa using h) | exact h2 (by simpa using h) | exact h3 (by simpa using h) | exact h5 (by simpa using h) | exact h6 (by simpa using h) | exact h7 (by simpa using h) | exact h8 (by simpa using h) | exact h9 (by simpa using h)) | (rw [bit_set hs (by decide)] at h; exact h4 (by simpa using h)) | (rw [bit_set hs (by decide)] at h; obtain ⟨q, e1, e2, e3⟩ := h10 (by simpa using h); exact ⟨q, e1, e2, e3⟩)
      · refine wpOp_step rfl (fun K' hK => ?_)
        rw [if_pos (by rfl)]
        go_simp
        refine hK _ _ (.inl ⟨by rw [bit_set hs (by decide), h11]; rfl, _, _, _, _, _, _, _, _, _, _, _, rfl, below_alloc hB _, ?_, ?_, ?_, ?_, ?_, ?_, ?_, ?_, ?_, ?_, ?_⟩) <;> intro h
        all_goals first | rfl | (rw [bit_set hs (by decide)] at h; first | exact h0 (by simpa using h) | exact h1 (by simpa using h) | exact h2 (by simpa using h) | exact h3 (by simpa using h) | exact h5 (by simpa using h) | exact h6 (by simpa using h) | exact h7 (by simpa using h) | exact h8 (by simpa using h) | exact h9 (by simpa using h)) | (rw [bit_set hs (by decide)] at h; exact ownsRow_keep (ts := [30]) (h4 (by simpa using h)) (KeepT.of_below (below_one w _)) (by decide)) | (rw [bit_set hs (by decide)] at h; obtain ⟨q, e1, e2, e3⟩ := h10 (by simpa using h); exact ⟨q, e1, e2, ((below_one w _).block _ (Array.getElem?_eq_some_iff.1 e3).1 |>.trans e3)⟩) | exact ⟨w.heap.size, rfl, hB.size, heap_new w _⟩
      · obtain rfl := h9 (hpre _ rfl ⟨9, .data⟩ (by simp) rfl)
        obtain ⟨g6, rfl, hg6, hZ⟩ := h10 (hpre _ rfl ⟨10, .data⟩ (by simp) rfl)
        have hO := h4 (hcl 9 _ rfl (hpre _ rfl ⟨9, .data⟩ (by simp) rfl) ⟨4, .data⟩ (by simp) rfl)
        have hv22 : v22.oneCell' = true := by
          rcases hO.2 with ⟨rfl, _⟩ | ⟨_, _, _, rfl, _⟩ <;> rfl
        refine wpOp_step rfl (fun K' hK => ?_)
        rw [if_pos (by rfl)]
        refine wp_store_row' 51 (.tmp 6) (.tmp 27) rfl g6 rfl 51 _ #[.int .i64 cu, v22, .string salt, .slice none 0 0] rfl hZ I51.out rfl (by simp [hv22]; simp [Value.oneCell']) ?_
        refine hK _ _ (.inr ⟨?_, _, _, _, _, _, _, _, _, _, _, g6, rfl, ?_, hg6, ?_, setRow_heap w g6 _ _ 51 (0, 0) hZ⟩)
        · intro i hi
          rw [bit_set hs (by decide)]
          rcases (by omega : i = 0 ∨ i = 1 ∨ i = 2 ∨ i = 3 ∨ i = 4 ∨ i = 5 ∨ i = 6 ∨ i = 7 ∨ i = 8 ∨ i = 9 ∨ i = 10 ∨ i = 11) with rfl | rfl | rfl | rfl | rfl | rfl | rfl | rfl | rfl | rfl | rfl | rfl
          · simp [hpre _ rfl ⟨0, .phase⟩ (by simp) rfl]
          · simp [hpre _ rfl ⟨1, .phase⟩ (by simp) rfl]
          · simp [hpre _ rfl ⟨2, .phase⟩ (by simp) rfl]
          · simp [hpre _ rfl ⟨3, .phase⟩ (by simp) rfl]
          · simp [hpre _ rfl ⟨4, .phase⟩ (by simp) rfl]
          · simp [hpre _ rfl ⟨5, .phase⟩ (by simp) rfl]
          · simp [hpre _ rfl ⟨6, .phase⟩ (by simp) rfl]
          · simp [hpre _ rfl ⟨7, .phase⟩ (by simp) rfl]
          · simp [hpre _ rfl ⟨8, .phase⟩ (by simp) rfl]
          · simp [hpre _ rfl ⟨9, .phase⟩ (by simp) rfl]
          · simp [hpre _ rfl ⟨10, .phase⟩ (by simp) rfl]
          · simp
        · exact below_setRow hB hg6 _
        · refine ownsRow_keep (ts := [30]) hO (fun k cs t f ht hk => ?_) (by decide)
          rw [setRow_other _ _ _ _ (by rintro rfl; rw [hZ] at hk; cases hk; simp at ht)]; exact hk
    · rw [hall i hi12] at hfi; cases hfi
  · intro L act w hs hI hr
    have hall := all_run hs hr (backs_spec (by decide +kernel))
    rcases hI with ⟨h11, _⟩ | ⟨_, v18, v19, v20, v21, v22, v23, v24, v25, v26, v27, g6, rfl, hb, hg, ho, hz⟩
    · rw [hall 11 (by decide)] at h11; cases h11
    · exact hQ w v18 v19 v20 v21 v22 v23 v24 v25 v26 v27 g6 hb hg ho hz

end Go.Proofs.YthohfbeelepkmaaDoor

