/- slices.ContainsFunc at integers; audit.read's test; audit.Debts; audit.Check's test. -/
import Derived.Test.YthohfbeelepkmaaDoorA15
import Derived.Test.YthohfbeelepkmaaDoorA21
import Derived.Laws.ResultCell
namespace Go.Proofs.YthohfbeelepkmaaDoor
open Go.RowKit Go.Shelf

def PredI (g : Nat) (lb : Array Value) (p : Int → Bool) (w : World) : Prop :=
  ∀ (W : World) (x : Int), Below w.heap.size w W → Calls Tryd.prog g (#[.int .i64 x] ++ lb) W fun e w' => e = .returned (.bool (p x)) ∧ Below W.heap.size W w'

set_option maxHeartbeats 1000000 in
theorem indexFuncI (v : Value) (l : List Int) (g : Nat) (lb : Array Value) (eg : ∀ args w, (callFunc g args).run Tryd.prog w = .ok (.enter g args) w) (p : Int → Bool) (w : World) (hl : Ints w v .i64 l) (hp : PredI g lb p w) :
    Calls Tryd.prog 70 #[v, .func (.func g) #[] lb] w fun e w' => e = .returned (.int .i64 (idxP p l)) ∧ Below w.heap.size w w' := by
  obtain ⟨hlen, A, cap, rfl, hcap, hat⟩ := hl.open_
  go_enter Tryd.func70, Tryd.ntmps70
  go_wp2
  go_loopg [5, 8] l.length (fun gg _ s8 wr => ∃ kk : Nat, kk ≤ l.length ∧ l.length - kk ≤ gg ∧ s8 = .int .i64 kk ∧ Aside (Below w.heap.size w wr) ∧ Aside (∀ j (h : j < l.length), j < kk → p l[j] = false))
  case atStart => exact ⟨0, Nat.zero_le _, by omega, rfl, Below.refl _ w, fun j _ hj => absurd hj (Nat.not_lt_zero _)⟩
  case round =>
    obtain ⟨kk, hkk, hg, rfl, BW, hA⟩ := hrel
    by_cases hlt : kk < l.length
    · obtain ⟨b, off, rfl, hb, c0⟩ := hat kk hlt
      clear hat
      replace c0 := (BW.out.cell (p := ⟨b, _, none⟩) hb).trans c0
      have hcall := hp wr l[kk] BW.out
      obtain ⟨c, hc⟩ : ∃ c, c = l[kk] := ⟨_, rfl⟩
      rw [← hc] at c0 hcall
      have HC := Lib.hid hc
      clear hc hp hl
      cases hq : p c with
      | true =>
        rw [hq] at hcall
        have HQ := Lib.hid hq
        clear hq
        go_wp2_with fail
        refine hcall.mono ?_
        rintro e w' ⟨rfl, hb'⟩
        go_wp2
        go_ret
        refine ⟨?_, BW.out.trans (hb'.mono BW.out.size)⟩
        refine ret_i ?_
        unfold idxP
        rw [if_pos (List.any_eq_true.2 ⟨l[kk], List.getElem_mem hlt, by rw [← HC.out]; exact HQ.out⟩)]
        rw [(List.findIdx_eq hlt).2 ⟨by rw [← HC.out]; exact HQ.out, fun j hj => hA.out j (by omega) hj⟩]
      | false =>
        rw [hq] at hcall
        have HQ := Lib.hid hq
        clear hq
        go_wp2_with fail
        refine hcall.mono ?_
        rintro e w' ⟨rfl, hb'⟩
        go_wp2
        go_roundg (l.length - (kk + 1))
        case measure => omega
        case rel =>
          refine ⟨kk + 1, by omega, by omega, by go_num, BW.out.trans (hb'.mono BW.out.size), (show Aside _ from fun j hj hjk => ?_)⟩
          by_cases e : j = kk
          · subst e
            rw [← HC.out]; exact HQ.out
          · exact hA.out j hj (by omega)
    · have : kk = l.length := by omega
      subst this
      clear hp hat
      go_wp2
      go_ret
      refine ⟨?_, BW.out⟩
      refine ret_i ?_
      unfold idxP
      rw [if_neg]
      intro h
      obtain ⟨x, hx, hpx⟩ := List.any_eq_true.1 h
      obtain ⟨j, hj, rfl⟩ := List.mem_iff_getElem.1 hx
      rw [hA.out j hj hj] at hpx
      cases hpx

theorem containsFuncI (v : Value) (l : List Int) (g : Nat) (lb : Array Value) (eg : ∀ args w, (callFunc g args).run Tryd.prog w = .ok (.enter g args) w) (p : Int → Bool) (w : World) (hl : Ints w v .i64 l) (hp : PredI g lb p w) :
    Calls Tryd.prog 95 #[v, .func (.func g) #[] lb] w fun e w' => e = .returned (.bool (l.any p)) ∧ Below w.heap.size w w' := by
  have hc := indexFuncI v l g lb eg p w hl hp
  clear hp eg
  cases h : l.any p with
  | true =>
    unfold idxP at hc
    rw [h, if_pos rfl] at hc
    clear h
    generalize (l.findIdx p) = i at hc
    go_enter Tryd.func95, Tryd.ntmps95
    go_wp2_with (go_at_call 70; refine hc.mono ?_; rintro e w' ⟨rfl, hb'⟩)
    go_ret
    exact ⟨by simp, hb'⟩
  | false =>
    unfold idxP at hc
    rw [h, if_neg (by simp)] at hc
    clear h
    go_enter Tryd.func95, Tryd.ntmps95
    go_wp2_with (go_at_call 70; refine hc.mono ?_; rintro e w' ⟨rfl, hb'⟩)
    go_ret
    exact ⟨by simp, hb'⟩

def isLargeB (n : Int) : Bool := !within n (-1000000000000) 1000000000000
theorem read1_calls (n : Int) (w : World) : Calls Tryd.prog 94 #[.int .i64 n] w fun e w' => e = .returned (.bool (isLargeB n)) ∧ Below w.heap.size w w' := by
  go_enter Tryd.func94, Tryd.ntmps94
  go_wp2_with (go_at_call 49; refine (isWithin_calls _ _ _ _).mono ?_; rintro e w' ⟨rfl, rfl⟩)
  go_ret
  exact ⟨rfl, Below.refl _ _⟩

/-- A charge is of another customer. -/
theorem Check1_calls (b : Nat) (h : Int) (cu pa pe am : Int) (tx : ByteArray) (w : World) (hc : w.cell? ⟨b, 0, none⟩ = some (.int .i64 h)) :
    Calls Tryd.prog 56 #[.agg #[.int .i64 cu, .int .i64 pa, .int .i64 pe, .int .i64 am, .string tx], .pointer (some ⟨b, 0, none⟩)] w fun e w' => e = .returned (.bool (cu != h)) ∧ Below w.heap.size w w' := by
  have hb := World.block_lt_of_cell? w _ hc
  have hc2 := cellA hc (.cells #[.int .i64 cu, .int .i64 pa, .int .i64 pe, .int .i64 am, .string tx] 30)
  dsimp only at hb
  go_enter Tryd.func56, Tryd.ntmps56
  go_wp2_with fail
  all_goals go_ret
  all_goals exact ⟨by first | rfl | (simp [bne]; done), below_one w _⟩

structure Db where
  fr : Int
  tr : Int
  am : Int
def Db.cells (d : Db) : List Value := [.int .i64 d.fr, .int .i64 d.tr, .int .i64 d.am]
def Dbs (w : World) (v : Value) (l : List Db) : Prop := Sl w v 3 (l.map Db.cells)
def debtsL (l : List Ch) : List Db := (l.filter fun c => decide (0 < c.am)).map fun c => ⟨c.pa, c.pe, c.am⟩
theorem debtsL_snoc (l : List Ch) (c : Ch) : debtsL (l ++ [c]) = if 0 < c.am then debtsL l ++ [⟨c.pa, c.pe, c.am⟩] else debtsL l := by
  unfold debtsL
  rw [List.filter_append]
  by_cases e : 0 < c.am <;> simp [e]
def dbCells (l : List Db) : List Value := (l.map Db.cells).flatten

set_option maxHeartbeats 2000000 in
set_option maxRecDepth 100000 in
theorem Debts_own (v : Value) (l : List Ch) (w : World) (hv : Chs w v l) (hok : okChs l = true) :
    Calls Tryd.prog 19 #[v] w fun e w' => ∃ v', e = .returned (.tuple #[v', .int .i64 0]) ∧ Dbs w' v' (debtsL l) ∧ w'.ownsRow w.heap.size 77 3 v' (debtsL l).length (dbCells (debtsL l)) ∧ Below w.heap.size w w' := by
  have hlen : l.length ≤ 60 := by have := hok; simp [okChs] at this; exact this.1
  have h1 := areCharges_calls v l w hv
  rw [hok] at h1
  obtain ⟨_, A, cap, rfl, hcap, hat⟩ := hv.open_
  obtain ⟨i0, hi, hz0, hz1, hz2⟩ := info_parts (show (Tryd.prog.info? 77).map (fun i => (i.zero, i.size, i.bytes)) = some (some (.agg #[.int .i64 0, .int .i64 0, .int .i64 0]), 3, 24) by kernel_rfl)
  clear hv hok
  go_enter Tryd.func19, Tryd.ntmps19
  go_wp2_with fail
  refine h1.mono ?_
  rintro e w0 ⟨rfl, hb0⟩
  clear h1
  go_wp2
  go_loopw [4, 12] (fun s4 s12 wr => ∃ k : Nat, k ≤ l.length ∧ s12 = .int .i64 k ∧ Aside (wr.ownsRow w.heap.size 77 3 s4 (debtsL (l.take k)).length (dbCells (debtsL (l.take k)))) ∧ Aside (Below w.heap.size w wr)) (fun _ s12 _ => l.length - (intOf s12).toNat)
  case atStart => exact ⟨0, Nat.zero_le _, rfl, World.ownsRow_nil _ _ _ _, hb0⟩
  case round =>
    clear hb0
    obtain ⟨k, hk, rfl, hR, hB⟩ := hrel
    by_cases hlt : k < l.length
    · obtain ⟨b, off, rfl, hb, c0, c1, c2, c3, c4⟩ := hat k hlt
      have HT := Lib.hid (take_succ_snoc l k hlt)
      replace c0 := (hB.out.cell (p := ⟨b, _, none⟩) hb).trans c0
      replace c1 := (hB.out.cell (p := ⟨b, _, none⟩) hb).trans c1
      replace c2 := (hB.out.cell (p := ⟨b, _, none⟩) hb).trans c2
      replace c3 := (hB.out.cell (p := ⟨b, _, none⟩) hb).trans c3
      replace c4 := (hB.out.cell (p := ⟨b, _, none⟩) hb).trans c4
      generalize l[k] = c at *
      obtain ⟨cu, pa, pe, am, tx⟩ := c
      dsimp only at c0 c1 c2 c3 c4
      have HN := Lib.hid (debtsL_snoc (l.take k) ⟨cu, pa, pe, am, tx⟩)
      have hol : (debtsL (l.take k)).length ≤ k := by
        unfold debtsL; rw [List.length_map]; exact Nat.le_trans (List.length_filter_le _ _) (by simp; omega)
      clear hat
      generalize debtsL (l.take k) = O at *
      have hsz := hB.out.size
      by_cases hcu : 0 < am
      · have hnew := cells_new_add (wr.alloc (.cells #[.int .i64 cu, .int .i64 pa, .int .i64 pe, .int .i64 am, .string tx] 30)) [.int .i64 pa, .int .i64 pe, .int .i64 am] 77
        have hsz1 : (wr.alloc (.cells #[.int .i64 cu, .int .i64 pa, .int .i64 pe, .int .i64 am, .string tx] 30)).heap.size = wr.heap.size + 1 := by simp
        rw [hsz1] at hnew
        clear hsz1
        go_wp2_with (at_builtin; refine wpList_append_own _ rfl _ _ 43 rfl w.heap.size 77 i0 _ 3 24 (by kernel_rfl) hi hz0 hz1 hz2 rfl (by decide) _ O.length (dbCells O) rfl ((hR.out.alloc _).alloc _) ⟨wr.heap.size + 1, 0, none⟩ 1 1 [.int .i64 pa, .int .i64 pe, .int .i64 am] rfl rfl hnew (by simp [Value.oneCell']) ?c1 ?c2 ?c3 ?_)
        case c1 => unfold maxLen; omega
        case c2 => omega
        case c3 => omega
        intro v' w3 hown hgrow _
        clear hnew
        have hb3 : Below w.heap.size w w3 := (below_alloc (below_alloc hB.out _) _).grown hgrow (by simp; omega) (fun k hk => (hR.out.lt k hk).1)
        obtain ⟨g', cap', rfl⟩ := ownsRow_succ hown
        have HOW := Lib.hid hown
        clear hown hgrow hR
        go_wp2
        go_roundw
        case measure => simp [intOf]; omega
        case rel =>
          refine ⟨k + 1, by omega, by go_num, (show World.ownsRow _ _ _ _ _ _ _ from ?_), hb3⟩
          have hn := HN.out
          rw [if_pos hcu] at hn
          rw [HT.out, hn]
          have := HOW.out
          simpa [dbCells, Db.cells] using this
      · go_wp2
        go_roundw
        case measure => simp [intOf]; omega
        case rel =>
          refine ⟨k + 1, by omega, by go_num, (show World.ownsRow _ _ _ _ _ _ _ from ?_), below_alloc hB.out _⟩
          rw [HT.out, HN.out, if_neg hcu]
          exact hR.out.alloc _
    · have hkl : k = l.length := by omega
      subst hkl
      have hdl : (debtsL l).length ≤ l.length := by unfold debtsL; rw [List.length_map]; exact List.length_filter_le _ _
      have hsl : Dbs wr _ (debtsL l) := ownsRow_sl (L := (debtsL l).map Db.cells) (n := (debtsL l).length) (by have := hR.out; rw [List.take_length] at this; exact this) (by simp) (by intro x hx; simp only [List.mem_map] at hx; obtain ⟨c, _, rfl⟩ := hx; rfl) (by omega)
      have HOW := Lib.hid hR.out
      rw [List.take_length] at HOW
      clear hat hR
      go_wp2
      go_ret2
      exact ⟨_, rfl, hsl, HOW.out, hB.out⟩
theorem Debts_calls (v : Value) (l : List Ch) (w : World) (hv : Chs w v l) (hok : okChs l = true) :
    Calls Tryd.prog 19 #[v] w fun e w' => ∃ v', e = .returned (.tuple #[v', .int .i64 0]) ∧ Dbs w' v' (debtsL l) ∧ Below w.heap.size w w' :=
  (Debts_own v l w hv hok).mono fun _ _ ⟨v', h1, h2, _, h3⟩ => ⟨v', h1, h2, h3⟩

end Go.Proofs.YthohfbeelepkmaaDoor

/- audit.read. -/
namespace Go.Proofs.YthohfbeelepkmaaDoor
open Go.RowKit Go.Shelf

theorem results_row_tmp {P : Program} {fn : Func} {p u : Tmp} {ty : TypeId} (h : fn.results = #[.cell p ty, .tmp u]) (tmps : Array Value) (w : World) (g : Nat) (t : TypeId) (cs : Array Value) (fr : Nat × Nat) (d : TypeDesc)
    (hp : tmps.getD p undef = .pointer (some ⟨g, 0, none⟩)) (hg : w.heap[g]? = some (.cells cs t fr))
    (hu : P.underlying ty = some d) (hd : (match d with | .struct _ | .array _ _ => true | _ => false) = true) (hi : (P.info? ty).map (·.size) = some cs.size) :
    (results fn tmps).run P w = .ok (.tuple #[.agg cs, tmps.getD u undef]) w := by
  rw [results_cell_tmp h]
  simp [hp, asAddr, Result.andThen, run_loadVar_row w g t ty cs fr d hg hu hd hi]
theorem bodyPost_rowt {P : Program} {fn : Func} {R : Ending → World → Prop} {a : Act} {w : World} {p u : Tmp} {ty : TypeId} (g : Nat) (t : TypeId) (cs : Array Value) (d : TypeDesc) (h : w.heap[g]? = some (.cells cs t (0, 0))) (hu : P.underlying ty = some d)
    (hd' : (match d with | .struct _ | .array _ _ => true | _ => false) = true) (hi : (P.info? ty).map (·.size) = some cs.size) (hres : fn.results = #[.cell p ty, .tmp u]) (hp : a.tmps.getD p undef = .pointer (some ⟨g, 0, none⟩)) (hd : a.defers = []) (hR : R (.returned (.tuple #[.agg cs, a.tmps.getD u undef])) w) : bodyPost P fn R .ret a w :=
  bodyPost_ret (results_row_tmp hres _ w g t _ (0, 0) _ hp h hu hd' hi) hd hR

def okT (l : List Int) (d : ByteArray) : Bool := decide (l.length = 8) && decide (d.size = 32) && !l.any isLargeB

set_option maxHeartbeats 2000000 in
set_option maxRecDepth 100000 in
theorem read_calls (v : Value) (l : List Int) (d : ByteArray) (w : World) (hv : Ints w v .i64 l) (hok : okT l d = true) :
    Calls Tryd.prog 59 #[.agg #[v, .string d]] w fun e w' => e = .returned (.tuple #[.agg (totC l d).toArray, .bool true]) ∧ Below w.heap.size w w' := by
  simp only [okT, Bool.and_eq_true, decide_eq_true_eq, Bool.not_eq_true'] at hok
  obtain ⟨⟨h8, h32⟩, hla⟩ := hok
  have hC := fun W (hW : Below w.heap.size w W) => containsFuncI v l 94 #[] (enters_of Tryd.func94 (by kernel_rfl) rfl) isLargeB W (hv.below hW) (fun W' x _ => read1_calls x W')
  simp only [hla] at hC
  obtain ⟨hlen, A, cap, rfl, hcap, hat⟩ := hv.openD
  obtain ⟨b, off, rfl, hb, hat⟩ := hat (by omega)
  obtain ⟨a0, a1, a2, a3, a4, a5, a6, a7, rfl⟩ := len8 h8
  clear hla hlen h8
  simp only [totC, List.map_cons, List.map_nil, List.cons_append, List.nil_append, List.length_cons, List.length_nil, Nat.reduceAdd] at hC hcap hat ⊢
  obtain ⟨W0, hW0⟩ : ∃ W0, W0 = (w.alloc (.cells #[.slice (some ⟨b, off, none⟩) 8 cap, .string d] 35)).alloc (.cells #[.int .i64 0, .int .i64 0, .int .i64 0, .int .i64 0, .int .i64 0, .int .i64 0, .int .i64 0, .int .i64 0, .string ⟨#[]⟩] 81) := ⟨_, rfl⟩
  have r1 : W0.heap[w.heap.size]? = some (.cells #[.slice (some ⟨b, off, none⟩) 8 cap, .string d] 35 (0, 0)) := by
    rw [hW0, Below.heap_alloc _ _ _ (by simp)]; exact heap_new w _
  have r2 : W0.heap[w.heap.size + 1]? = some (.cells #[.int .i64 0, .int .i64 0, .int .i64 0, .int .i64 0, .int .i64 0, .int .i64 0, .int .i64 0, .int .i64 0, .string ⟨#[]⟩] 81 (0, 0)) := by
    rw [hW0]; have := heap_new (w.alloc (.cells #[.slice (some ⟨b, off, none⟩) 8 cap, .string d] 35)) (.cells #[.int .i64 0, .int .i64 0, .int .i64 0, .int .i64 0, .int .i64 0, .int .i64 0, .int .i64 0, .int .i64 0, .string ⟨#[]⟩] 81); rwa [World.size_alloc] at this
  have hb0 : Below w.heap.size w W0 := by rw [hW0]; exact below_alloc (below_one w _) _
  have hs0 : W0.heap.size = w.heap.size + 2 := by rw [hW0]; simp
  have HS0 := Lib.hid hs0
  have HW0 := Lib.hid hW0
  have hC0 := hC W0 hb0
  rw [hW0] at hC0
  clear hs0 hW0 hC hv
  go_enter Tryd.func59, Tryd.ntmps59
  go_wp2_with fail
  refine hC0.mono ?_
  rintro e w3 ⟨rfl, hb3⟩
  rw [← HW0.out] at hb3
  have hbw := below_then hb0 hb3
  have q1 := (hb3.block _ (by have := HS0.out; omega)).trans r1
  have q2 := (hb3.block _ (by have := HS0.out; omega)).trans r2
  have c0 : w3.cell? ⟨w.heap.size, 0, none⟩ = some (.slice (some ⟨b, off, none⟩) 8 cap) := by unfold World.cell?; rw [q1]; rfl
  have c1 : w3.cell? ⟨w.heap.size, 1, none⟩ = some (.string d) := by unfold World.cell?; rw [q1]; rfl
  have x0 : w3.cell? ⟨b, off, none⟩ = some (.int .i64 a0) := hat w3 hbw 0 (by omega)
  have x1 : w3.cell? ⟨b, off + 1, none⟩ = some (.int .i64 a1) := hat w3 hbw 1 (by omega)
  have x2 : w3.cell? ⟨b, off + 2, none⟩ = some (.int .i64 a2) := hat w3 hbw 2 (by omega)
  have x3 : w3.cell? ⟨b, off + 3, none⟩ = some (.int .i64 a3) := hat w3 hbw 3 (by omega)
  have x4 : w3.cell? ⟨b, off + 4, none⟩ = some (.int .i64 a4) := hat w3 hbw 4 (by omega)
  have x5 : w3.cell? ⟨b, off + 5, none⟩ = some (.int .i64 a5) := hat w3 hbw 5 (by omega)
  have x6 : w3.cell? ⟨b, off + 6, none⟩ = some (.int .i64 a6) := hat w3 hbw 6 (by omega)
  have x7 : w3.cell? ⟨b, off + 7, none⟩ = some (.int .i64 a7) := hat w3 hbw 7 (by omega)
  have I81 := Lib.hid (show (Tryd.prog.info? 81).map (·.size) = some 9 by kernel_rfl)
  clear hat hC0 hb0 hb3 r1 r2 q1
  have hAA : ∀ W, Sem.run Tryd.prog (Instr.arrayAt 79 (.slice (some ⟨b, off, none⟩) 8 cap)) W = .ok (.pointer (some ⟨b, off, none⟩)) W := fun W => by
    simp [Instr.arrayAt, run_underlying Tryd.underlying79, Result.andThen]
  go_wp2_with fail
  go_still_tail 7, (by kernel_rfl)
  change wpList _ _ _ _ _ w3.drew
  have q3 : w3.drew.heap[w.heap.size + 1]? = some (.cells _ 81 (0, 0)) := q2
  have hbd := below_drew hbw
  clear c0 c1 x0 x1 x2 x3 x4 x5 x6 x7 q2 hAA hbw
  generalize w3.drew = w4 at *
  go_wp2_with (refine wpList_store_row rfl 81 (.tmp 2) (.tmp 28) rfl (w.heap.size + 1) rfl 81 _ #[.int .i64 a0, .int .i64 a1, .int .i64 a2, .int .i64 a3, .int .i64 a4, .int .i64 a5, .int .i64 a6, .int .i64 a7, .string d] rfl q3 I81.out rfl (by simp [Value.oneCell']) ?_)
  have hfin : (w4.setRow (w.heap.size + 1) #[.int .i64 a0, .int .i64 a1, .int .i64 a2, .int .i64 a3, .int .i64 a4, .int .i64 a5, .int .i64 a6, .int .i64 a7, .string d]).heap[w.heap.size + 1]? = some (.cells #[.int .i64 a0, .int .i64 a1, .int .i64 a2, .int .i64 a3, .int .i64 a4, .int .i64 a5, .int .i64 a6, .int .i64 a7, .string d] 81 (0, 0)) := setRow_heap _ _ _ _ 81 (0, 0) q3
  exact bodyPost_rowt (w.heap.size + 1) 81 _ _ hfin Tryd.underlying81 rfl I81.out rfl rfl rfl ⟨rfl, below_setRow hbd (Nat.le_succ _) _⟩

end Go.Proofs.YthohfbeelepkmaaDoor

/- audit.read of what is no total. -/
namespace Go.Proofs.YthohfbeelepkmaaDoor
open Go.RowKit Go.Shelf

set_option maxHeartbeats 2000000 in
set_option maxRecDepth 100000 in
theorem read_not (v : Value) (l : List Int) (d : ByteArray) (w : World) (hv : Ints w v .i64 l) (hok : okT l d = false) :
    Calls Tryd.prog 59 #[.agg #[v, .string d]] w fun e w' => e = .returned (.tuple #[.agg (totC (List.replicate 8 0) ⟨#[]⟩).toArray, .bool false]) ∧ Below w.heap.size w w' := by
  have hC := fun W (hW : Below w.heap.size w W) => containsFuncI v l 94 #[] (enters_of Tryd.func94 (by kernel_rfl) rfl) isLargeB W (hv.below hW) (fun W' x _ => read1_calls x W')
  obtain ⟨hlen, A, cap, rfl, hcap, hat⟩ := hv.openD
  obtain ⟨W0, hW0⟩ : ∃ W0, W0 = (w.alloc (.cells #[.slice A l.length cap, .string d] 35)).alloc (.cells #[.int .i64 0, .int .i64 0, .int .i64 0, .int .i64 0, .int .i64 0, .int .i64 0, .int .i64 0, .int .i64 0, .string ⟨#[]⟩] 81) := ⟨_, rfl⟩
  have r2 : W0.heap[w.heap.size + 1]? = some (.cells #[.int .i64 0, .int .i64 0, .int .i64 0, .int .i64 0, .int .i64 0, .int .i64 0, .int .i64 0, .int .i64 0, .string ⟨#[]⟩] 81 (0, 0)) := by
    rw [hW0]; have := heap_new (w.alloc (.cells #[.slice A l.length cap, .string d] 35)) (.cells #[.int .i64 0, .int .i64 0, .int .i64 0, .int .i64 0, .int .i64 0, .int .i64 0, .int .i64 0, .int .i64 0, .string ⟨#[]⟩] 81); rwa [World.size_alloc] at this
  have hb0 : Below w.heap.size w W0 := by rw [hW0]; exact below_alloc (below_one w _) _
  have HW0 := Lib.hid hW0
  have HR2 := Lib.hid r2
  have HB0 := Lib.hid hb0
  have I81 := Lib.hid (show (Tryd.prog.info? 81).map (·.size) = some 9 by kernel_rfl)
  have hC0 := hC W0 hb0
  have HOK := Lib.hid hok
  rw [hW0] at hC0
  clear hW0 hC hv r2 hb0 hok hat
  generalize hab : l.any isLargeB = ab at *
  have HAB := Lib.hid hab
  clear hab
  go_enter Tryd.func59, Tryd.ntmps59
  have HR3 := HR2
  have HB3 := HB0
  rw [HW0.out] at HR3 HB3
  go_wp2_with (refine wpList_store_row rfl 81 (.tmp 2) (.tmp 21) rfl (w.heap.size + 1) rfl 81 _ #[.int .i64 0, .int .i64 0, .int .i64 0, .int .i64 0, .int .i64 0, .int .i64 0, .int .i64 0, .int .i64 0, .string ⟨#[]⟩] rfl HR3.out I81.out rfl (by simp [Value.oneCell']) ?_)
  all_goals try exact bodyPost_rowt (w.heap.size + 1) 81 #[.int .i64 0, .int .i64 0, .int .i64 0, .int .i64 0, .int .i64 0, .int .i64 0, .int .i64 0, .int .i64 0, .string ⟨#[]⟩] _ (setRow_heap _ _ _ _ 81 (0, 0) HR3.out) Tryd.underlying81 rfl I81.out rfl rfl rfl ⟨rfl, below_setRow HB3.out (Nat.le_succ _) _⟩
  refine hC0.mono ?_
  rintro e w1 ⟨rfl, hb1⟩
  rename_i h8 h32 _ _ _ _
  have hab : ab = true := by
    have := HOK.out
    simp only [okT, HAB.out, Bool.and_eq_false_iff, decide_eq_false_iff_not, Bool.not_eq_false'] at this
    rcases this with (h | h) | h
    · omega
    · omega
    · exact h
  subst hab
  rw [← HW0.out] at hb1
  have HR4 := Lib.hid ((hb1.block _ (Array.getElem?_eq_some_iff.1 HR2.out).1).trans HR2.out)
  have HB4 := Lib.hid (below_then HB0.out hb1)
  clear hC0 hb1
  go_wp2_with (refine wpList_store_row rfl 81 (.tmp 2) (.tmp 21) rfl (w.heap.size + 1) rfl 81 _ #[.int .i64 0, .int .i64 0, .int .i64 0, .int .i64 0, .int .i64 0, .int .i64 0, .int .i64 0, .int .i64 0, .string ⟨#[]⟩] rfl HR4.out I81.out rfl (by simp [Value.oneCell']) ?_)
  exact bodyPost_rowt (w.heap.size + 1) 81 #[.int .i64 0, .int .i64 0, .int .i64 0, .int .i64 0, .int .i64 0, .int .i64 0, .int .i64 0, .int .i64 0, .string ⟨#[]⟩] _ (setRow_heap _ _ _ _ 81 (0, 0) HR4.out) Tryd.underlying81 rfl I81.out rfl rfl rfl ⟨rfl, below_setRow HB4.out (Nat.le_succ _) _⟩

end Go.Proofs.YthohfbeelepkmaaDoor
