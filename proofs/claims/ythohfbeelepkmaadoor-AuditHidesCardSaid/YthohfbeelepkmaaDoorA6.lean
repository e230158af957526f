/- The writer: a strings.Builder in a struct of its own. -/
import Derived.Test.YthohfbeelepkmaaDoorA0
import Derived.Lib.Builder
import Derived.Lib.AppendStr
import Derived.Lib.UnsafeStr
import Derived.Lib.Walk
import Derived.Laws.Externs
import Derived.Laws.AppendOwn
import Derived.RangeFuncNested
import Derived.RangeFuncBound
import Derived.RangeFuncCalls
import Derived.RangeFuncLeaves
import Derived.Shelf.RegionOpen
import Derived.OwnWalkIn
import Derived.TacticsInMore
import Derived.LoopNIn
import Derived.LoopIn
import Derived.Laws.Bits64b
import Derived.Laws.BitsLemmas
namespace Go.Proofs.YthohfbeelepkmaaDoor
open Go.RowKit Go.Shelf

/-- A block that a writer's work may change: its own, or bytes. -/
def IsBuf : Obj → Prop
  | .cells _ t _ => t = 130 ∨ t = 5
  | _ => False
/-- Blocks of other types keep what they hold. -/
def KeepTy (w w' : World) : Prop := ∀ (k : Nat) (o : Obj), w.heap[k]? = some o → ¬ IsBuf o → w'.heap[k]? = some o
theorem KeepTy.refl (w : World) : KeepTy w w := fun _ _ h _ => h
theorem KeepTy.trans {w w1 w2 : World} (h : KeepTy w w1) (k : KeepTy w1 w2) : KeepTy w w2 := fun i o ho hn => k i o (h i o ho hn) hn
theorem KeepTy.drew {w w' : World} (h : KeepTy w w') : KeepTy w w'.drew := h
theorem KeepTy.of_below {w w' : World} (h : Below w.heap.size w w') : KeepTy w w' := fun k o ho _ => by
  rw [h.block k (Array.getElem?_eq_some_iff.1 ho).1]; exact ho
theorem KeepTy.alloc {w w' : World} (h : KeepTy w w') (o : Obj) : KeepTy w (w'.alloc o) := h.trans (.of_below (below_one w' o))
theorem KeepTy.setCell {w w' : World} (h : KeepTy w w') {b : Nat} {o : Obj} (hb : w'.heap[b]? = some o) (ho : IsBuf o) (i : Nat) (v : Value) : KeepTy w (w'.setCell ⟨b, i, none⟩ v) := fun k x hx hn => by
  have h1 := h k x hx hn
  by_cases e : b = k
  · subst e; rw [hb] at h1; cases h1; exact absurd ho hn
  · rw [Below.heap_setCell _ _ _ _ (fun e' => e e'.symm)]; exact h1
theorem KeepTy.cell {w w' : World} (h : KeepTy w w') {k j : Nat} {o : Obj} (hk : w.heap[k]? = some o) (ho : ¬ IsBuf o) : w'.cell? ⟨k, j, none⟩ = w.cell? ⟨k, j, none⟩ := by
  have e := h k o hk ho
  unfold World.cell?
  simp only [e, hk]

/-- The writer at block b holds s; from B on all is its call's own. -/
def Wb (B b : Nat) (s : ByteArray) (w : World) : Prop := Lib.IsBuilder 130 5 B b (Lib.strCells s) w

theorem strCells_append (s t : ByteArray) : Lib.strCells (s ++ t) = Lib.strCells s ++ Lib.strCells t := by simp [Lib.strCells, ByteArray.data_append]

theorem Wb.new (w : World) : Wb w.heap.size w.heap.size .empty (w.alloc (.cells #[.pointer none, .slice none 0 0] 130)) := Lib.fresh_isBuilder 130 5 w

set_option maxHeartbeats 1000000 in
set_option maxRecDepth 100000 in
theorem copyCheck_used (b : Nat) (w : World) (h0 : w.cell? ⟨b, 0, none⟩ = some (.pointer (some ⟨b, 0, none⟩))) :
    Calls Tryd.prog 108 #[.pointer (some ⟨b, 0, none⟩)] w fun e w' => e = .returned (.tuple #[]) ∧ w' = w := by
  obtain ⟨j, hj, _⟩ := Option.map_eq_some_iff.1 (show (Tryd.prog.info? 128).map (·.size) = some 2 by kernel_rfl)
  go_enter Tryd.func108, Tryd.ntmps108
  go_wp2
  rw [Lib.run_neq_ptr_same w _ (by kernel_rfl) hj]
  go_wp2
  go_end0
  exact ⟨rfl, rfl⟩

set_option maxHeartbeats 1000000 in
set_option maxRecDepth 100000 in
theorem copyCheck_fresh (b : Nat) (w : World) (h0 : w.cell? ⟨b, 0, none⟩ = some (.pointer none)) (hsh : w.shape? b = some (130, 2)) (hfz : w.frozen? ⟨b, 0, none⟩ = false) :
    Calls Tryd.prog 108 #[.pointer (some ⟨b, 0, none⟩)] w fun e w' => e = .returned (.tuple #[]) ∧ w' = w.setCell ⟨b, 0, none⟩ (.pointer (some ⟨b, 0, none⟩)) := by
  obtain ⟨j, hj, hjs⟩ := Option.map_eq_some_iff.1 (show (Tryd.prog.info? 128).map (·.size) = some 2 by kernel_rfl)
  go_enter Tryd.func108, Tryd.ntmps108
  go_wp2
  rw [Lib.run_to_unsafe w ⟨b, 0, none⟩ (by kernel_rfl) (by kernel_rfl) hj (by rw [hjs]; decide) hsh (Nat.zero_lt_succ 1)]
  simp only [Result.andThen]
  rw [Oper.upon_value]
  go_wp2
  rw [run_callFunc_extern Tryd.func117 (by kernel_rfl) (by kernel_rfl) (by kernel_rfl) (e := Extern.AbiNoEscape.same) (by kernel_rfl)]
  rw [Lib.run_noEscape]
  simp only [Result.andThen]
  rw [Oper.upon_value]
  go_wp2
  rw [Lib.run_from_unsafe w ⟨b, 0, none⟩ (by kernel_rfl) (by kernel_rfl) hj hsh (by kernel_rfl)]
  simp only [Result.andThen]
  rw [Oper.upon_value]
  go_wp2
  go_end0
  exact ⟨rfl, rfl⟩

theorem copyCheck_calls (B b : Nat) (bs : List Value) (w : World) (h : Lib.IsBuilder 130 5 B b bs w) :
    Calls Tryd.prog 108 #[.pointer (some ⟨b, 0, none⟩)] w fun e w' => e = .returned (.tuple #[]) ∧ (Lib.BuilderAt 130 5 B b (.pointer (some ⟨b, 0, none⟩)) bs w' ∧ Below B w w' ∧ KeepTy w w') := by
  rcases h with h | h
  · refine (copyCheck_fresh b w h.cell0 h.shape h.frozen0).mono ?_
    rintro e w' ⟨rfl, rfl⟩
    obtain ⟨_, v, hbk, _⟩ := id h
    exact ⟨rfl, h.used _, (Below.refl B w).setCell (p := ⟨b, 0, none⟩) h.1 _, (KeepTy.refl w).setCell hbk (Or.inl rfl) _ _⟩
  · refine (copyCheck_used b w h.cell0).mono ?_
    rintro e w' ⟨rfl, rfl⟩
    exact ⟨rfl, h, Below.refl B _, KeepTy.refl _⟩

set_option maxHeartbeats 2000000 in
set_option maxRecDepth 100000 in
theorem WriteString_calls (B b : Nat) (s t : ByteArray) (w : World) (h : Wb B b s w) (hlen : s.size + t.size ≤ 140737488355328) (hBw : B ≤ w.heap.size) :
    Calls Tryd.prog 91 #[.pointer (some ⟨b, 0, none⟩), .string t] w fun e w' => e = .returned (.tuple #[.int .i64 t.size, .nilIface]) ∧ (Wb B b (s ++ t) w' ∧ Below B w w' ∧ KeepTy w w') := by
  obtain ⟨i0, hi, hz0, hz1, hz2⟩ := info_parts (show (Tryd.prog.info? 5).map (fun i => (i.zero, i.size, i.bytes)) = some (some (.int .u8 0), 1, 1) by kernel_rfl)
  unfold Wb at *
  rw [strCells_append]
  rw [← Lib.strCells_length s] at hlen
  generalize Lib.strCells s = bs at *
  go_enter Tryd.func91, Tryd.ntmps91
  go_wp2_with (go_at_call 108; refine (copyCheck_calls B b bs _ h).mono ?_)
  rintro e w1 ⟨rfl, h1, hb1, hk1⟩
  obtain ⟨hB, v, hbk, hown, hne⟩ := h1
  have c0 : w1.cell? ⟨b, 0, none⟩ = some (.pointer (some ⟨b, 0, none⟩)) := by rw [Lib.cell_of_heap hbk]; rfl
  have c1 : w1.cell? ⟨b, 1, none⟩ = some v := by rw [Lib.cell_of_heap hbk]; rfl
  go_wp2_with (at_builtin; refine Lib.wpList_append_own_string _ rfl _ _ 66 9 rfl B 5 i0 (by kernel_rfl) (by kernel_rfl) hi hz0 hz1 hz2 _ _ _ rfl hown t rfl ?c3 ?c4 ?c5 ?_)
  case c3 => unfold maxLen; omega
  case c4 => omega
  case c5 => have := hb1.size; omega
  intro v' w2 hown' hgrow _
  have hlt : b < w1.heap.size := by
    rcases Nat.lt_or_ge b w1.heap.size with h' | h'
    · exact h'
    · simp [Array.getElem?_eq_none h'] at hbk
  have hb2 : w2.heap[b]? = some (.cells #[.pointer (some ⟨b, 0, none⟩), v] 130 (0, 0)) := by
    rw [hgrow.block b hlt (fun e => hne e.symm)]
    exact hbk
  have hk2 : KeepTy w w2 := fun k o ho hn => by
    have h1 := hk1 k o ho hn
    refine (hgrow.block k (Array.getElem?_eq_some_iff.1 h1).1 (fun e => ?_)).trans h1
    rcases hown.2 with ⟨hv, _⟩ | ⟨g, cap, cur, hv, _, hg, _⟩
    · rw [hv] at e; cases e
    · rw [hv] at e; simp only [Value.ownBlock, Option.some.injEq] at e; subst e; rw [hg] at h1; cases h1; exact hn (Or.inr rfl)
  have d0 : w2.cell? ⟨b, 0, none⟩ = some (.pointer (some ⟨b, 0, none⟩)) := by rw [Lib.cell_of_heap hb2]; rfl
  have d1 : w2.cell? ⟨b, 1, none⟩ = some v := by rw [Lib.cell_of_heap hb2]; rfl
  have f1 : w2.frozen? ⟨b, 1, none⟩ = false := Lib.frozen_of_heap hb2 1
  obtain ⟨ao, n', cap, rfl⟩ : ∃ ao n' cap, v' = .slice ao n' cap := by
    rcases hown'.2 with ⟨hv, _⟩ | ⟨g, cap, cur, hv, _⟩
    · exact ⟨_, _, _, hv⟩
    · exact ⟨_, _, _, hv⟩
  go_wp2
  go_ret2
  refine ⟨rfl, ?_, ?_, ?_⟩
  · exact Or.inr (Lib.BuilderAt.put (T := 130) (e := 5) hB hb2 (bs' := bs ++ Lib.strCells t) (by simpa [Lib.strCells_length] using hown') (by decide))
  · exact (hb1.grown hgrow (by have := hb1.size; omega) (fun k hk => (hown.lt k hk).1)).setCell (p := ⟨b, 1, none⟩) hB _
  · exact hk2.setCell hb2 (Or.inl rfl) _ _

set_option maxHeartbeats 2000000 in
set_option maxRecDepth 100000 in
theorem String_calls (B b : Nat) (s : ByteArray) (w : World) (h : Wb B b s w) (h0 : 0 < s.size) :
    Calls Tryd.prog 92 #[.pointer (some ⟨b, 0, none⟩)] w fun e w' => e = .returned (.string s) ∧ Below B w w' := by
  obtain ⟨⟨l⟩⟩ := s
  have h : Lib.IsBuilder 130 5 B b (Lib.byteCells l) w := h
  have h0 : l ≠ [] := by rintro rfl; simp [ByteArray.size] at h0
  obtain ⟨p, hB, v, hbk, hown, hne⟩ : ∃ p, Lib.BuilderAt 130 5 B b p (Lib.byteCells l) w := by
    rcases h with h | h
    · exact ⟨_, h⟩
    · exact ⟨_, h⟩
  have hl0 : l.length ≠ 0 := by simpa using h0
  rw [Lib.byteCells_length] at hown
  obtain ⟨g, cap, cur, rfl, hbg, hg, hnc, hcm, hcs, htake⟩ : ∃ g cap cur, v = .slice (some ⟨g, 0, none⟩) l.length cap ∧ B ≤ g ∧ w.heap[g]? = some (.cells cur 5 (0, 0)) ∧ l.length ≤ cap ∧ cap ≤ maxLen ∧ cur.size = cap * 1 ∧ cur.toList.take (l.length * 1) = Lib.byteCells l := by
    rcases hown.2 with ⟨_, hz⟩ | ⟨g, cap, cur, hv, r⟩
    · exact absurd hz hl0
    · exact ⟨g, cap, cur, hv, r⟩
  have c1 : w.drew.cell? ⟨b, 1, none⟩ = some (.slice (some ⟨g, 0, none⟩) l.length cap) := by
    have : w.drew.heap[b]? = some (.cells #[p, .slice (some ⟨g, 0, none⟩) l.length cap] 130 (0, 0)) := hbk
    rw [Lib.cell_of_heap this]; rfl
  have hSD : (Builtin.unsafeSliceData_ #[66] 156 #[.slice (some ⟨g, 0, none⟩) l.length cap]).run Tryd.prog w.drew = .ok (.pointer (some ⟨g, 0, none⟩)) w.drew :=
    Lib.run_unsafeSliceData_row _ _ _ _ _ _ (by omega)
  have hUS : (Builtin.unsafeString_ #[156, 3] 9 #[.pointer (some ⟨g, 0, none⟩), .int .i64 l.length]).run Tryd.prog w.drew = .ok (.string ⟨l.toArray⟩) (w.drew.freeze ⟨g, 0, none⟩ l.length) := by
    refine Lib.run_unsafeString_row w.drew 156 3 9 5 (by kernel_rfl) (by kernel_rfl) g cur.size (by have hg' : w.drew.heap[g]? = some (.cells cur 5 (0, 0)) := hg; simp [World.shape?, hg']) l h0 (by omega) (by unfold maxLen at hcm; omega) ?_
    intro j x hx
    have := hown.cells (g := g) rfl j (.int .u8 x.toNat) (by simp [Lib.byteCells, hx])
    exact this
  go_enter Tryd.func92, Tryd.ntmps92
  go_wp2
  go_region
  all_goals (go_wp2; go_ret; exact ⟨rfl, Lib.below_freeze (Below.drew (Below.refl B w)) (p := ⟨g, 0, none⟩) hbg _⟩)

end Go.Proofs.YthohfbeelepkmaaDoor

/- A range over a function: one law, at the wide fence, whose bookkeeping is the caller's choice. -/
namespace Go.Proofs.YthohfbeelepkmaaDoor
open Go.RowKit Go.Shelf

/-- What an iterator owes whose own steps on the world keep to St, where its rounds keep to Kp. -/
def SeqG {α : Type} (P : Program) (g : Nat) (lb : Array Value) (encs : α → Array Value) (Kp St : World → World → Prop) (S : List α → Prop) (N : List α → α → Prop) (W : World) : Prop :=
  ∀ (l : Nat) (J : List α → World → Prop),
    (∀ s A B, St A B → J s A → J s B) →
    (∀ pre x W1, J pre W1 → N pre x → YieldAt Fence.wide 3 P l (encs x) W1 fun e W' => e = .returned (.bool true) ∧ J (pre ++ [x]) W' ∧ Kp W1 W') →
    J [] W →
    Calls P g (#[.func (.yield l) #[] #[]] ++ lb) W fun e W' => (∃ v, e = .returned v) ∧ ∃ xs, S xs ∧ J xs W'

/-- What is no cells lies as it lay. -/
def KeepNC (w w' : World) : Prop := ∀ (k : Nat) (o : Obj), w.heap[k]? = some o → o.isCells = false → w'.heap[k]? = some o
theorem KeepNC.refl (w : World) : KeepNC w w := fun _ _ h _ => h
theorem KeepNC.trans {w w1 w2 : World} (h : KeepNC w w1) (k : KeepNC w1 w2) : KeepNC w w2 := fun i o ho hn => k i o (h i o ho hn) hn
theorem KeepNC.of_below {w w' : World} (h : Below w.heap.size w w') : KeepNC w w' := fun k o ho _ => by
  rw [h.block k (Array.getElem?_eq_some_iff.1 ho).1]; exact ho
theorem KeepNC.alloc {w w' : World} (h : KeepNC w w') (o : Obj) : KeepNC w (w'.alloc o) := h.trans (.of_below (below_one w' o))
theorem KeepNC.drew {w w' : World} (h : KeepNC w w') : KeepNC w w'.drew := h
theorem KeepNC.drewN {w w' : World} (h : KeepNC w w') (n : Nat) : KeepNC w (w'.drewN n) := h
theorem KeepNC.setCell {w w' : World} (h : KeepNC w w') (a : Addr) (v : Value) : KeepNC w (w'.setCell a v) := fun k o hk ho => by
  have h1 := h k o hk ho
  by_cases e : k = a.block
  · subst e
    simp only [World.setCell, Array.getElem?_modify, if_true, h1, Option.map_some]
    cases o <;> simp_all [Obj.isCells]
  · rw [Below.heap_setCell _ _ _ _ e]; exact h1
theorem KeepNC.others {w w' : World} (h : KeepsOthers w w') : KeepNC w w' := fun k o hk ho => h.same k o hk ho
theorem KeepNC.ty {w w' : World} (h : KeepTy w w') : KeepNC w w' := fun k o hk ho => h k o hk (by cases o <;> simp_all [Obj.isCells, IsBuf])

/-- How a round's body ends. -/
def bodyEnds {α : Type} (Kp : World → World → Prop) (I : List α → World → Prop) (xs : List α) (W : World) : Exit → Act → World → Prop
  | .normal, _, W' => KeepNC W W' ∧ Kp W W' ∧ I xs W'
  | _, _, _ => False

set_option maxHeartbeats 1000000 in
theorem wp_rangeFunc {α : Type} {P : Program} {g : Operand} {ps : Array Tmp} {assign body : Code} {Q : Exit → Act → World → Prop} {a : Act} {w : World}
    {gf : Nat} {lb : Array Value} (hg : a.eval g = .func (.func gf) #[] lb) (eg : ∀ args w, (callFunc gf args).run P w = .ok (.enter gf args) w)
    {encs : α → Array Value} {Kp St : World → World → Prop} {S : List α → Prop} {N : List α → α → Prop}
    (hseq : ∀ o, SeqG P gf lb encs Kp St S N ((w.alloc (.deferred (some []))).alloc (.loop o)))
    (hKt : ∀ {A B C : World}, Kp A B → Kp B C → Kp A C) (hKb : ∀ (W : World) (o o' : Loop), W.heap[w.heap.size + 1]? = some (.loop o) → Kp W (W.putObj (w.heap.size + 1) (.loop o')))
    (hSt : ∀ A B (k : Nat) (o : Obj), St A B → k < w.heap.size + 2 → A.heap[k]? = some o → o.isCells = false → B.heap[k]? = some o)
    (hps : ∀ x, (encs x).size = ps.size)
    (I : List α → World → Prop) (hIs : ∀ s A B, St A B → I s A → I s B) (hIp : ∀ s W (o o' : Loop), W.heap[w.heap.size + 1]? = some (.loop o) → I s W → I s (W.putObj (w.heap.size + 1) (.loop o')))
    (h0 : ∀ o, I [] ((w.alloc (.deferred (some []))).alloc (.loop o))) (a₁ : α → Act)
    (hassign : ∀ (l : Nat) (x : α) (W : World) (K : Act → World → Prop), K (a₁ x) W →
      assign.wpIn (Fence.wide.inRound l) 3 P (Exit.then K (fun _ _ _ => False)) { tmps := (ps.zip (encs x)).foldl (fun t (p, v) => t.setIfInBounds p v) a.tmps, defers := [] } W)
    (hbody : ∀ (l : Nat) (pre : List α) (x : α) (W : World), I pre W → N pre x → w.heap.size + 2 ≤ W.heap.size → body.wpIn (Fence.wide.inRound l) 3 P (bodyEnds Kp I (pre ++ [x]) W) (a₁ x) W)
    (hdone : ∀ (xs : List α) (W : World), S xs → I xs W → W.heap[w.heap.size]? = some (.deferred (some [])) → Q .normal { a with defers := { target := .collected w.heap.size, args := #[] } :: a.defers } W) :
    (Code.rangeFunc g ps assign body).wp P Q a w := by
  refine (wpIn_wide (n := 4)).1 (wpIn_rangeFunc ?_)
  intro fn _
  obtain ⟨rec, hrec⟩ : ∃ rec : LoopState → Option Code → Loop, rec = fun st pe => { state := st, pending := pe, fn, tmps := a.tmps, params := ps, assign, body, defers := w.heap.size } := ⟨_, rfl⟩
  obtain ⟨W1, hW1⟩ : ∃ W1, (w.alloc (.deferred (some []))).alloc (.loop (rec .ready none)) = W1 := ⟨_, rfl⟩
  have hL1 : W1.heap[w.heap.size + 1]? = some (.loop (rec .ready none)) := by
    rw [← hW1]; have := World.alloc_heap_new (w.alloc (.deferred (some []))) (.loop (rec .ready none)); rwa [World.size_alloc] at this
  have hK1 : W1.heap[w.heap.size]? = some (.deferred (some [])) := by
    rw [← hW1]; exact (Below.heap_alloc _ _ _ (by simp)).trans (World.alloc_heap_new w _)
  have hI1 : I [] W1 := by rw [← hW1]; exact h0 _
  refine ⟨w.heap.size + 1, [{ target := .collected w.heap.size, args := #[] }], W1, { target := .fn (.func gf) lb, args := #[.func (.yield (w.heap.size + 1)) #[] #[]] }, W1, gf,
    #[.func (.yield (w.heap.size + 1)) #[] #[]] ++ lb, W1, ?_, ?_, ?_, ?_, fun _ => by omega, ?_⟩
  · rw [← hW1, hrec]; exact run_enterLoop_outer _ _ _ _ _
  · simp only [resolve, hg]
    simp [go_sem]
  · intro f' _; trivial
  · simp [invoke, go_sem, eg]
  · have hs := hseq (rec .ready none)
    rw [hW1] at hs
    refine ((callsIn_wide (n := 4 - 1)).2 (hs (w.heap.size + 1)
      (fun pre W => I pre W ∧ W.heap[w.heap.size + 1]? = some (.loop (rec .ready none)) ∧ W.heap[w.heap.size]? = some (.deferred (some [])))
      (fun s A B hst h => ⟨hIs s A B hst h.1, hSt A B _ _ hst (by omega) h.2.1 rfl, hSt A B _ _ hst (by omega) h.2.2 rfl⟩)
      ?_ ⟨hI1, hL1, hK1⟩)).mono ?_
    · rintro pre x W ⟨hi, hl, hk⟩ hN
      have hlt : w.heap.size + 1 < W.heap.size := (Array.getElem?_eq_some_iff.1 hl).1
      have hy := run_yield (P := P) (args := encs x) hl (by rw [hrec]; exact hps x)
      rw [hrec] at hy
      refine ⟨fn, _, assign, body, hy, roundIn_of_wpIn trivial (hassign _ x W _ ⟨_, run_beginRound hl (by rw [hrec]), ?_⟩)⟩
      have hl2 : (W.putObj (w.heap.size + 1) (.loop { rec .ready none with state := .busy })).heap[w.heap.size + 1]? = some (.loop { rec .ready none with state := .busy }) := World.putObj_heap_same hlt
      have hk2 : (W.putObj (w.heap.size + 1) (.loop { rec .ready none with state := .busy })).heap[w.heap.size]? = some (.deferred (some [])) := (World.putObj_heap_other (by omega)).trans hk
      have hw2 : Kp W (W.putObj (w.heap.size + 1) (.loop { rec .ready none with state := .busy })) := hKb _ _ _ hl
      refine wpIn_mono (hbody _ pre x _ (hIp _ _ _ _ hl hi) hN (by simp; omega)) ?_
      rintro e a3 W3 hp
      cases e with
      | normal =>
        obtain ⟨hk3, hkp3, hi3⟩ := hp
        have hl3 := hk3 _ _ hl2 rfl
        have hend := run_endRound (P := P) none hl3
        have hlt3 := (Array.getElem?_eq_some_iff.1 hl3).1
        refine ⟨_, _, hend, rfl, ⟨hIp _ _ _ _ hl3 hi3, ?_, ?_⟩, hKt (hKt hw2 hkp3) (hKb _ _ _ hl3)⟩
        · rw [World.putObj_heap_same hlt3, hrec]; rfl
        · exact (World.putObj_heap_other (by omega)).trans (hk3 _ _ hk2 rfl)
      | ret => exact hp.elim
      | exit id => exact hp.elim
      | goto t => exact hp.elim
      | panic ch => exact hp.elim
      | outgrown => exact hp.elim
    · rintro e W2 ⟨⟨v, rfl⟩, xs, hS, hi, hl, hk⟩
      exact ⟨none, _, by have := run_endLoop (P := P) hl (by rw [hrec]; simp); rw [hrec] at this; exact this, hdone xs _ hS (hIp _ _ _ _ hl hi) ((World.putObj_heap_other (by omega)).trans hk)⟩

/-- A function's contract from its body, where the body holds a range over a function. -/
theorem calls_of_wp_marks {P : Program} {f : FuncId} {fn : Func} {c : Code} {args : Array Value} {w : World} {R : Ending → World → Prop}
    (hf : P.funcs[f]? = some fn) (hb : fn.body = some c)
    (h : c.wp P (bodyPostM Fence.wide 3 P fn R) { tmps := args ++ Array.replicate (fn.ntmps - args.size) undef, defers := [] } w) : Calls P f args w R :=
  (callsIn_wide (n := 3)).1 (callsIn_of_wp_marks hf hb trivial (wpIn_wide.2 h))

end Go.Proofs.YthohfbeelepkmaaDoor

/- wire.PutInt: the groups of 7 bits, and what the loop makes of them. -/
namespace Go.Proofs.YthohfbeelepkmaaDoor
open Go.RowKit Go.Shelf
attribute [local go_sem] Oper.semAt_some

/-- The groups of 7 bits, the least significant one first, and whether it is the last. -/
def grp (z : Nat) : List (Int × Bool) := if h : z < 128 then [((z : Int), true)] else ((z % 128 : Nat), false) :: grp (z / 128)
termination_by z
decreasing_by omega

def encG (x : Int × Bool) : Array Value := #[.int .u8 x.1, .bool x.2]
def KpZ (b : Nat) (A B : World) : Prop := B.cell? ⟨b, 0, none⟩ = A.cell? ⟨b, 0, none⟩ ∧ B.frozen? ⟨b, 0, none⟩ = A.frozen? ⟨b, 0, none⟩
def StZ (b : Nat) (A B : World) : Prop := ∃ v, B = A.setCell ⟨b, 0, none⟩ v

set_option maxHeartbeats 2000000 in
set_option maxRecDepth 100000 in
theorem groups1_seq (b z : Nat) (hz : z < 18446744073709551616) (W : World) (hc : W.cell? ⟨b, 0, none⟩ = some (.int .u64 z)) (hf : W.frozen? ⟨b, 0, none⟩ = false) :
    SeqG Tryd.prog 112 #[.pointer (some ⟨b, 0, none⟩)] encG (KpZ b) (StZ b) (fun xs => xs = grp z) (fun pre x => ∃ r, grp z = pre ++ x :: r) W := by
  intro l J hJ hY h0
  refine (callsIn_wide (n := 4)).1 (callsIn_of_wp Tryd.func112 rfl trivial ?_ rfl)
  simp only [Tryd.ntmps112, List.size_toArray, List.length_cons, List.length_nil, Nat.reduceAdd, Nat.reduceSub, Array.replicate_succ, Array.replicate_zero, List.push_toArray, List.append_toArray, List.nil_append, List.cons_append]
  gi_wp2
  gi_loopw [3] (fun s3 wr => ∃ (pre : List (Int × Bool)) (zz : Nat), grp z = pre ++ grp zz ∧ zz < 18446744073709551616 ∧ wr.cell? ⟨b, 0, none⟩ = some (.int .u64 zz) ∧ wr.frozen? ⟨b, 0, none⟩ = false ∧ J pre wr)
    (fun _ wr => match wr.cell? ⟨b, 0, none⟩ with | some (.int _ v) => v.toNat | _ => 0)
  case atStart => exact ⟨[], z, rfl, hz, hc, hf, h0⟩
  case round =>
    obtain ⟨pre, zz, hg, hzz, c0, f0, hJs⟩ := hrel
    have h127 : bits .and .u64 (zz : Int) 127 = ((zz % 128 : Nat) : Int) := by
      rw [show (127 : Int) = ((127 : Nat) : Int) from rfl, bits_and_u64_nat zz 127 hzz (by decide)]
      exact congrArg _ (Nat.and_two_pow_sub_one_eq_mod zz 7)
    have hw : bits .and .u64 (zz : Int) 127 % 256 = ((zz % 128 : Nat) : Int) := by
      rw [h127]; omega
    obtain ⟨xl, hxl⟩ : ∃ xl : List (Int × Bool), xl = if zz < 128 then [] else grp (zz / 128) := ⟨_, rfl⟩
    have e : grp zz = (bits .and .u64 (zz : Int) 127 % 256, decide ((zz : Int) < 128)) :: xl := by
      rw [grp, hw, hxl]
      by_cases hl : zz < 128
      · have h2 : (zz : Int) < 128 := by omega
        simp [hl, h2]; omega
      · have h2 : ¬ (zz : Int) < 128 := by omega
        simp [hl, h2]
    rw [e] at hg
    obtain ⟨fn, tmps, assign, body, hy, hR⟩ := hY pre (bits .and .u64 (zz : Int) 127 % 256, decide ((zz : Int) < 128)) wr hJs ⟨xl, hg⟩
    simp only [encG] at hy
    have HW := Lib.hid hw
    have HX := Lib.hid hxl
    have HG := Lib.hid hg
    have HC := Lib.hid c0
    clear hY hw h127 hxl hg e
    gi_wp2
    refine hR.mono ?_
    rintro e W3 ⟨rfl, hJ3, hk3, hk4⟩
    rw [c0] at hk3
    rw [f0] at hk4
    by_cases hl : (zz : Int) < 128
    · gi_wp2
      refine bodyPost_ret (results_none rfl _ _ _) rfl ?_
      have h1 := HX.out
      rw [if_pos (by omega)] at h1
      subst h1
      exact ⟨⟨_, rfl⟩, _, HG.out.symm, hJ3⟩
    · gi_wp2
      have h1 := HX.out
      rw [if_neg (by omega)] at h1
      subst h1
      have hc2 : (W3.setCell ⟨b, 0, none⟩ (.int .u64 ((zz : Int) / 128))).cell? ⟨b, 0, none⟩ = some (.int .u64 ((zz / 128 : Nat) : Int)) := by
        rw [World.cell?_setCell_same' _ _ _ (by rw [hk3]; rfl)]; simp
      refine ⟨⟨_, zz / 128, by rw [HG.out]; simp, by omega, hc2, by rw [World.frozen?_setCell]; exact hk4, hJ _ _ _ ⟨_, rfl⟩ hJ3⟩, ?_⟩
      rw [hc2, HC.out]
      simp only [Int.toNat_natCast]
      omega

theorem groups_calls (z : Nat) (w : World) :
    Calls Tryd.prog 105 #[.int .u64 z] w fun e w' => e = .returned (.func (.func 112) #[] #[.pointer (some ⟨w.heap.size, 0, none⟩)]) ∧ w' = w.alloc (.cells #[.int .u64 z] 152) := by
  go_enter Tryd.func105, Tryd.ntmps105
  go_wp2
  go_ret
  exact ⟨rfl, rfl⟩

/-- The bytes of an integer's encoding. -/
def varint (l : List (Int × Bool)) : List Int := l.map fun x => if x.2 then x.1 else bits .or .u8 x.1 128

end Go.Proofs.YthohfbeelepkmaaDoor

/- The law of a range over a function, where what is handed over is known of the world. -/
namespace Go.Proofs.YthohfbeelepkmaaDoor
open Go.RowKit Go.Shelf

/-- What an iterator owes whose own steps on the world keep to St, where its rounds keep to Kp. -/
def SeqW {α : Type} (P : Program) (g : Nat) (lb : Array Value) (encs : α → Array Value) (Kp St : World → World → Prop) (S : List α → Prop) (N : List α → α → World → Prop) (W : World) : Prop :=
  ∀ (l : Nat) (J : List α → World → Prop),
    (∀ s A B, St A B → J s A → J s B) →
    (∀ pre x W1, J pre W1 → N pre x W1 → YieldAt Fence.wide 3 P l (encs x) W1 fun e W' => e = .returned (.bool true) ∧ J (pre ++ [x]) W' ∧ Kp W1 W') →
    J [] W →
    Calls P g (#[.func (.yield l) #[] #[]] ++ lb) W fun e W' => (∃ v, e = .returned v) ∧ ∃ xs, S xs ∧ J xs W'

set_option maxHeartbeats 1000000 in
theorem wp_rangeFuncW {α : Type} {P : Program} {g : Operand} {ps : Array Tmp} {assign body : Code} {Q : Exit → Act → World → Prop} {a : Act} {w : World}
    {gf : Nat} {lb : Array Value} (hg : a.eval g = .func (.func gf) #[] lb) (eg : ∀ args w, (callFunc gf args).run P w = .ok (.enter gf args) w)
    {encs : α → Array Value} {Kp St : World → World → Prop} {S : List α → Prop} {N : List α → α → World → Prop}
    (hseq : ∀ o, SeqW P gf lb encs Kp St S N ((w.alloc (.deferred (some []))).alloc (.loop o)))
    (hKt : ∀ {A B C : World}, Kp A B → Kp B C → Kp A C) (hKb : ∀ (W : World) (o o' : Loop), W.heap[w.heap.size + 1]? = some (.loop o) → Kp W (W.putObj (w.heap.size + 1) (.loop o')))
    (hSt : ∀ A B (k : Nat) (o : Obj), St A B → k < w.heap.size + 2 → A.heap[k]? = some o → o.isCells = false → B.heap[k]? = some o)
    (hps : ∀ x, (encs x).size = ps.size)
    (I : List α → World → Prop) (hIs : ∀ s A B, St A B → I s A → I s B) (hIp : ∀ s W (o o' : Loop), W.heap[w.heap.size + 1]? = some (.loop o) → I s W → I s (W.putObj (w.heap.size + 1) (.loop o')))
    (hNp : ∀ pre x W (o o' : Loop), W.heap[w.heap.size + 1]? = some (.loop o) → N pre x W → N pre x (W.putObj (w.heap.size + 1) (.loop o')))
    (h0 : ∀ o, I [] ((w.alloc (.deferred (some []))).alloc (.loop o))) (a₁ : α → Act)
    (hassign : ∀ (l : Nat) (x : α) (W : World) (K : Act → World → Prop), K (a₁ x) W →
      assign.wpIn (Fence.wide.inRound l) 3 P (Exit.then K (fun _ _ _ => False)) { tmps := (ps.zip (encs x)).foldl (fun t (p, v) => t.setIfInBounds p v) a.tmps, defers := [] } W)
    (hbody : ∀ (l : Nat) (pre : List α) (x : α) (W : World), I pre W → N pre x W → w.heap.size + 2 ≤ W.heap.size → body.wpIn (Fence.wide.inRound l) 3 P (bodyEnds Kp I (pre ++ [x]) W) (a₁ x) W)
    (hdone : ∀ (xs : List α) (W : World), S xs → I xs W → W.heap[w.heap.size]? = some (.deferred (some [])) → Q .normal { a with defers := { target := .collected w.heap.size, args := #[] } :: a.defers } W) :
    (Code.rangeFunc g ps assign body).wp P Q a w := by
  refine (wpIn_wide (n := 4)).1 (wpIn_rangeFunc ?_)
  intro fn _
  obtain ⟨rec, hrec⟩ : ∃ rec : LoopState → Option Code → Loop, rec = fun st pe => { state := st, pending := pe, fn, tmps := a.tmps, params := ps, assign, body, defers := w.heap.size } := ⟨_, rfl⟩
  obtain ⟨W1, hW1⟩ : ∃ W1, (w.alloc (.deferred (some []))).alloc (.loop (rec .ready none)) = W1 := ⟨_, rfl⟩
  have hL1 : W1.heap[w.heap.size + 1]? = some (.loop (rec .ready none)) := by
    rw [← hW1]; have := World.alloc_heap_new (w.alloc (.deferred (some []))) (.loop (rec .ready none)); rwa [World.size_alloc] at this
  have hK1 : W1.heap[w.heap.size]? = some (.deferred (some [])) := by
    rw [← hW1]; exact (Below.heap_alloc _ _ _ (by simp)).trans (World.alloc_heap_new w _)
  have hI1 : I [] W1 := by rw [← hW1]; exact h0 _
  refine ⟨w.heap.size + 1, [{ target := .collected w.heap.size, args := #[] }], W1, { target := .fn (.func gf) lb, args := #[.func (.yield (w.heap.size + 1)) #[] #[]] }, W1, gf,
    #[.func (.yield (w.heap.size + 1)) #[] #[]] ++ lb, W1, ?_, ?_, ?_, ?_, fun _ => by omega, ?_⟩
  · rw [← hW1, hrec]; exact run_enterLoop_outer _ _ _ _ _
  · simp only [resolve, hg]
    simp [go_sem]
  · intro f' _; trivial
  · simp [invoke, go_sem, eg]
  · have hs := hseq (rec .ready none)
    rw [hW1] at hs
    refine ((callsIn_wide (n := 4 - 1)).2 (hs (w.heap.size + 1)
      (fun pre W => I pre W ∧ W.heap[w.heap.size + 1]? = some (.loop (rec .ready none)) ∧ W.heap[w.heap.size]? = some (.deferred (some [])))
      (fun s A B hst h => ⟨hIs s A B hst h.1, hSt A B _ _ hst (by omega) h.2.1 rfl, hSt A B _ _ hst (by omega) h.2.2 rfl⟩)
      ?_ ⟨hI1, hL1, hK1⟩)).mono ?_
    · rintro pre x W ⟨hi, hl, hk⟩ hN
      have hlt : w.heap.size + 1 < W.heap.size := (Array.getElem?_eq_some_iff.1 hl).1
      have hy := run_yield (P := P) (args := encs x) hl (by rw [hrec]; exact hps x)
      rw [hrec] at hy
      refine ⟨fn, _, assign, body, hy, roundIn_of_wpIn trivial (hassign _ x W _ ⟨_, run_beginRound hl (by rw [hrec]), ?_⟩)⟩
      have hl2 : (W.putObj (w.heap.size + 1) (.loop { rec .ready none with state := .busy })).heap[w.heap.size + 1]? = some (.loop { rec .ready none with state := .busy }) := World.putObj_heap_same hlt
      have hk2 : (W.putObj (w.heap.size + 1) (.loop { rec .ready none with state := .busy })).heap[w.heap.size]? = some (.deferred (some [])) := (World.putObj_heap_other (by omega)).trans hk
      have hw2 : Kp W (W.putObj (w.heap.size + 1) (.loop { rec .ready none with state := .busy })) := hKb _ _ _ hl
      refine wpIn_mono (hbody _ pre x _ (hIp _ _ _ _ hl hi) (hNp _ _ _ _ _ hl hN) (by simp; omega)) ?_
      rintro e a3 W3 hp
      cases e with
      | normal =>
        obtain ⟨hk3, hkp3, hi3⟩ := hp
        have hl3 := hk3 _ _ hl2 rfl
        have hend := run_endRound (P := P) none hl3
        have hlt3 := (Array.getElem?_eq_some_iff.1 hl3).1
        refine ⟨_, _, hend, rfl, ⟨hIp _ _ _ _ hl3 hi3, ?_, ?_⟩, hKt (hKt hw2 hkp3) (hKb _ _ _ hl3)⟩
        · rw [World.putObj_heap_same hlt3, hrec]; rfl
        · exact (World.putObj_heap_other (by omega)).trans (hk3 _ _ hk2 rfl)
      | ret => exact hp.elim
      | exit id => exact hp.elim
      | goto t => exact hp.elim
      | panic ch => exact hp.elim
      | outgrown => exact hp.elim
    · rintro e W2 ⟨⟨v, rfl⟩, xs, hS, hi, hl, hk⟩
      exact ⟨none, _, by have := run_endLoop (P := P) hl (by rw [hrec]; simp); rw [hrec] at this; exact this, hdone xs _ hS (hIp _ _ _ _ hl hi) ((World.putObj_heap_other (by omega)).trans hk)⟩


end Go.Proofs.YthohfbeelepkmaaDoor
