/- Words that all walks of this seat share: slices that are read, in whatever world keeps what was there. -/
import Derived.Test.YthohfbeelepkmaaDoorProg
import Derived.WalkKit
import Derived.Lib.Hide
import Derived.Deep.LoopGhost
import Derived.Deep.QuietTactic
import Derived.BigQuiet
import Derived.Outline
import Derived.Laws.Cells
import Derived.Laws.Rows
import Derived.Laws.Tables
import Derived.Laws.BytesArg
import Derived.WalkSpells
import Derived.Shelf.Abstract
import Derived.StillTailTactics
import Derived.Deep.RegionWith
import Derived.Deep.RegionHeld3
import Derived.Deep.RegionLaw
import Derived.Deep.DeepFit
import Derived.Deep.DeepCutAuto
import Derived.Laws.BitsLemmas
import Derived.Laws.Shifts
import Derived.Laws.ShiftsVar
namespace Go.Proofs.YthohfbeelepkmaaDoor
open Go.RowKit Go.Shelf

theorem below_one (w : World) (o : Obj) : Below w.heap.size w (w.alloc o) := (Below.refl _ _).alloc (Nat.le_refl _) _
theorem below_then {w w1 w2 : World} (h : Below w.heap.size w w1) (k : Below w1.heap.size w1 w2) : Below w.heap.size w w2 := h.trans (k.mono h.size)
theorem below_alloc {w w1 : World} (h : Below w.heap.size w w1) (o : Obj) : Below w.heap.size w (w1.alloc o) := h.alloc h.size o
theorem below_drewN {w w1 : World} (h : Below w.heap.size w w1) (n : Nat) : Below w.heap.size w (w1.drewN n) := ⟨h.os, h.tape, h.output, h.size, h.block⟩
theorem below_drew {w w1 : World} (h : Below w.heap.size w w1) : Below w.heap.size w w1.drew := h.drew
theorem ret_i {k : IntKind} {a b : Int} (h : a = b) : Ending.returned (.int k a) = .returned (.int k b) := by rw [h]
theorem ret_v {a b : Value} (h : a = b) : Ending.returned a = .returned b := by rw [h]

theorem heap_new (w : World) (o : Obj) : (w.alloc o).heap[w.heap.size]? = some o := by
  show (w.heap.push o)[w.heap.size]? = some o
  simp

theorem cellA {w : World} {a : Addr} {v : Value} (h : w.cell? a = some v) (o : Obj) : (w.alloc o).cell? a = some v := (World.cell?_alloc_some w a o (by rw [h]; rfl)).trans h
theorem cellD {w : World} {a : Addr} {v : Value} (h : w.cell? a = some v) : w.drew.cell? a = some v := h
theorem cellN {w : World} {a : Addr} {v : Value} (h : w.cell? a = some v) (n : Nat) : (w.drewN n).cell? a = some v := h
theorem cellS {w : World} {b i j : Nat} {v : Value} (hne : i ≠ j) (h : w.cell? ⟨b, j, none⟩ = some v) (u : Value) : (w.setCell ⟨b, i, none⟩ u).cell? ⟨b, j, none⟩ = some v := by
  rw [← h]
  simp only [World.cell?, World.setCell, Array.getElem?_modify, if_true]
  cases hb : w.heap[b]? with
  | none => rfl
  | some o => cases o <;> simp [Array.getElem?_setIfInBounds_ne hne]
theorem cellF {w : World} {b c i j : Nat} {v : Value} (hne : c ≠ b) (h : w.cell? ⟨b, j, none⟩ = some v) (u : Value) : (w.setCell ⟨c, i, none⟩ u).cell? ⟨b, j, none⟩ = some v := by
  rw [← h]
  simp only [World.cell?]
  rw [Below.heap_setCell _ _ _ _ (fun e => hne e.symm)]

/-- A slice of elements of k cells each, that is read. -/
def Sl (w : World) (v : Value) (k : Nat) (L : List (List Value)) : Prop :=
  (∀ x ∈ L, x.length = k) ∧ L.length ≤ 140737488355328 ∧ ∃ A cap, v = .slice A L.length cap ∧ L.length ≤ cap ∧
    (0 < L.length → ∃ b off, A = some ⟨b, off, none⟩ ∧ b < w.heap.size ∧ ∀ j i x y, L[j]? = some x → x[i]? = some y → w.cell? ⟨b, off + j * k + i, none⟩ = some y)

theorem Sl.below {w w' : World} {v : Value} {k : Nat} {L : List (List Value)} (h : Sl w v k L) (hb : Below w.heap.size w w') : Sl w' v k L := by
  obtain ⟨h1, h2, A, cap, hv, hc, h3⟩ := h
  refine ⟨h1, h2, A, cap, hv, hc, fun hp => ?_⟩
  obtain ⟨b, off, e, hlt, hcell⟩ := h3 hp
  exact ⟨b, off, e, Nat.lt_of_lt_of_le hlt hb.size, fun j i x y hx hy => (hb.cell (p := ⟨b, off + j * k + i, none⟩) hlt).trans (hcell j i x y hx hy)⟩

theorem Sl.nil (w : World) (k : Nat) : Sl w (.slice none 0 0) k [] := ⟨fun x h => by simp at h, by simp, none, 0, rfl, by simp, fun h => by simp at h⟩

theorem Sl.drew {w : World} {v : Value} {k : Nat} {L : List (List Value)} (h : Sl w v k L) : Sl w.drew v k L := h
theorem Sl.alloc {w : World} {v : Value} {k : Nat} {L : List (List Value)} (h : Sl w v k L) (o : Obj) : Sl (w.alloc o) v k L := h.below (below_one w o)

/-- A slice of whole numbers that is read. -/
def Ints (w : World) (v : Value) (q : IntKind) (l : List Int) : Prop := Sl w v 1 (l.map fun n => [.int q n])

theorem Ints.open_ {w : World} {v : Value} {q : IntKind} {l : List Int} (h : Ints w v q l) : l.length ≤ 140737488355328 ∧ ∃ A cap, v = .slice A l.length cap ∧ l.length ≤ cap ∧
    (∀ j (hj : j < l.length), ∃ b off, A = some ⟨b, off, none⟩ ∧ b < w.heap.size ∧ w.cell? ⟨b, off + j, none⟩ = some (.int q l[j])) := by
  obtain ⟨h1, h2, A, cap, hv, hc, h3⟩ := h
  simp only [List.length_map] at *
  refine ⟨h2, A, cap, hv, hc, fun j hj => ?_⟩
  obtain ⟨b, off, e, hlt, hcell⟩ := h3 (by omega)
  have hm : (l.map fun n => [Value.int q n])[j]? = some [.int q l[j]] := by simp [List.getElem?_eq_getElem hj]
  have := hcell j 0 _ _ hm rfl
  exact ⟨b, off, e, hlt, by simpa using this⟩

theorem Ints.drew {w : World} {v : Value} {q : IntKind} {l : List Int} (h : Ints w v q l) : Ints w.drew v q l := h
theorem Ints.alloc {w : World} {v : Value} {q : IntKind} {l : List Int} (h : Ints w v q l) (o : Obj) : Ints (w.alloc o) v q l := h.below (below_one w o)

/-- The same, the block named once. -/
theorem Ints.openD {w : World} {v : Value} {q : IntKind} {l : List Int} (h : Ints w v q l) : l.length ≤ 140737488355328 ∧ ∃ A cap, v = .slice A l.length cap ∧ l.length ≤ cap ∧
    (0 < l.length → ∃ b off, A = some ⟨b, off, none⟩ ∧ b < w.heap.size ∧ ∀ W, Below w.heap.size w W → ∀ j, j < l.length → W.cell? ⟨b, off + j, none⟩ = some (.int q (l.getD j 0))) := by
  obtain ⟨h1, h2, A, cap, hv, hc, h3⟩ := h
  simp only [List.length_map] at *
  refine ⟨h2, A, cap, hv, hc, fun hp => ?_⟩
  obtain ⟨b, off, e, hlt, hcell⟩ := h3 hp
  refine ⟨b, off, e, hlt, fun W hW j hj => ?_⟩
  have hm : (l.map fun n => [Value.int q n])[j]? = some [.int q (l.getD j 0)] := by simp [List.getElem?_eq_getElem hj]
  have := hcell j 0 _ _ hm rfl
  exact (hW.cell (p := ⟨b, off + j, none⟩) hlt).trans (by simpa using this)

/-- The slice over a block's cells, from an offset on. -/
theorem Sl.of_cells {w : World} {b off n cap k : Nat} {L : List (List Value)} (hk : ∀ x ∈ L, x.length = k) (hn : L.length = n) (hl : n ≤ 140737488355328) (hc : n ≤ cap) (hb : b < w.heap.size)
    (h : ∀ j i x y, L[j]? = some x → x[i]? = some y → w.cell? ⟨b, off + j * k + i, none⟩ = some y) : Sl w (.slice (some ⟨b, off, none⟩) n cap) k L := by
  subst hn
  exact ⟨hk, hl, _, cap, rfl, hc, fun _ => ⟨b, off, rfl, hb, h⟩⟩

theorem Ints.of_cells {w : World} {q : IntKind} {b off n cap : Nat} {l : List Int} (hn : l.length = n) (hl : n ≤ 140737488355328) (hc : n ≤ cap) (hb : b < w.heap.size)
    (h : ∀ j (hj : j < l.length), w.cell? ⟨b, off + j, none⟩ = some (.int q l[j])) : Ints w (.slice (some ⟨b, off, none⟩) n cap) q l := by
  refine Sl.of_cells (fun x hx => ?_) (by simpa using hn) hl hc hb fun j i x y hx hy => ?_
  · simp only [List.mem_map] at hx; obtain ⟨a, _, rfl⟩ := hx; rfl
  · simp only [List.getElem?_map, Option.map_eq_some_iff] at hx
    obtain ⟨a, ha, rfl⟩ := hx
    obtain ⟨hj, rfl⟩ := List.getElem?_eq_some_iff.1 ha
    have hi : i = 0 := by
      cases i with
      | zero => rfl
      | succ i => simp at hy
    subst hi
    simp only [List.getElem?_cons_zero, Option.some.injEq] at hy
    subst hy
    simpa using h j hj

/-- The new block of a literal. -/
theorem Ints.lit (w : World) (q : IntKind) (t : TypeId) (l : List Int) (hl : l.length ≤ 140737488355328) :
    Ints (w.alloc (.cells (l.map fun n => Value.int q n).toArray t)) (.slice (some ⟨w.heap.size, 0, none⟩) l.length l.length) q l := by
  refine Ints.of_cells rfl hl (Nat.le_refl _) (by simp) fun j hj => ?_
  unfold World.cell?
  rw [heap_new]
  simp [hj]

theorem Ints.lit' (w : World) (b : Nat) (q : IntKind) (t : TypeId) (l : List Int) (hb : b = w.heap.size) (hl : l.length ≤ 140737488355328) :
    Ints (w.alloc (.cells (l.map fun n => Value.int q n).toArray t)) (.slice (some ⟨b, 0, none⟩) l.length l.length) q l := by subst hb; exact Ints.lit w q t l hl

/-- A whole row of cells stored into a block of as many. -/
theorem wpList_store_row {P : Program} {ops : Array Oper} {rest : List Oper} {o : Oper} {a : Act} {w : World} {Q : Exit → Act → World → Prop} (hgd : o.guard = none) (ty : TypeId) (x y : Operand) (ho : o.op = .store ty x y)
    (g : Nat) (hx : a.eval x = .pointer (some ⟨g, 0, none⟩)) (t : TypeId) (old cs : Array Value) (hy : a.eval y = .agg cs) (hg : w.heap[g]? = some (.cells old t (0, 0)))
    (hi : (P.info? ty).map (·.size) = some cs.size) (hs : old.size = cs.size) (h1 : cs.all (·.oneCell') = true)
    (h : wpList P ops Q rest (a.put o.dst undef) (w.setRow g cs)) : wpList P ops Q (o :: rest) a w := by
  refine wpList_plain hgd fun K hK => ?_
  unfold Oper.wp execOp
  simp only [ho, hx, hy, Instr.storeAt, Instr.sureAddr, Sem.run_bind, Sem.run_pure, Result.andThen_ok, run_storeVar_row w g t ty old cs hg hi hs h1]
  exact hK _ _ h
theorem setRow_other (w : World) (g k : Nat) (cs : Array Value) (h : k ≠ g) : (w.setRow g cs).heap[k]? = w.heap[k]? := by
  simp only [World.setRow, Array.getElem?_modify]
  rw [if_neg (fun e => h e.symm)]
theorem setRow_size (w : World) (g : Nat) (cs : Array Value) : (w.setRow g cs).heap.size = w.heap.size := by simp [World.setRow]
theorem below_setRow {w w1 : World} (h : Below w.heap.size w w1) {g : Nat} (hg : w.heap.size ≤ g) (cs : Array Value) : Below w.heap.size w (w1.setRow g cs) :=
  h.trans ⟨rfl, rfl, rfl, by rw [setRow_size]; exact Nat.le_refl _, fun k hk => setRow_other _ _ _ _ (by omega)⟩

/-- A block of whole numbers (an array variable). -/
def Arr (w : World) (b : Nat) (q : IntKind) (t : TypeId) (l : List Int) : Prop := w.heap[b]? = some (.cells (l.map fun n => Value.int q n).toArray t (0, 0))

theorem Arr.cell {w : World} {b : Nat} {q : IntKind} {t : TypeId} {l : List Int} (h : Arr w b q t l) (i : Nat) (hi : i < l.length) : w.cell? ⟨b, i, none⟩ = some (.int q l[i]) := by
  unfold World.cell?; rw [h]; simp [hi]
theorem Arr.cellD {w : World} {b : Nat} {q : IntKind} {t : TypeId} {l : List Int} (h : Arr w b q t l) (i : Nat) (hi : i < l.length) : w.cell? ⟨b, i, none⟩ = some (.int q (l.getD i 0)) := by
  rw [h.cell i hi]; simp [hi]
theorem Arr.frozen {w : World} {b : Nat} {q : IntKind} {t : TypeId} {l : List Int} (h : Arr w b q t l) (i : Nat) : w.frozen? ⟨b, i, none⟩ = false := by
  unfold World.frozen?; rw [h]; simp
theorem Arr.lt {w : World} {b : Nat} {q : IntKind} {t : TypeId} {l : List Int} (h : Arr w b q t l) : b < w.heap.size := (Array.getElem?_eq_some_iff.1 h).1
theorem Arr.set {w : World} {b : Nat} {q : IntKind} {t : TypeId} {l : List Int} (h : Arr w b q t l) (i : Nat) (x : Int) : Arr (w.setCell ⟨b, i, none⟩ (.int q x)) b q t (l.set i x) := by
  unfold Arr at *
  simp only [World.setCell, Array.getElem?_modify, h, Option.map_some, if_true]
  simp [List.map_set]
theorem Arr.other {w : World} {b : Nat} {q : IntKind} {t : TypeId} {l : List Int} (h : Arr w b q t l) {a : Addr} (ha : a.block ≠ b) (v : Value) : Arr (w.setCell a v) b q t l := by
  unfold Arr at *
  rw [Below.heap_setCell _ _ _ _ (fun e => ha e.symm)]; exact h
theorem Arr.below {w w' : World} {b : Nat} {q : IntKind} {t : TypeId} {l : List Int} (h : Arr w b q t l) (hb : Below w.heap.size w w') : Arr w' b q t l := (hb.block b h.lt).trans h
theorem Arr.alloc {w : World} {b : Nat} {q : IntKind} {t : TypeId} {l : List Int} (h : Arr w b q t l) (o : Obj) : Arr (w.alloc o) b q t l := h.below (below_one w o)
theorem Arr.setRow {w : World} {b : Nat} {q : IntKind} {t : TypeId} {l : List Int} (h : Arr w b q t l) (l' : List Int) : Arr (w.setRow b (l'.map fun n => Value.int q n).toArray) b q t l' := setRow_heap w b _ _ t (0, 0) h
theorem nums_one (q : IntKind) (l : List Int) : (l.map fun n => Value.int q n).toArray.all (·.oneCell') = true := by
  simp [Value.oneCell']
theorem Arr.new (w : World) (q : IntKind) (t : TypeId) (l : List Int) : Arr (w.alloc (.cells (l.map fun n => Value.int q n).toArray t)) w.heap.size q t l := heap_new w _
theorem Arr.drew {w : World} {b : Nat} {q : IntKind} {t : TypeId} {l : List Int} (h : Arr w b q t l) : Arr w.drew b q t l := h
theorem Arr.drewN {w : World} {b : Nat} {q : IntKind} {t : TypeId} {l : List Int} (h : Arr w b q t l) (n : Nat) : Arr (w.drewN n) b q t l := h

theorem wpList_load_arr {P : Program} {ops : Array Oper} {rest : List Oper} {o : Oper} {a : Act} {w : World} {Q : Exit → Act → World → Prop} (ty : TypeId) (x : Operand) (g : Nat) {q : IntKind} {t : TypeId} {l : List Int} (n : Nat) (e : TypeId)
    (h : Arr w g q t l) (hu : P.underlying ty = some (.array n e)) (hi : (P.info? ty).map (·.size) = some l.length) (hgd : o.guard = none) (ho : o.op = .load ty x) (hx : a.eval x = .pointer (some ⟨g, 0, none⟩))
    (hk : wpList P ops Q rest (a.put o.dst (.agg (l.map fun n => Value.int q n).toArray)) w) : wpList P ops Q (o :: rest) a w :=
  wpList_load_row hgd ty x ho g hx t _ (0, 0) _ h hu rfl (by rw [hi]; simp) hk
theorem wpList_store_arr {P : Program} {ops : Array Oper} {rest : List Oper} {o : Oper} {a : Act} {w : World} {Q : Exit → Act → World → Prop} (ty : TypeId) (x y : Operand) (g : Nat) {q : IntKind} {t : TypeId} {l l' : List Int}
    (h : Arr w g q t l) (hl : l.length = l'.length) (hi : (P.info? ty).map (·.size) = some l'.length) (hgd : o.guard = none) (ho : o.op = .store ty x y) (hx : a.eval x = .pointer (some ⟨g, 0, none⟩))
    (hy : a.eval y = .agg (l'.map fun n => Value.int q n).toArray)
    (hk : ∀ w', Arr w' g q t l' → (∀ w0 : World, w0.heap.size ≤ g → Below w0.heap.size w0 w → Below w0.heap.size w0 w') → w'.heap.size = w.heap.size → wpList P ops Q rest (a.put o.dst undef) w') : wpList P ops Q (o :: rest) a w :=
  wpList_store_row hgd ty x y ho g hx t _ _ hy h (by rw [hi]; simp) (by simp [hl]) (nums_one q l') (hk _ (h.setRow l') (fun _ hg hb => below_setRow hb hg _) (setRow_size _ _ _))

theorem bodyPost_arr {P : Program} {fn : Func} {R : Ending → World → Prop} {a : Act} {w : World} {p : Tmp} {ty : TypeId} {g : Nat} {q : IntKind} {t : TypeId} {l : List Int} (n : Nat) (e : TypeId) (h : Arr w g q t l) (hu : P.underlying ty = some (.array n e))
    (hi : (P.info? ty).map (·.size) = some l.length) (hres : fn.results = #[.cell p ty]) (hp : a.tmps.getD p undef = .pointer (some ⟨g, 0, none⟩)) (hd : a.defers = []) (hR : R (.returned (.agg (l.map fun n => Value.int q n).toArray)) w) : bodyPost P fn R .ret a w :=
  bodyPost_ret (results_cell_row hres _ w g t _ (0, 0) _ hp h hu rfl (by rw [hi]; simp)) hd hR

theorem run_index_nums {P : Program} (ty : TypeId) (q : IntKind) (l : List Int) (k n : Nat) (e : TypeId) (hu : P.underlying ty = some (.array n e)) (he : P.underlying e = some (.int q)) (hz : (P.info? e).map (·.size) = some 1) (W : World) (hl : l.length = n) (hk : k < n) :
    Sem.run P (Instr.index ty (.agg (List.map (fun n => Value.int q n) l).toArray) (.int .i64 k)) W = .ok (.int q (l.getD k 0)) W := by
  obtain ⟨i, hi, hs⟩ := Option.map_eq_some_iff.1 hz
  simp [Instr.index, run_underlying hu, asIntOf, hk, sizeOf, typeInfo, hi, hs, part, isAgg, run_underlying he, show k < l.length by omega]
theorem Ints.toString {P : Program} {w : World} {v : Value} {l : List Int} (h : Ints w v .u8 l) (hp : 0 < l.length) (src e dst : TypeId) (hs : P.underlying src = some (.slice e)) (he : P.underlying e = some (.int .u8)) (hd : P.underlying dst = some .string) :
    (convert src dst v).run P w = .ok (.string (strOfNums l)) w := by
  obtain ⟨hlen, A, cap, rfl, hcap, hat⟩ := h.openD
  obtain ⟨b, off, rfl, hb, hat⟩ := hat hp
  exact run_convert_bytes_arg w src e hs he b off l.length cap l rfl (fun i hi => hat w (Below.refl _ _) i hi) dst hd

end Go.Proofs.YthohfbeelepkmaaDoor

/- Charges: which are valid, and slices of them. -/
namespace Go.Proofs.YthohfbeelepkmaaDoor
open Go.RowKit Go.Shelf
def within (n lo hi : Int) : Bool := decide (lo ≤ n) && decide (n ≤ hi)

theorem isWithin_calls (n lo hi : Int) (w : World) :
    Calls Tryd.prog 49 #[.int .i64 n, .int .i64 lo, .int .i64 hi] w fun e w' => e = .returned (.bool (within n lo hi)) ∧ w = w' := by
  by_cases h : lo ≤ n
  · by_cases h2 : n ≤ hi
    · go_enter Tryd.func49, Tryd.ntmps49
      go_wp2
      go_ret
      exact ⟨by simp [within, h, h2], rfl⟩
    · go_enter Tryd.func49, Tryd.ntmps49
      go_wp2
      go_ret
      exact ⟨by simp [within, h]; omega, rfl⟩
  · go_enter Tryd.func49, Tryd.ntmps49
    go_wp2
    go_ret
    exact ⟨by simp [within, h]; omega, rfl⟩


def isChargeB (cu pa pe am : Int) (tx : ByteArray) : Bool :=
  within pa 0 7 && within pe 0 7 && (pa != pe) && within cu 0 63 && within am 0 1000000000 && decide ((tx.size : Int) ≤ 100)

theorem isCharge_calls (cu pa pe am : Int) (tx : ByteArray) (w : World) :
    Calls Tryd.prog 80 #[.agg #[.int .i64 cu, .int .i64 pa, .int .i64 pe, .int .i64 am, .string tx]] w fun e w' => e = .returned (.bool (isChargeB cu pa pe am tx)) ∧ Below w.heap.size w w' := by
  go_enter Tryd.func80, Tryd.ntmps80
  go_wp2_with (go_at_call 49; refine (isWithin_calls _ _ _ _).mono ?_; rintro e w' ⟨rfl, rfl⟩)
  all_goals go_ret
  all_goals exact ⟨by simp_all [isChargeB], below_one w _⟩


theorem areCharges1_calls (cu pa pe am : Int) (tx : ByteArray) (w : World) :
    Calls Tryd.prog 79 #[.agg #[.int .i64 cu, .int .i64 pa, .int .i64 pe, .int .i64 am, .string tx]] w fun e w' => e = .returned (.bool (!isChargeB cu pa pe am tx)) ∧ Below w.heap.size w w' := by
  go_enter Tryd.func79, Tryd.ntmps79
  go_wp2_with (go_at_call 80; refine (isCharge_calls _ _ _ _ _ _).mono ?_; rintro e w' ⟨rfl, hb⟩)
  go_ret
  exact ⟨rfl, (below_one w _).trans (hb.mono (by simp))⟩


structure Ch where
  cu : Int
  pa : Int
  pe : Int
  am : Int
  tx : ByteArray
def Ch.cells (c : Ch) : List Value := [.int .i64 c.cu, .int .i64 c.pa, .int .i64 c.pe, .int .i64 c.am, .string c.tx]
def Ch.val (c : Ch) : Value := .agg c.cells.toArray
def Ch.ok (c : Ch) : Bool := isChargeB c.cu c.pa c.pe c.am c.tx

def Chs (w : World) (v : Value) (l : List Ch) : Prop := Sl w v 5 (l.map Ch.cells)

/-- One charge's cells. -/
theorem Chs.open_ {w : World} {v : Value} {l : List Ch} (h : Chs w v l) : l.length ≤ 140737488355328 ∧ ∃ A cap, v = .slice A l.length cap ∧ l.length ≤ cap ∧
    (∀ j (hj : j < l.length), ∃ b off, A = some ⟨b, off, none⟩ ∧ b < w.heap.size ∧ w.cell? ⟨b, off + j * 5, none⟩ = some (.int .i64 l[j].cu) ∧ w.cell? ⟨b, off + j * 5 + 1, none⟩ = some (.int .i64 l[j].pa) ∧
      w.cell? ⟨b, off + j * 5 + 2, none⟩ = some (.int .i64 l[j].pe) ∧ w.cell? ⟨b, off + j * 5 + 3, none⟩ = some (.int .i64 l[j].am) ∧ w.cell? ⟨b, off + j * 5 + 4, none⟩ = some (.string l[j].tx)) := by
  obtain ⟨h1, h2, A, cap, hv, hc, h3⟩ := h
  simp only [List.length_map] at *
  refine ⟨h2, A, cap, hv, hc, fun j hj => ?_⟩
  obtain ⟨b, off, e, hlt, hcell⟩ := h3 (by omega)
  have hm : (l.map Ch.cells)[j]? = some l[j].cells := by simp [List.getElem?_eq_getElem hj]
  exact ⟨b, off, e, hlt, hcell j 0 _ _ hm rfl, hcell j 1 _ _ hm rfl, hcell j 2 _ _ hm rfl, hcell j 3 _ _ hm rfl, hcell j 4 _ _ hm rfl⟩

/-- The index of the first element of which p holds; the length if there is none. -/
def PredCh (g : Nat) (lb : Array Value) (p : Ch → Bool) (w : World) : Prop :=
  ∀ (W : World) (x : Ch), Below w.heap.size w W → Calls Tryd.prog g (#[x.val] ++ lb) W fun e w' => e = .returned (.bool (p x)) ∧ Below W.heap.size W w'

def idxP {α : Type} (p : α → Bool) (l : List α) : Int := if l.any p then (l.findIdx p : Int) else -1

set_option maxHeartbeats 1000000 in
theorem indexFuncCh (v : Value) (l : List Ch) (g : Nat) (lb : Array Value) (eg : ∀ args w, (callFunc g args).run Tryd.prog w = .ok (.enter g args) w) (p : Ch → Bool) (w : World) (hl : Chs w v l) (hp : PredCh g lb p w) :
    Calls Tryd.prog 88 #[v, .func (.func g) #[] lb] w fun e w' => e = .returned (.int .i64 (idxP p l)) ∧ Below w.heap.size w w' := by
  obtain ⟨hlen, A, cap, rfl, hcap, hat⟩ := hl.open_
  go_enter Tryd.func88, Tryd.ntmps88
  go_wp2
  go_loopg [5, 8] l.length (fun gg _ s8 wr => ∃ kk : Nat, kk ≤ l.length ∧ l.length - kk ≤ gg ∧ s8 = .int .i64 kk ∧ Aside (Below w.heap.size w wr) ∧ Aside (∀ j (h : j < l.length), j < kk → p l[j] = false))
  case atStart => exact ⟨0, Nat.zero_le _, by omega, rfl, Below.refl _ w, fun j _ hj => absurd hj (Nat.not_lt_zero _)⟩
  case round =>
    obtain ⟨kk, hkk, hg, rfl, BW, hA⟩ := hrel
    by_cases hlt : kk < l.length
    · obtain ⟨b, off, rfl, hb, c0, c1, c2, c3, c4⟩ := hat kk hlt
      clear hat
      replace c0 := (BW.out.cell (p := ⟨b, _, none⟩) hb).trans c0
      replace c1 := (BW.out.cell (p := ⟨b, _, none⟩) hb).trans c1
      replace c2 := (BW.out.cell (p := ⟨b, _, none⟩) hb).trans c2
      replace c3 := (BW.out.cell (p := ⟨b, _, none⟩) hb).trans c3
      replace c4 := (BW.out.cell (p := ⟨b, _, none⟩) hb).trans c4
      have hcall := hp wr l[kk] BW.out
      have HQ := Lib.hid (Eq.refl (p l[kk]))
      obtain ⟨c, hc⟩ : ∃ c, c = l[kk] := ⟨_, rfl⟩
      rw [← hc] at c0 c1 c2 c3 c4 hcall
      have HC := Lib.hid hc
      clear hc hp hl HQ
      obtain ⟨cu, pa, pe, am, tx⟩ := c
      dsimp only at c0 c1 c2 c3 c4
      simp only [Ch.val, Ch.cells] at hcall
      cases hq : p ⟨cu, pa, pe, am, tx⟩ with
      | true =>
        rw [hq] at hcall
        have HQ := Lib.hid hq
        clear hq
        go_wp2_with fail
        refine hcall.mono ?_
        rintro e w' ⟨rfl, hb'⟩
        go_wp2
        go_ret
        refine ⟨?_, BW.out.trans (hb'.mono BW.out.size)⟩
        refine ret_i ?_
        unfold idxP
        rw [if_pos (List.any_eq_true.2 ⟨l[kk], List.getElem_mem hlt, by rw [← HC.out]; exact HQ.out⟩)]
        rw [(List.findIdx_eq hlt).2 ⟨by rw [← HC.out]; exact HQ.out, fun j hj => hA.out j (by omega) hj⟩]
      | false =>
        rw [hq] at hcall
        have HQ := Lib.hid hq
        clear hq
        go_wp2_with fail
        refine hcall.mono ?_
        rintro e w' ⟨rfl, hb'⟩
        go_wp2
        go_roundg (l.length - (kk + 1))
        case measure => omega
        case rel =>
          refine ⟨kk + 1, by omega, by omega, by go_num, BW.out.trans (hb'.mono BW.out.size), (show Aside _ from fun j hj hjk => ?_)⟩
          by_cases e : j = kk
          · subst e
            rw [← HC.out]; exact HQ.out
          · exact hA.out j hj (by omega)
    · have : kk = l.length := by omega
      subst this
      clear hp hat
      go_wp2
      go_ret
      refine ⟨?_, BW.out⟩
      refine ret_i ?_
      unfold idxP
      rw [if_neg]
      intro h
      obtain ⟨x, hx, hpx⟩ := List.any_eq_true.1 h
      obtain ⟨j, hj, rfl⟩ := List.mem_iff_getElem.1 hx
      rw [hA.out j hj hj] at hpx
      cases hpx

theorem containsFuncCh (v : Value) (l : List Ch) (g : Nat) (lb : Array Value) (eg : ∀ args w, (callFunc g args).run Tryd.prog w = .ok (.enter g args) w) (p : Ch → Bool) (w : World) (hl : Chs w v l) (hp : PredCh g lb p w) :
    Calls Tryd.prog 57 #[v, .func (.func g) #[] lb] w fun e w' => e = .returned (.bool (l.any p)) ∧ Below w.heap.size w w' := by
  have hc := indexFuncCh v l g lb eg p w hl hp
  clear hp eg
  cases h : l.any p with
  | true =>
    unfold idxP at hc
    rw [h, if_pos rfl] at hc
    clear h
    generalize (l.findIdx p) = i at hc
    go_enter Tryd.func57, Tryd.ntmps57
    go_wp2_with (go_at_call 88; refine hc.mono ?_; rintro e w' ⟨rfl, hb'⟩)
    go_ret
    exact ⟨by simp, hb'⟩
  | false =>
    unfold idxP at hc
    rw [h, if_neg (by simp)] at hc
    clear h
    go_enter Tryd.func57, Tryd.ntmps57
    go_wp2_with (go_at_call 88; refine hc.mono ?_; rintro e w' ⟨rfl, hb'⟩)
    go_ret
    exact ⟨by simp, hb'⟩

def okChs (l : List Ch) : Bool := decide (l.length ≤ 60) && l.all Ch.ok

theorem areCharges_calls (v : Value) (l : List Ch) (w : World) (hl : Chs w v l) :
    Calls Tryd.prog 45 #[v] w fun e w' => e = .returned (.bool (okChs l)) ∧ Below w.heap.size w w' := by
  have hc := containsFuncCh v l 79 #[] (enters_of Tryd.func79 (by kernel_rfl) rfl) (fun c => !c.ok) w hl (fun W x _ => areCharges1_calls x.cu x.pa x.pe x.am x.tx W)
  obtain ⟨hlen, A, cap, rfl, hcap, hat⟩ := hl.open_
  clear hat hl
  by_cases h : l.length ≤ 60
  · have hk : okChs l = !(l.any fun c => !c.ok) := by simp [okChs, h, List.all_eq_not_any_not]
    rw [hk]
    clear hk
    generalize (l.any fun c => !c.ok) = q at hc
    go_enter Tryd.func45, Tryd.ntmps45
    go_wp2_with (go_at_call 57; refine hc.mono ?_; rintro e w' ⟨rfl, hb'⟩)
    go_ret
    exact ⟨rfl, hb'⟩
  · have hk : okChs l = false := by simp [okChs]; omega
    rw [hk]
    clear hk hc
    go_enter Tryd.func45, Tryd.ntmps45
    go_wp2
    go_ret
    exact ⟨rfl, Below.refl _ _⟩

theorem Valid_calls (key : ByteArray) (v : Value) (l : List Ch) (w : World) (hl : Chs w v l) :
    Calls Tryd.prog 21 #[.agg #[.string key, v]] w fun e w' => e = .returned (.bool (decide (key.size = 32) && okChs l)) ∧ Below w.heap.size w w' := by
  go_enter Tryd.func21, Tryd.ntmps21
  go_wp2_with fail
  · refine (areCharges_calls v l _ (hl.below (below_one w _))).mono ?_
    rintro e w' ⟨rfl, hb'⟩
    go_wp2
    go_ret
    refine ⟨?_, (below_one w _).trans (hb'.mono (by simp))⟩
    have e32 : key.size = 32 := by omega
    simp [e32]
  · go_ret
    exact ⟨by simp; omega, below_one w _⟩

end Go.Proofs.YthohfbeelepkmaaDoor

/- digest: rotations and what is mixed of them. -/
namespace Go.Proofs.YthohfbeelepkmaaDoor
open Go.RowKit Go.Shelf

def rotr (x : Int) (n : Nat) : Int := bits .or .u32 (x * 2 ^ (32 - n) % 4294967296) (x / 2 ^ n)

theorem and31 : ∀ n : Fin 32, 0 < n.val → bits .and .u64 (IntKind.u64.wrap (-(n.val : Int))) 31 = ((32 - n.val : Nat) : Int) := by decide +kernel
theorem sub32 : ∀ n : Fin 32, 0 < n.val → IntKind.u64.wrap (32 - ((32 - n.val : Nat) : Int)) = (n.val : Int) := by decide +kernel

theorem RotateLeft32_calls (x : Int) (n : Nat) (w : World) (h : n < 32) (h1 : 0 < n) :
    Calls Tryd.prog 127 #[.int .u32 x, .int .i64 (-(n : Int))] w fun e w' => e = .returned (.int .u32 (rotr x n)) ∧ w = w' := by
  have e1 := and31 ⟨n, h⟩ h1
  have e2 := sub32 ⟨n, h⟩ h1
  unfold rotr
  obtain ⟨m, hm⟩ : ∃ m, m = 32 - n := ⟨_, rfl⟩
  have hm2 : m ≤ 31 := by omega
  dsimp only at e1 e2
  rw [← hm] at e1 e2 ⊢
  clear hm
  go_enter Tryd.func127, Tryd.ntmps127
  go_wp2
  go_ret
  exact ⟨rfl, rfl⟩

def mix (x : Int) (ns : List Nat) : Int := ns.foldl (fun a n => bits .xor .u32 a (rotr x n)) 0

theorem mix_snoc (x : Int) (ns : List Nat) (n : Nat) : mix x (ns ++ [n]) = bits .xor .u32 (mix x ns) (rotr x n) := by simp [mix]

theorem mixed_calls (x : Int) (v : Value) (ns : List Nat) (w : World) (hns : ∀ n ∈ ns, 0 < n ∧ n < 32) (hv : Ints w v .i64 (ns.map fun (n : Nat) => (n : Int))) :
    Calls Tryd.prog 125 #[.int .u32 x, v] w fun e w' => e = .returned (.int .u32 (mix x ns)) ∧ w = w' := by
  obtain ⟨hlen, A, cap, rfl, hcap, hat⟩ := hv.open_
  simp only [List.length_map] at *
  go_enter Tryd.func125, Tryd.ntmps125
  go_wp2
  go_loop [5, 7, 10] (fun s5 _ s10 => ∃ k : Nat, k ≤ ns.length ∧ s10 = .int .i64 k ∧ s5 = .int .u32 (mix x (ns.take k))) (fun _ _ s10 => ns.length - (intOf s10).toNat)
  case atStart => exact ⟨0, Nat.zero_le _, rfl, rfl⟩
  case round =>
    obtain ⟨k, hk, rfl, rfl⟩ := hrel
    by_cases hlt : k < ns.length
    · obtain ⟨b, off, rfl, hb, hc⟩ := hat k hlt
      simp only [List.getElem_map] at hc
      have hn := hns ns[k] (List.getElem_mem hlt)
      have HS := Lib.hid (mix_snoc x (ns.take k) ns[k])
      have HT := Lib.hid (List.take_succ_eq_append_getElem hlt)
      generalize ns[k] = n at hc hn HS HT
      generalize mix x (ns.take k) = m at HS
      clear hat hns
      go_wp2_with fail
      refine (RotateLeft32_calls x n _ hn.2 hn.1).mono ?_
      rintro e w' ⟨rfl, rfl⟩
      go_wp2
      go_round
      case rel => exact ⟨k + 1, by omega, by go_num, by rw [HT.out, HS.out]⟩
      case measure => simp [intOf]; omega
    · obtain rfl : k = ns.length := by omega
      rw [List.take_length]
      clear hat hns
      go_wp2
      go_ret
      exact ⟨rfl, rfl⟩

theorem mixed_lits (x : Int) (v : Value) (l : List Int) (w : World) (hl : ∀ n ∈ l, 0 < n ∧ n < 32) (hv : Ints w v .i64 l) :
    Calls Tryd.prog 125 #[.int .u32 x, v] w fun e w' => e = .returned (.int .u32 (mix x (l.map Int.toNat))) ∧ w = w' := by
  refine mixed_calls x v (l.map Int.toNat) w (fun n hn => ?_) ?_
  · simp only [List.mem_map] at hn
    obtain ⟨a, ha, rfl⟩ := hn
    have := hl a ha
    omega
  · have : ((l.map Int.toNat).map fun (n : Nat) => (n : Int)) = l := by
      rw [List.map_map]
      conv => rhs; rw [← List.map_id l]
      refine List.map_congr_left fun a ha => ?_
      have := hl a ha
      simp; omega
    rw [this]; exact hv

end Go.Proofs.YthohfbeelepkmaaDoor

/- digest: the words of a block. -/
namespace Go.Proofs.YthohfbeelepkmaaDoor
open Go.RowKit Go.Shelf

/-- The word that four bytes are. -/
def word4 (b0 b1 b2 b3 : Int) : Int := bits .or .u32 (bits .or .u32 (bits .or .u32 (b0 * 16777216) (b1 * 65536)) (b2 * 256)) b3
/-- The first 16 words of a block. -/
def words16 (b : List Int) (n : Nat) : List Int := (List.range n).map fun i => word4 (b.getD (4 * i) 0) (b.getD (4 * i + 1) 0) (b.getD (4 * i + 2) 0) (b.getD (4 * i + 3) 0)

theorem snoc_set (a : List Int) (k n : Nat) (x : Int) (ha : a.length = k) (hk : k < n) : (a ++ List.replicate (n - k) 0).set k x = a ++ [x] ++ List.replicate (n - (k + 1)) 0 := by
  obtain ⟨m, hm⟩ : ∃ m, n - k = m + 1 := ⟨n - k - 1, by omega⟩
  rw [hm, show n - (k + 1) = m by omega, List.set_append_right _ _ (by omega)]
  simp [ha, List.replicate_succ]
theorem w64 {a : Int} (h1 : -9223372036854775808 ≤ a) (h2 : a ≤ 9223372036854775807) : IntKind.i64.wrap a = a := by rw [IntKind.wrap_i64]; omega

theorem wu32 {a : Int} (h1 : 0 ≤ a) (h2 : a < 4294967296) : IntKind.u32.wrap a = a := by simp [IntKind.wrap, IntKind.bits, IntKind.signed]; omega

def nextW (x16 x7 x y : Int) : Int := IntKind.u32.wrap (IntKind.u32.wrap (IntKind.u32.wrap (x16 + bits .xor .u32 (mix x [7, 18]) (x / 8)) + x7) + bits .xor .u32 (mix y [17, 19]) (y / 1024))
def extW (ws : List Int) (k : Nat) : List Int := ws ++ [nextW (ws.getD (k - 16) 0) (ws.getD (k - 7) 0) (ws.getD (k - 15) 0) (ws.getD (k - 2) 0)]
def sched (l : List Int) : Nat → List Int
  | 0 => words16 l 16
  | j + 1 => extW (sched l j) (16 + j)
theorem sched_succ (l : List Int) (k : Nat) (hk : 16 ≤ k) : sched l (k + 1 - 16) = sched l (k - 16) ++ [nextW ((sched l (k - 16)).getD (k - 16) 0) ((sched l (k - 16)).getD (k - 7) 0) ((sched l (k - 16)).getD (k - 15) 0) ((sched l (k - 16)).getD (k - 2) 0)] := by
  rw [show k + 1 - 16 = (k - 16) + 1 by omega, sched, extW, show 16 + (k - 16) = k by omega]
theorem sched_length (l : List Int) : ∀ j, (sched l j).length = 16 + j
  | 0 => by simp [sched, words16]
  | j + 1 => by simp [sched, extW, sched_length l j]; omega
theorem getD_left {a b : List Int} {i : Nat} (h : i < a.length) : (a ++ b).getD i 0 = a.getD i 0 := by simp [List.getD_eq_getElem?_getD, List.getElem?_append_left h]
def Bytes (l : List Int) : Prop := ∀ x ∈ l, 0 ≤ x ∧ x ≤ 255
theorem Bytes.getD {l : List Int} (h : Bytes l) (i : Nat) : 0 ≤ l.getD i 0 ∧ l.getD i 0 ≤ 255 := by
  by_cases hi : i < l.length
  · rw [List.getD_eq_getElem?_getD, List.getElem?_eq_getElem hi]; exact h _ (List.getElem_mem hi)
  · rw [List.getD_eq_getElem?_getD, List.getElem?_eq_none (by omega)]; simp
theorem words16_succ (b : List Int) (n : Nat) : words16 b (n + 1) = words16 b n ++ [word4 (b.getD (4 * n) 0) (b.getD (4 * n + 1) 0) (b.getD (4 * n + 2) 0) (b.getD (4 * n + 3) 0)] := by
  simp [words16, List.range_succ]

set_option maxRecDepth 100000 in
set_option maxHeartbeats 2000000 in
theorem schedule_calls (v : Value) (l : List Int) (w : World) (hv : Ints w v .u8 l) (hl : l.length = 64) (hby : Bytes l) :
    Calls Tryd.prog 124 #[v] w fun e w' => e = .returned (.agg ((sched l 48).map fun n => Value.int .u32 n).toArray) ∧ Below w.heap.size w w' := by
  obtain ⟨hlen, A, cap, rfl, hcap, hat⟩ := hv.openD
  obtain ⟨b, off, rfl, hb, hat⟩ := hat (by omega)
  have HL := Lib.hid hl
  have HAT := Lib.hid hat
  clear hl hat hv
  go_enter Tryd.func124, Tryd.ntmps124
  go_wp2
  go_loopw [3, 7] (fun s3 s7 wr => ∃ k : Nat, k ≤ 16 ∧ s7 = .int .i64 k ∧ Aside (Arr wr w.heap.size .u32 176 (words16 l k ++ List.replicate (64 - k) 0)) ∧ Aside (Below w.heap.size w wr)) (fun _ s7 _ => 16 - (intOf s7).toNat)
  case atStart => exact ⟨0, by omega, rfl, Arr.new w .u32 176 (List.replicate 64 0), below_one w _⟩
  case round =>
    obtain ⟨k, hk, rfl, hA, hB⟩ := hrel
    by_cases hlt : k < 16
    · have hlen := HL.out
      have c0 := HAT.out wr hB.out (4 * k) (by omega)
      have c1 := HAT.out wr hB.out (4 * k + 1) (by omega)
      have c2 := HAT.out wr hB.out (4 * k + 2) (by omega)
      have c3 := HAT.out wr hB.out (4 * k + 3) (by omega)
      clear hlen
      have HW := Lib.hid (words16_succ l k)
      have r0 := hby.getD (4 * k)
      have r1 := hby.getD (4 * k + 1)
      have r2 := hby.getD (4 * k + 2)
      have r3 := hby.getD (4 * k + 3)
      generalize l.getD (4 * k) 0 = x0 at c0 HW r0
      generalize l.getD (4 * k + 1) 0 = x1 at c1 HW r1
      generalize l.getD (4 * k + 2) 0 = x2 at c2 HW r2
      generalize l.getD (4 * k + 3) 0 = x3 at c3 HW r3
      have u0 : IntKind.u32.wrap x0 = x0 := wu32 r0.1 (by omega)
      have u1 : IntKind.u32.wrap x1 = x1 := wu32 r1.1 (by omega)
      have u2 : IntKind.u32.wrap x2 = x2 := wu32 r2.1 (by omega)
      have u3 : IntKind.u32.wrap x3 = x3 := wu32 r3.1 (by omega)
      have hst := hA.out.cellD k (by simp [words16]; omega)
      have hfz := hA.out.frozen k
      generalize (words16 l k ++ List.replicate (64 - k) 0).getD k 0 = old at hst
      have l0 : (4 * (k : Int)) < (l.length : Int) := by have := HL.out; omega
      have l1 : (4 * (k : Int) + 1) < (l.length : Int) := by have := HL.out; omega
      have l2 : (4 * (k : Int) + 2) < (l.length : Int) := by have := HL.out; omega
      have l3 : (4 * (k : Int) + 3) < (l.length : Int) := by have := HL.out; omega
      have g0 : 0 ≤ 4 * (k : Int) := by omega
      have g1 : 0 ≤ 4 * (k : Int) + 1 := by omega
      have g2 : 0 ≤ 4 * (k : Int) + 2 := by omega
      have g3 : 0 ≤ 4 * (k : Int) + 3 := by omega
      have s0 : IntKind.i64.wrap (4 * (k : Int)) = 4 * (k : Int) := w64 (by omega) (by omega)
      have s1 : IntKind.i64.wrap (4 * (k : Int) + 1) = 4 * (k : Int) + 1 := w64 (by omega) (by omega)
      have s2 : IntKind.i64.wrap (4 * (k : Int) + 2) = 4 * (k : Int) + 2 := w64 (by omega) (by omega)
      have s3 : IntKind.i64.wrap (4 * (k : Int) + 3) = 4 * (k : Int) + 3 := w64 (by omega) (by omega)
      have t0 : (4 * (k : Int)).toNat = 4 * k := by omega
      have t1 : (4 * (k : Int) + 1).toNat = 4 * k + 1 := by omega
      have t2 : (4 * (k : Int) + 2).toNat = 4 * k + 2 := by omega
      have t3 : (4 * (k : Int) + 3).toNat = 4 * k + 3 := by omega
      have k64 : (k : Int) < 64 := by omega
      go_wp2_with fail
      go_still_tail 35, (by kernel_rfl)
      go_wp2
      clear s0 s1 s2 s3 t0 t1 t2 t3 u0 u1 u2 u3 hst hfz
      go_roundw
      case rel =>
        refine ⟨k + 1, by omega, by go_num, (show Arr _ _ _ _ _ from ?_), (hB.out.setCell (p := ⟨w.heap.size, k, none⟩) (Nat.le_refl _) _).drew⟩
        have := hA.out.set k (word4 x0 x1 x2 x3)
        rw [snoc_set _ _ _ _ (by simp [words16]) (by omega), ← HW.out] at this
        exact this
      case measure => simp [intOf]; omega
    · go_wp2
      generalize (k : Int) = z7
      obtain rfl : k = 16 := by omega
      clear hk hlt
      clear HAT
      obtain ⟨wo, rfl⟩ : ∃ wo : World, wo = wr := ⟨_, rfl⟩
      go_loopw [4, 5, 6] (fun s4 _ _ wr => ∃ k : Nat, 16 ≤ k ∧ k ≤ 64 ∧ s4 = .int .i64 k ∧ Aside (Arr wr w.heap.size .u32 176 (sched l (k - 16) ++ List.replicate (64 - k) 0)) ∧ Aside (Below w.heap.size w wr)) (fun s4 _ _ _ => 64 - (intOf s4).toNat)
      case atStart => exact ⟨16, by omega, by omega, rfl, hA, hB⟩
      case round =>
        clear hA hB
        obtain ⟨k, hk1, hk, rfl, hA, hB⟩ := hrel
        by_cases hlt : k < 64
        · have hlen := sched_length l (k - 16)
          have c2 := hA.out.cellD (k - 2) (by simp; omega)
          have c7 := hA.out.cellD (k - 7) (by simp; omega)
          have c15 := hA.out.cellD (k - 15) (by simp; omega)
          have c16 := hA.out.cellD (k - 16) (by simp; omega)
          have hst := hA.out.cellD k (by simp; omega)
          have hfz := hA.out.frozen k
          generalize (sched l (k - 16) ++ List.replicate (64 - k) 0).getD k 0 = old at hst
          rw [getD_left (by omega)] at c2 c7 c15 c16
          have HX := Lib.hid (sched_succ l k hk1)
          generalize (sched l (k - 16)).getD (k - 2) 0 = y at c2 HX
          generalize (sched l (k - 16)).getD (k - 7) 0 = x7 at c7 HX
          generalize (sched l (k - 16)).getD (k - 15) 0 = x at c15 HX
          generalize (sched l (k - 16)).getD (k - 16) 0 = x16 at c16 HX
          clear hlen
          have g2 : 0 ≤ (k : Int) - 2 := by omega
          have f2 : (2 : Int) ≤ (k : Int) := by omega
          have g7 : 0 ≤ (k : Int) - 7 := by omega
          have f7 : (7 : Int) ≤ (k : Int) := by omega
          have g15 : 0 ≤ (k : Int) - 15 := by omega
          have f15 : (15 : Int) ≤ (k : Int) := by omega
          have g16 : 0 ≤ (k : Int) - 16 := by omega
          have f16 : (16 : Int) ≤ (k : Int) := by omega
          have l2 : (k : Int) - 2 < 64 := by omega
          have l7 : (k : Int) - 7 < 64 := by omega
          have l15 : (k : Int) - 15 < 64 := by omega
          have l16 : (k : Int) - 16 < 64 := by omega
          have k64 : (k : Int) < 64 := by omega
          have s2 : IntKind.i64.wrap ((k : Int) - 2) = (k : Int) - 2 := w64 (by omega) (by omega)
          have s7 : IntKind.i64.wrap ((k : Int) - 7) = (k : Int) - 7 := w64 (by omega) (by omega)
          have s15 : IntKind.i64.wrap ((k : Int) - 15) = (k : Int) - 15 := w64 (by omega) (by omega)
          have s16 : IntKind.i64.wrap ((k : Int) - 16) = (k : Int) - 16 := w64 (by omega) (by omega)
          have t2 : ((k : Int) - 2).toNat = k - 2 := by omega
          have t7 : ((k : Int) - 7).toNat = k - 7 := by omega
          have t15 : ((k : Int) - 15).toNat = k - 15 := by omega
          have t16 : ((k : Int) - 16).toNat = k - 16 := by omega
          have hwl : w.heap.size < wr.heap.size := hA.out.lt
          have hwl2 : w.heap.size ≤ wr.heap.size := by omega
          have hwl3 : ¬ w.heap.size = wr.heap.size := by omega
          have hwl4 : ¬ w.heap.size = wr.heap.size + 1 := by omega
          go_wp2_with fail
          go_quiet (fail)
          go_wp2_with fail
          have hA1 : Aside (Arr (wr.drewN nq) w.heap.size .u32 176 (sched l (k - 16) ++ List.replicate (64 - k) 0)) := hA
          have hB1 : Aside (Below w.heap.size w (wr.drewN nq)) := (below_drewN hB.out nq)
          replace c7 : (wr.drewN nq).cell? _ = _ := c7
          replace c16 : (wr.drewN nq).cell? _ = _ := c16
          replace hst : (wr.drewN nq).cell? _ = _ := hst
          replace hfz : (wr.drewN nq).frozen? _ = _ := hfz
          replace hwl : w.heap.size < (wr.drewN nq).heap.size := hwl
          replace hwl2 : w.heap.size ≤ (wr.drewN nq).heap.size := hwl2
          replace hwl3 : ¬ w.heap.size = (wr.drewN nq).heap.size := hwl3
          replace hwl4 : ¬ w.heap.size = (wr.drewN nq).heap.size + 1 := hwl4
          clear c2 c15
          have n16 : ¬ k = k - 16 := by omega
          have n7 : ¬ k = k - 7 := by omega
          have m16 : ¬ k - 16 = k := by omega
          have m7 : ¬ k - 7 = k := by omega
          generalize wr.drewN nq = W1 at *
          go_region_held3 (fun w' => w'.cell? ⟨w.heap.size, k - 16, none⟩ = some (.int .u32 x16) ∧ w'.cell? ⟨w.heap.size, k - 7, none⟩ = some (.int .u32 x7)) (first | (go_split_ands; refine ⟨?_, ?_⟩ <;> (with_reducible refine cellD (cellA (cellA (cellS ?_ ?_ _) _) _) <;> assumption)) | go_keep)
            (first
              | (go_at_call 125; ((with_reducible refine (mixed_lits x _ [7, 18] _ (by decide) ?_).mono ?_)); (repeat (first | exact Ints.lit' _ _ .i64 3 [7, 18] (by simp) (by decide) | refine Ints.drew ?_ | refine Ints.alloc ?_ _)); rintro e w' ⟨rfl, rfl⟩)
              | (go_at_call 125; ((with_reducible refine (mixed_lits y _ [17, 19] _ (by decide) ?_).mono ?_)); (repeat (first | exact Ints.lit' _ _ .i64 3 [17, 19] (by simp) (by decide) | refine Ints.drew ?_ | refine Ints.alloc ?_ _)); rintro e w' ⟨rfl, rfl⟩))
          all_goals
            go_wp2
            clear s2 s7 s15 s16 t2 t7 t15 t16
            go_roundw
            case measure => simp [intOf]; omega
            case rel =>
              refine ⟨k + 1, by omega, by omega, by go_num, (show Arr _ _ _ _ _ from ?_), (show Below _ _ _ from ?_)⟩
              · have := hA1.out.set k (nextW x16 x7 x y)
                rw [snoc_set _ _ _ _ (by simp [sched_length]; omega) (by omega)] at this
                rw [HX.out]
                repeat (first | exact this | refine Arr.drew ?_ | refine Arr.alloc ?_ _)
              · repeat (first | exact hB1.out.setCell (p := ⟨w.heap.size, k, none⟩) (Nat.le_refl _) _ | refine below_drew ?_ | refine below_alloc ?_ _)
        · have e64 : (k : Int) = 64 := by omega
          obtain rfl : k = 64 := by omega
          clear e64
          have hsz : (sched l (64 - 16) ++ List.replicate (64 - 64) 0).length = 64 := by simp [sched_length]
          have HWS := Lib.hid (show sched l (64 - 16) ++ List.replicate (64 - 64) 0 = sched l 48 from by simp)
          generalize sched l (64 - 16) ++ List.replicate (64 - 64) 0 = ws at hA hsz HWS
          have hi : (Tryd.prog.info? 176).map (·.size) = some ws.length := by rw [hsz]; kernel_rfl
          have HI := Lib.hid hi
          clear hi hsz
          go_wp2_with (first | (refine wpList_load_arr 176 (.tmp 2) w.heap.size 64 105 hA.out Tryd.underlying176 HI.out rfl rfl rfl ?_) | (refine wpList_store_arr 176 (.tmp 2) (.tmp 83) w.heap.size hA.out rfl HI.out rfl rfl rfl rfl ?_; intro w1 hA1 hB1 hS1))
          exact bodyPost_arr 64 105 hA1 Tryd.underlying176 HI.out rfl rfl rfl ⟨ret_v (by rw [HWS.out]), hB1 w (Nat.le_refl _) hB.out⟩

end Go.Proofs.YthohfbeelepkmaaDoor
