/- Ledgers in variables of the call's own that grow: the boxes, the appends. -/
import Derived.Test.YthohfbeelepkmaaDoorN1
import Derived.Test.YthohfbeelepkmaaDoorM2
import Derived.Deep.MidRow
namespace Go.Proofs.YthohfbeelepkmaaDoor
open Go.RowKit Go.Shelf

/-- Variables in memory that hold ledgers with one key: their blocks, their charges' values. -/
def Boxes (KB : ByteArray) (W : World) (B : List (Nat × Value)) : Prop := ∀ p ∈ B, W.heap[p.1]? = some (.cells #[.string KB, p.2] 26 (0, 0))
theorem Boxes.below {KB : ByteArray} {W W' : World} {B : List (Nat × Value)} (h : Boxes KB W B) (hb : Below W.heap.size W W') : Boxes KB W' B :=
  fun p hp => (hb.block _ (Array.getElem?_eq_some_iff.1 (h p hp)).1).trans (h p hp)
theorem Boxes.grow {KB : ByteArray} {n : Nat} {W W' : World} {B : List (Nat × Value)} {v : Value} {L : List Ch} (h : Boxes KB W B) (ho : Row n W (v, L)) (hg : W.grownBy W' v.ownBlock) : Boxes KB W' B := fun p hp => by
  refine (hg.block _ (Array.getElem?_eq_some_iff.1 (h p hp)).1 fun e => ?_).trans (h p hp)
  obtain ⟨_, _, c, hc⟩ := ownsRow_lt ho e.symm
  rw [h p hp] at hc
  cases hc
theorem setCell_block (W : World) (g i k : Nat) (v : Value) (h : k ≠ g) : (W.setCell ⟨g, i, none⟩ v).heap[k]? = W.heap[k]? := Below.heap_setCell _ _ _ _ h
theorem Boxes.set {KB : ByteArray} {W : World} {S T : List (Nat × Value)} {g : Nat} {u : Value} (h : Boxes KB W (S ++ (g, u) :: T)) (hd : ∀ p ∈ S ++ T, p.1 ≠ g) (u' : Value) : Boxes KB (W.setCell ⟨g, 1, none⟩ u') (S ++ (g, u') :: T) := by
  intro p hp
  have hcase : p = (g, u') ∨ p ∈ S ++ T := by
    rcases List.mem_append.1 hp with hp | hp
    · exact .inr (List.mem_append_left _ hp)
    · rcases List.mem_cons.1 hp with hp | hp
      · exact .inl hp
      · exact .inr (List.mem_append_right _ hp)
  rcases hcase with rfl | hp
  · have hg := h (g, u) (by simp)
    simp only [World.setCell, Array.getElem?_modify, hg, Option.map_some, if_true]
    rfl
  · rw [setCell_block _ _ _ _ _ (hd p hp)]
    refine h p ?_
    rcases List.mem_append.1 hp with hp | hp
    · exact List.mem_append_left _ hp
    · exact List.mem_append_right _ (List.mem_cons_of_mem _ hp)
/-- A box is written: the rows stay. -/
theorem Owns.setBox {n g : Nat} {KB : ByteArray} {W : World} {S : List (Value × List Ch)} (h : Owns n W S) {u : Value} (hg : W.heap[g]? = some (.cells #[.string KB, u] 26 (0, 0))) (i : Nat) (u' : Value) : Owns n (W.setCell ⟨g, i, none⟩ u') S :=
  h.far hg (by decide) fun k hk => setCell_block _ _ _ _ _ hk
theorem box_cell {W : World} {g : Nat} {KB : ByteArray} {v : Value} (h : W.heap[g]? = some (.cells #[.string KB, v] 26 (0, 0))) : W.cell? ⟨g, 0, none⟩ = some (.string KB) ∧ W.cell? ⟨g, 1, none⟩ = some v ∧ W.frozen? ⟨g, 1, none⟩ = false := by
  refine ⟨?_, ?_, ?_⟩
  · unfold World.cell?; rw [h]; rfl
  · unfold World.cell?; rw [h]; rfl
  · simp [World.frozen?, h]
theorem ch_cell {W : World} {g : Nat} {c0 c1 c2 c3 : Int} {c4 : ByteArray} (h : W.heap[g]? = some (.cells #[.int .i64 c0, .int .i64 c1, .int .i64 c2, .int .i64 c3, .string c4] 30 (0, 0))) :
    W.cell? ⟨g, 0, none⟩ = some (.int .i64 c0) ∧ W.cell? ⟨g, 1, none⟩ = some (.int .i64 c1) ∧ W.cell? ⟨g, 2, none⟩ = some (.int .i64 c2) ∧ W.cell? ⟨g, 3, none⟩ = some (.int .i64 c3) ∧ W.cell? ⟨g, 4, none⟩ = some (.string c4) ∧ W.frozen? ⟨g, 4, none⟩ = false := by
  refine ⟨?_, ?_, ?_, ?_, ?_, ?_⟩
  · unfold World.cell?; rw [h]; rfl
  · unfold World.cell?; rw [h]; rfl
  · unfold World.cell?; rw [h]; rfl
  · unfold World.cell?; rw [h]; rfl
  · unfold World.cell?; rw [h]; rfl
  · simp [World.frozen?, h]

/-- One charge is appended to one of the rows. -/
theorem wpList_app_ch {ops : Array Oper} {rest : List Oper} {o : Oper} {a : Act} {Q : Exit → Act → World → Prop} (W : World) (hgd : o.guard = none) (s x : Operand) (ho : o.op = .call { callee := .builtin .append, args := #[s, x], argTypes := #[24, 24] })
    (n : Nat) {S T : List (Value × List Ch)} {v : Value} {L : List Ch} (c : Ch) (g : Nat) (hO : Owns n W (S ++ (v, L) :: T)) (hs : a.eval s = v) (hx : a.eval x = .slice (some ⟨g, 0, none⟩) 1 1) (hg : W.heap[g]? = some (.cells c.cells.toArray 30 (0, 0)))
    (hl : L.length ≤ 1000) (hn : n ≤ W.heap.size)
    (h : ∀ v' w', Owns n w' (S ++ (v', L ++ [c]) :: T) → W.grownBy w' v.ownBlock → (v'.ownBlock = v.ownBlock ∨ v'.ownBlock = some W.heap.size) → wpList Tryd.prog ops Q rest (a.put o.dst v') w') : wpList Tryd.prog ops Q (o :: rest) a W := by
  obtain ⟨i0, hi, hz0, hz1, hz2⟩ := info_parts (show (Tryd.prog.info? 30).map (fun i => (i.zero, i.size, i.bytes)) = some (some (.agg #[.int .i64 0, .int .i64 0, .int .i64 0, .int .i64 0, .string ⟨#[]⟩]), 5, 48) by kernel_rfl)
  have hrow := hO.1 (v, L) (by simp)
  refine wpList_append_own_at W hgd s x 24 ho n 30 i0 _ 5 48 (by kernel_rfl) hi hz0 hz1 hz2 rfl (by decide) v L.length (chCells L) hs hrow ⟨g, 0, none⟩ 1 1 c.cells hx rfl ?_ ?_ (by unfold maxLen; omega) (by omega) hn ?_
  · intro j u hu
    rw [Addr.add_mid, Nat.zero_add]
    unfold World.cell?
    rw [hg]
    simpa using hu
  · intro u hu
    simp only [Ch.cells, List.mem_cons, List.not_mem_nil, or_false] at hu
    rcases hu with rfl | rfl | rfl | rfl | rfl <;> rfl
  · intro v' w' h1 h2 _ h4
    refine h v' w' (hO.grow h2 ?_ h4) h2 h4
    show w'.ownsRow n 30 5 v' (L ++ [c]).length (chCells (L ++ [c]))
    rw [show chCells (L ++ [c]) = chCells L ++ c.cells by simp [chCells]]
    simpa using h1
/-- A row is appended to another. -/
theorem wpList_app_sl {ops : Array Oper} {rest : List Oper} {o : Oper} {a : Act} {Q : Exit → Act → World → Prop} (W : World) (hgd : o.guard = none) (s x : Operand) (ho : o.op = .call { callee := .builtin .append, args := #[s, x], argTypes := #[24, 24] })
    (n : Nat) {v u : Value} {L M : List Ch} (hO : Row n W (v, L)) (hU : Chs W u M) (hs : a.eval s = v) (hx : a.eval x = u) (hl : L.length + M.length ≤ 1000) (hn : n ≤ W.heap.size)
    (h : ∀ v' w', Row n w' (v', L ++ M) → W.grownBy w' v.ownBlock → wpList Tryd.prog ops Q rest (a.put o.dst v') w') : wpList Tryd.prog ops Q (o :: rest) a W := by
  obtain ⟨i0, hi, hz0, hz1, hz2⟩ := info_parts (show (Tryd.prog.info? 30).map (fun i => (i.zero, i.size, i.bytes)) = some (some (.agg #[.int .i64 0, .int .i64 0, .int .i64 0, .int .i64 0, .string ⟨#[]⟩]), 5, 48) by kernel_rfl)
  refine wpList_plain hgd fun K hK => ?_
  refine wp_append_sl W s x 24 ho n 30 i0 _ 5 48 (by kernel_rfl) hi hz0 hz1 hz2 rfl (by decide) v L.length (chCells L) hs hO u (M.map Ch.cells) hx hU ?_ (by rw [List.length_map]; unfold maxLen; omega) (by rw [List.length_map]; omega) hn ?_
  · intro u hu
    simp only [List.mem_flatten, List.mem_map] at hu
    obtain ⟨x, ⟨c, _, rfl⟩, hx⟩ := hu
    simp only [Ch.cells, List.mem_cons, List.not_mem_nil, or_false] at hx
    rcases hx with rfl | rfl | rfl | rfl | rfl <;> rfl
  · intro v' w' h1 h2
    refine hK _ _ (h v' w' ?_ h2)
    rw [List.length_map] at h1
    show w'.ownsRow n 30 5 v' (L ++ M).length (chCells (L ++ M))
    rw [show chCells (L ++ M) = chCells L ++ chCells M by simp [chCells], List.length_append]
    exact h1

def chObj (c : Ch) : Obj := .cells c.cells.toArray 30
/-- What stays when a row has grown behind an allocation. -/
theorem app_step0 {KB : ByteArray} {n g19 : Nat} {W2 W7 w8 : World} {B : List (Nat × Value)} {S T : List (Value × List Ch)} {v v' : Value} {L L' : List Ch} {ch : Ch} (row : Obj)
    (hBx : Boxes KB W7 B) (hO : Owns n W7 (S ++ (v, L) :: T)) (h19 : W7.heap[g19]? = some (chObj ch)) (hoff : ∀ p ∈ S ++ (v, L) :: T, p.1.ownBlock ≠ some g19) (hn : n ≤ W7.heap.size) (hB : Below n W2 W7)
    (hgr : (W7.alloc row).grownBy w8 v.ownBlock) (hv : v'.ownBlock = v.ownBlock ∨ v'.ownBlock = some (W7.alloc row).heap.size) :
    Boxes KB w8 B ∧ w8.heap[g19]? = some (chObj ch) ∧ (∀ p ∈ S ++ (v', L') :: T, p.1.ownBlock ≠ some g19) ∧ Below n W2 w8 ∧ W7.heap.size ≤ w8.heap.size := by
  have hlt := (Array.getElem?_eq_some_iff.1 h19).1
  have hb1 := below_one W7 row
  have hrow : Row n (W7.alloc row) (v, L) := (hO.below hb1).1 (v, L) (by simp)
  refine ⟨(hBx.below hb1).grow hrow hgr, ?_, ?_, ?_, ?_⟩
  · rw [hgr.block g19 (by rw [World.size_alloc]; omega) (fun e => hoff (v, L) (by simp) e.symm)]
    exact (hb1.block _ hlt).trans h19
  · intro p hp
    have hcase : p = (v', L') ∨ p ∈ S ++ (v, L) :: T := by
      rcases List.mem_append.1 hp with hp | hp
      · exact .inr (List.mem_append_left _ hp)
      · rcases List.mem_cons.1 hp with hp | hp
        · exact .inl hp
        · exact .inr (List.mem_append_right _ (List.mem_cons_of_mem _ hp))
    rcases hcase with rfl | hp
    · exact off_grow (W := W7.alloc row) (hoff (v, L) (by simp)) (by rw [World.size_alloc]; omega) hv
    · exact hoff p hp
  · exact (hB.trans (hb1.mono hn)).grown hgr (by rw [World.size_alloc]; omega) (fun k hk => (ownsRow_lt hrow hk).1)
  · have := hgr.size
    rw [World.size_alloc] at this
    omega
/-- .. and the grown row has been laid into its box. -/
theorem app_step {KB : ByteArray} {n g19 g : Nat} {W2 W7 w8 : World} {B C : List (Nat × Value)} {S T : List (Value × List Ch)} {v v' : Value} {L L' : List Ch} {ch : Ch} (row : Obj)
    (hBx : Boxes KB W7 (B ++ (g, v) :: C)) (hd : ∀ p ∈ B ++ C, p.1 ≠ g) (hO : Owns n W7 (S ++ (v, L) :: T)) (h19 : W7.heap[g19]? = some (chObj ch)) (hoff : ∀ p ∈ S ++ (v, L) :: T, p.1.ownBlock ≠ some g19) (hn : n ≤ W7.heap.size) (hng : n ≤ g) (hB : Below n W2 W7)
    (hO' : Owns n w8 (S ++ (v', L') :: T)) (hgr : (W7.alloc row).grownBy w8 v.ownBlock) (hv : v'.ownBlock = v.ownBlock ∨ v'.ownBlock = some (W7.alloc row).heap.size) :
    (w8.cell? ⟨g, 1, none⟩ = some v ∧ w8.frozen? ⟨g, 1, none⟩ = false) ∧ Boxes KB (w8.setCell ⟨g, 1, none⟩ v') (B ++ (g, v') :: C) ∧ Owns n (w8.setCell ⟨g, 1, none⟩ v') (S ++ (v', L') :: T) ∧ (w8.setCell ⟨g, 1, none⟩ v').heap[g19]? = some (chObj ch) ∧
      (∀ p ∈ S ++ (v', L') :: T, p.1.ownBlock ≠ some g19) ∧ Below n W2 (w8.setCell ⟨g, 1, none⟩ v') ∧ W7.heap.size ≤ (w8.setCell ⟨g, 1, none⟩ v').heap.size := by
  obtain ⟨h1, h2, h3, h4, h5⟩ := app_step0 (L' := L') row hBx hO h19 hoff hn hB hgr hv
  have hg := h1 (g, v) (by simp)
  have hne : g19 ≠ g := by
    rintro rfl
    rw [h2] at hg
    cases hg
  refine ⟨⟨(box_cell hg).2.1, (box_cell hg).2.2⟩, h1.set hd v', hO'.setBox hg 1 v', ?_, h3, h4.setCell (p := ⟨g, 1, none⟩) hng _, ?_⟩
  · rw [setCell_block _ _ _ _ _ hne]; exact h2
  · simpa [World.setCell] using h5
/-- The text of the charge at hand is written. -/
theorem text_step {KB : ByteArray} {n g19 : Nat} {W2 W : World} {B : List (Nat × Value)} {S : List (Value × List Ch)} {ch : Ch} (tx : ByteArray)
    (hBx : Boxes KB W B) (hO : Owns n W S) (h19 : W.heap[g19]? = some (chObj ch)) (hoff : ∀ p ∈ S, p.1.ownBlock ≠ some g19) (hn : n ≤ g19) (hB : Below n W2 W) :
    Boxes KB (W.setCell ⟨g19, 4, none⟩ (.string tx)) B ∧ Owns n (W.setCell ⟨g19, 4, none⟩ (.string tx)) S ∧ (W.setCell ⟨g19, 4, none⟩ (.string tx)).heap[g19]? = some (chObj { ch with tx := tx }) ∧ Below n W2 (W.setCell ⟨g19, 4, none⟩ (.string tx)) := by
  refine ⟨fun p hp => ?_, hO.off hoff fun k hk => setCell_block _ _ _ _ _ hk, ?_, hB.setCell (p := ⟨g19, 4, none⟩) hn _⟩
  · have hg := hBx p hp
    rw [setCell_block _ _ _ _ _ (by rintro e; rw [e, h19] at hg; cases hg)]
    exact hg
  · simp only [World.setCell, Array.getElem?_modify, h19, Option.map_some, if_true, chObj, Ch.cells]
    rfl
end Go.Proofs.YthohfbeelepkmaaDoor
