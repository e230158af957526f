/- slices.Chunk of bytes. -/
import Derived.Test.YthohfbeelepkmaaDoorA9
import Derived.Lib.ConvBytes
namespace Go.Proofs.YthohfbeelepkmaaDoor
open Go.RowKit Go.Shelf
attribute [local go_sem] Oper.semAt_some

/-- The chunks of a slice, the first j of them. -/
def chunksB (g off j : Nat) : List Value := (List.range j).map fun i => .slice (some ⟨g, off + 64 * i, none⟩) 64 64
theorem chunksB_succ (g off j : Nat) : chunksB g off (j + 1) = chunksB g off j ++ [.slice (some ⟨g, off + 64 * j, none⟩) 64 64] := by simp [chunksB, List.range_succ]
theorem chunksB_split (g off m j : Nat) (h : j < m) : ∃ r, chunksB g off m = chunksB g off j ++ (.slice (some ⟨g, off + 64 * j, none⟩) 64 64) :: r := by
  obtain ⟨d, rfl⟩ : ∃ d, m = j + 1 + d := ⟨m - (j + 1), by omega⟩
  refine ⟨((List.range d).map fun i => Value.slice (some ⟨g, off + 64 * (j + 1 + i), none⟩) 64 64), ?_⟩
  unfold chunksB
  rw [List.range_add (n := j + 1), List.map_append, List.range_succ, List.map_append]
  simp [Function.comp_def]

set_option maxHeartbeats 2000000 in
set_option maxRecDepth 100000 in
theorem chunkB_seq (bs bn g off m cap N : Nat) (hN : N = 64 * m) (hm : N ≤ 140737488355328) (hcap : N ≤ cap) (W : World) (c1 : W.cell? ⟨bs, 0, none⟩ = some (.slice (some ⟨g, off, none⟩) N cap)) (c2 : W.cell? ⟨bn, 0, none⟩ = some (.int .i64 64)) :
    SeqG Tryd.prog 123 #[.pointer (some ⟨bs, 0, none⟩), .pointer (some ⟨bn, 0, none⟩)] (fun x : Value => #[x])
      (fun A B => B.cell? ⟨bs, 0, none⟩ = A.cell? ⟨bs, 0, none⟩ ∧ B.cell? ⟨bn, 0, none⟩ = A.cell? ⟨bn, 0, none⟩) (fun A B => ∃ n, B = A.drewN n) (fun xs => xs = chunksB g off m) (fun pre x => ∃ r, chunksB g off m = pre ++ x :: r) W := by
  intro l J hJ hY h0
  have HN := Lib.hid hN
  clear hN
  refine (callsIn_wide (n := 4)).1 (callsIn_of_wp Tryd.func123 rfl trivial ?_ rfl)
  simp only [Tryd.ntmps123, List.size_toArray, List.length_cons, List.length_nil, Nat.reduceAdd, Nat.reduceSub, Array.replicate_succ, Array.replicate_zero, List.push_toArray, List.append_toArray, List.nil_append, List.cons_append]
  gi_wp2
  gi_loopw [4] (fun s4 wr => ∃ j : Nat, j ≤ m ∧ s4 = .int .i64 ((64 * j : Nat) : Int) ∧ wr.cell? ⟨bs, 0, none⟩ = some (.slice (some ⟨g, off, none⟩) N cap) ∧ wr.cell? ⟨bn, 0, none⟩ = some (.int .i64 64) ∧ Aside (J (chunksB g off j) wr)) (fun s4 _ => N - (intOf s4).toNat)
  case atStart => exact ⟨0, Nat.zero_le _, rfl, c1, c2, h0⟩
  case round =>
    obtain ⟨j, hj, rfl, c1, c2, JJ⟩ := hrel
    by_cases hlt : j < m
    · have hs := Lib.hid (chunksB_split g off m j hlt)
      obtain ⟨i, hi⟩ : ∃ i, i = 64 * j := ⟨_, rfl⟩
      have hi1 : i + 64 ≤ N := by have := HN.out; omega
      rw [← hi]
      have HI := Lib.hid hi
      have HJ := Lib.hid hlt
      clear hi hj hlt
      gi_wp2
      refine wpIn_wide.2 ?_
      go_quiet (fail)
      have JD := Lib.hid (hJ _ _ _ ⟨nq, rfl⟩ JJ.out)
      replace c1 := cellN c1 nq
      replace c2 := cellN c2 nq
      clear JJ
      generalize wr.drewN nq = W1 at *
      have hmin : min (64 : Int) ((N - i : Nat) : Int) = 64 := by omega
      rw [hmin]
      clear hmin
      obtain ⟨r, hr⟩ := hs.out
      obtain ⟨fn, tmps, assign, body, hy, hR⟩ := hY _ (.slice (some ⟨g, off + i, none⟩) 64 64) W1 JD.out ⟨r, by rw [hr, ← HI.out]⟩
      clear hs hr JD hY
      gi_wp2
      refine hR.mono ?_
      rintro e W3 ⟨rfl, hJ3, hk1, hk2⟩
      rw [c1] at hk1
      rw [c2] at hk2
      clear hy hR c1 c2
      gi_wp2
      go_roundw
      case measure => simp [intOf]; omega
      case rel =>
        refine ⟨j + 1, HJ.out, ?_, hk1, hk2, ?_⟩
        · rw [HI.out]; go_num
        · show J _ W3
          rw [chunksB_succ, ← HI.out]
          exact hJ3
    · have : j = m := by omega
      subst this
      have hi := HN.out
      rw [← hi]
      clear hi
      gi_wp2
      go_end0
      exact ⟨⟨_, rfl⟩, _, rfl, JJ.out⟩

theorem ChunkB_calls (A : Option Addr) (n c : Nat) (w : World) :
    Calls Tryd.prog 119 #[.slice A n c, .int .i64 64] w fun e w' => e = .returned (.func (.func 123) #[] #[.pointer (some ⟨w.heap.size, 0, none⟩), .pointer (some ⟨w.heap.size + 1, 0, none⟩)]) ∧ w' = (w.alloc (.cells #[.slice A n c] 66)).alloc (.cells #[.int .i64 64] 3) := by
  go_enter Tryd.func119, Tryd.ntmps119
  go_wp2
  go_ret
  exact ⟨rfl, rfl⟩

end Go.Proofs.YthohfbeelepkmaaDoor

/- slices.Chunk of totals. -/
namespace Go.Proofs.YthohfbeelepkmaaDoor
open Go.RowKit Go.Shelf
attribute [local go_sem] Oper.semAt_some

/-- The chunks of a slice, the first j of them. -/
def chunksT (g off j : Nat) : List Value := (List.range j).map fun i => .slice (some ⟨g, off + 2 * i * 9, none⟩) 2 2
theorem chunksT_succ (g off j : Nat) : chunksT g off (j + 1) = chunksT g off j ++ [.slice (some ⟨g, off + 2 * j * 9, none⟩) 2 2] := by simp [chunksT, List.range_succ]
theorem chunksT_split (g off m j : Nat) (h : j < m) : ∃ r, chunksT g off m = chunksT g off j ++ (.slice (some ⟨g, off + 2 * j * 9, none⟩) 2 2) :: r := by
  obtain ⟨d, rfl⟩ : ∃ d, m = j + 1 + d := ⟨m - (j + 1), by omega⟩
  refine ⟨((List.range d).map fun i => Value.slice (some ⟨g, off + 2 * (j + 1 + i) * 9, none⟩) 2 2), ?_⟩
  unfold chunksT
  rw [List.range_add (n := j + 1), List.map_append, List.range_succ, List.map_append]
  simp [Function.comp_def]

set_option maxHeartbeats 2000000 in
set_option maxRecDepth 100000 in
theorem chunkT_seq (bs bn g off m cap N : Nat) (hN : N = 2 * m) (hm : N ≤ 140737488355328) (hcap : N ≤ cap) (W : World) (c1 : W.cell? ⟨bs, 0, none⟩ = some (.slice (some ⟨g, off, none⟩) N cap)) (c2 : W.cell? ⟨bn, 0, none⟩ = some (.int .i64 2)) :
    SeqG Tryd.prog 103 #[.pointer (some ⟨bs, 0, none⟩), .pointer (some ⟨bn, 0, none⟩)] (fun x : Value => #[x])
      (fun A B => B.cell? ⟨bs, 0, none⟩ = A.cell? ⟨bs, 0, none⟩ ∧ B.cell? ⟨bn, 0, none⟩ = A.cell? ⟨bn, 0, none⟩) (fun A B => ∃ n, B = A.drewN n) (fun xs => xs = chunksT g off m) (fun pre x => ∃ r, chunksT g off m = pre ++ x :: r) W := by
  intro l J hJ hY h0
  have HN := Lib.hid hN
  clear hN
  refine (callsIn_wide (n := 4)).1 (callsIn_of_wp Tryd.func103 rfl trivial ?_ rfl)
  simp only [Tryd.ntmps103, List.size_toArray, List.length_cons, List.length_nil, Nat.reduceAdd, Nat.reduceSub, Array.replicate_succ, Array.replicate_zero, List.push_toArray, List.append_toArray, List.nil_append, List.cons_append]
  gi_wp2
  gi_loopw [4] (fun s4 wr => ∃ j : Nat, j ≤ m ∧ s4 = .int .i64 ((2 * j : Nat) : Int) ∧ wr.cell? ⟨bs, 0, none⟩ = some (.slice (some ⟨g, off, none⟩) N cap) ∧ wr.cell? ⟨bn, 0, none⟩ = some (.int .i64 2) ∧ Aside (J (chunksT g off j) wr)) (fun s4 _ => N - (intOf s4).toNat)
  case atStart => exact ⟨0, Nat.zero_le _, rfl, c1, c2, h0⟩
  case round =>
    obtain ⟨j, hj, rfl, c1, c2, JJ⟩ := hrel
    by_cases hlt : j < m
    · have hs := Lib.hid (chunksT_split g off m j hlt)
      obtain ⟨i, hi⟩ : ∃ i, i = 2 * j := ⟨_, rfl⟩
      have hi1 : i + 2 ≤ N := by have := HN.out; omega
      rw [← hi]
      have HI := Lib.hid hi
      have HJ := Lib.hid hlt
      clear hi hj hlt
      gi_wp2
      refine wpIn_wide.2 ?_
      go_quiet (fail)
      have JD := Lib.hid (hJ _ _ _ ⟨nq, rfl⟩ JJ.out)
      replace c1 := cellN c1 nq
      replace c2 := cellN c2 nq
      clear JJ
      generalize wr.drewN nq = W1 at *
      have hmin : min (2 : Int) ((N - i : Nat) : Int) = 2 := by omega
      rw [hmin]
      clear hmin
      obtain ⟨r, hr⟩ := hs.out
      obtain ⟨fn, tmps, assign, body, hy, hR⟩ := hY _ (.slice (some ⟨g, off + i * 9, none⟩) 2 2) W1 JD.out ⟨r, by rw [hr, ← HI.out]⟩
      clear hs hr JD hY
      gi_wp2
      refine hR.mono ?_
      rintro e W3 ⟨rfl, hJ3, hk1, hk2⟩
      rw [c1] at hk1
      rw [c2] at hk2
      clear hy hR c1 c2
      gi_wp2
      go_roundw
      case measure => simp [intOf]; omega
      case rel =>
        refine ⟨j + 1, HJ.out, ?_, hk1, hk2, ?_⟩
        · rw [HI.out]; go_num
        · show J _ W3
          rw [chunksT_succ, ← HI.out]
          exact hJ3
    · have : j = m := by omega
      subst this
      have hi := HN.out
      rw [← hi]
      clear hi
      gi_wp2
      go_end0
      exact ⟨⟨_, rfl⟩, _, rfl, JJ.out⟩

theorem ChunkT_calls (A : Option Addr) (n c : Nat) (w : World) :
    Calls Tryd.prog 76 #[.slice A n c, .int .i64 2] w fun e w' => e = .returned (.func (.func 103) #[] #[.pointer (some ⟨w.heap.size, 0, none⟩), .pointer (some ⟨w.heap.size + 1, 0, none⟩)]) ∧ w' = (w.alloc (.cells #[.slice A n c] 85)).alloc (.cells #[.int .i64 2] 3) := by
  go_enter Tryd.func76, Tryd.ntmps76
  go_wp2
  go_ret
  exact ⟨rfl, rfl⟩

end Go.Proofs.YthohfbeelepkmaaDoor

/- Rows of bytes that began as a string's bytes: appended to, one by one. -/
namespace Go.Proofs.YthohfbeelepkmaaDoor
open Go.RowKit Go.Shelf

/-- A row of bytes of the call's own, whatever mark lies behind its last cell. -/
def RowM (w : World) (B : Nat) (v : Value) (l : List Int) : Prop :=
  ∃ (g cap : Nat) (cur : Array Value) (fz : Nat × Nat), v = .slice (some ⟨g, 0, none⟩) l.length cap ∧ B ≤ g ∧ w.heap[g]? = some (.cells cur 5 fz) ∧ (cur.size ≤ fz.1 ∨ fz.2 = 0) ∧ l.length ≤ cap ∧ cap ≤ maxLen ∧ cur.size = cap ∧ cur.toList.take l.length = u8s l

theorem RowM.keep {W W' : World} {B : Nat} {v : Value} {l : List Int} {ts : List TypeId} (h : RowM W B v l) (hk : KeepT ts W W') (he : 5 ∈ ts) : RowM W' B v l := by
  obtain ⟨g, cap, cur, fz, hv, hb, hg, r⟩ := h
  exact ⟨g, cap, cur, fz, hv, hb, hk g _ _ _ he hg, r⟩
theorem RowM.ints {W : World} {B : Nat} {v : Value} {l : List Int} (h : RowM W B v l) (hl : l.length ≤ 140737488355328) : Ints W v .u8 l := by
  obtain ⟨g, cap, cur, fz, rfl, hb, hg, hfz, hc, hm, hs, ht⟩ := h
  refine Ints.of_cells rfl hl hc (Array.getElem?_eq_some_iff.1 hg).1 fun j hj => ?_
  have h2 : (u8s l)[j]? = some (.int .u8 l[j]) := by simp [u8s, hj]
  rw [← ht, List.getElem?_take, if_pos hj] at h2
  unfold World.cell?
  rw [hg]
  simpa using h2
theorem RowM.cell {W : World} {B g off n cap : Nat} {l : List Int} (h : RowM W B (.slice (some ⟨g, off, none⟩) n cap) l) (j : Nat) (hj : j < l.length) : W.cell? ⟨g, j, none⟩ = some (.int .u8 l[j]) := by
  obtain ⟨g, cap, cur, fz, e, hb, hg, hfz, hc, hm, hs, ht⟩ := h
  cases e
  have h2 : (u8s l)[j]? = some (.int .u8 l[j]) := by simp [u8s, hj]
  rw [← ht, List.getElem?_take, if_pos hj] at h2
  unfold World.cell?
  rw [hg]
  simpa using h2

theorem run_append_byte {P : Program} (w : World) (B : Nat) (t ty e : TypeId) (i : TypeInfo) (z : Value) (ht : P.underlying t = some (.slice e)) (hi : P.info? e = some i) (hz : i.zero = some z)
    (hsize : i.size = 1) (hby : i.bytes = 1) (hzs : z.cells.size = 1) (he : e = 5) (v : Value) (l : List Int) (h : RowM w B v l) (a : Addr) (c : Nat) (x : Int) (hx : w.cell? a = some (.int .u8 x))
    (hl : l.length + 1 ≤ 140737488355328) (hB : B ≤ w.heap.size) :
    ∃ v' w', (Builtin.append_ #[t, t] ty #[v, .slice (some a) 1 c]).run P w = .ok v' w' ∧ RowM w' B v' (l ++ [x]) ∧ Below B w w' := by
  obtain ⟨g, cap, cur, fz, rfl, hb, hg, hfz, hc, hm, hs, htk⟩ := h
  subst he
  have hnews : ∀ j u, [Value.int .u8 x][j]? = some u → w.cell? (a.add j) = some u := by
    intro j u hj
    match j, hj with
    | 0, hj => simp at hj; subst hj; simpa [Addr.add] using hx
  have hul : (u8s l).length = l.length := by simp [u8s]
  by_cases hroom : l.length + 1 ≤ cap
  · have hf := run_firstCells_some (P := P) w 1 1 a 1 c [Value.int .u8 x] rfl hnews
    have hlt : l.length < cur.size := by omega
    have hcell : w.cell? ⟨g, l.length, none⟩ = some cur[l.length] := by simp [World.cell?, hg, hlt]
    have hfro : w.frozen? ⟨g, l.length, none⟩ = false := by
      obtain ⟨lo, hi'⟩ := fz
      simp only [World.frozen?, hg, Bool.and_eq_false_iff, decide_eq_false_iff_not]
      rcases hfz with h | h
      · left; simp only at h; omega
      · right; simp only at h; omega
    have hst : (store (⟨g, l.length, none⟩ : Addr) (.int .u8 x)).run P w = .ok () (w.setRow g (cur.setIfInBounds l.length (.int .u8 x))) := by
      rw [run_store P w _ _ _ rfl, hcell]
      simp [hfro, setCell_eq_setRow w g l.length cur 5 fz _ hg]
    have hadd : (⟨g, l.length, none⟩ : Addr).add 0 = ⟨g, l.length, none⟩ := by simp [Addr.add]
    have hst2 : (storeCells ⟨g, l.length, none⟩ [Value.int .u8 x] 0).run P w = .ok () (w.setRow g (cur.setIfInBounds l.length (.int .u8 x))) := by
      simp only [storeCells, hadd, Sem.run_bind, hst, Result.andThen_ok]
      rfl
    refine ⟨.slice (some ⟨g, 0, none⟩) (l.length + 1) cap, w.setRow g (cur.setIfInBounds l.length (.int .u8 x)), ?_, ⟨g, cap, _, fz, by simp, hb, setRow_heap w g cur _ 5 fz hg, ?_, by simpa using hroom, hm, by simpa using hs, ?_⟩, ?_⟩
    · simp [Builtin.append_, run_underlying ht, sizeOf, typeInfo, hi, hsize, Builtin.lenOf, hroom, hf, Addr.add_lit, hst2]
    · simpa using hfz
    · simp only [Array.toList_setIfInBounds, List.length_append, List.length_cons, List.length_nil, Nat.zero_add]
      rw [List.take_add_one]
      have h3 : (cur.toList.set l.length (Value.int .u8 x)).take l.length = cur.toList.take l.length := by
        apply List.take_set_of_le; omega
      rw [h3, htk]
      simp [hlt, u8s]
    · exact ⟨rfl, rfl, rfl, by rw [setRow_size]; exact Nat.le_refl _, fun k hk => setRow_other _ _ _ _ (by omega)⟩
  · have holds : ∀ j u, (u8s l)[j]? = some u → w.cell? ((⟨g, 0, none⟩ : Addr).add j) = some u := by
      intro j u hj
      have hj2 : j < l.length := by have := (List.getElem?_eq_some_iff.1 hj).1; omega
      rw [← htk, List.getElem?_take, if_pos hj2] at hj
      have hadd : (⟨g, 0, none⟩ : Addr).add j = ⟨g, j, none⟩ := by unfold Addr.add; split <;> simp_all
      rw [hadd]
      unfold World.cell?
      rw [hg]
      simpa using hj
    have hlo : (u8s l).length = l.length * i.size := by rw [hul, hsize]; omega
    have hr := run_append_grow (P := P) w t ty 5 i z ht hi hz ⟨g, 0, none⟩ l.length cap (u8s l) hlo holds a 1 c [Value.int .u8 x] (by simp [hsize]) hnews (by omega) (by omega) (growslice_fits (by omega) (by rw [hby]; omega))
    refine ⟨_, _, hr, ⟨w.heap.size, grownCap w (l.length + 1) cap 5, _, (0, 0), by simp, hB, heap_alloc_new w.drew _, .inr rfl, ?_, grownCap_le_maxLen w (l.length + 1) cap 5 (by unfold maxLen; omega), ?_, ?_⟩, ?_⟩
    · have := grownCap_ge w (l.length + 1) cap 5; simpa using this
    · have := grownCap_ge w (l.length + 1) cap 5
      simp only [Array.size_append, List.size_toArray, size_zeroCells, hzs, hul, List.length_cons, List.length_nil]
      omega
    · have e1 : (u8s l ++ [Value.int .u8 x]).length = (l ++ [x]).length := by simp [u8s]
      have e2 : u8s (l ++ [x]) = u8s l ++ [Value.int .u8 x] := by simp [u8s]
      rw [← e1, e2]
      simp only [Array.toList_append]
      exact List.take_left
    · exact (Below.refl B w).drew.alloc hB _

theorem wpList_append_byte {ops : Array Oper} {rest : List Oper} {o : Oper} {act : Act} {Q : Exit → Act → World → Prop} (w : World) (hgd : o.guard = none) (s y : Operand)
    (ho : o.op = .call { callee := .builtin .append, args := #[s, y], argTypes := #[66, 66] }) (B : Nat) (v : Value) (l : List Int) (hs : act.eval s = v) (h : RowM w B v l) (ad : Addr) (c : Nat) (x : Int)
    (hy : act.eval y = .slice (some ad) 1 c) (hx : w.cell? ad = some (.int .u8 x)) (hl : l.length + 1 ≤ 140737488355328) (hB : B ≤ w.heap.size)
    (hk : ∀ v' w', RowM w' B v' (l ++ [x]) → Below B w w' → wpList Tryd.prog ops Q rest (act.put o.dst v') w') : wpList Tryd.prog ops Q (o :: rest) act w := by
  refine wpList_plain hgd fun K hK => ?_
  obtain ⟨i0, hi, hz0, hz1, hz2⟩ := info_parts (show (Tryd.prog.info? 5).map (fun i => (i.zero, i.size, i.bytes)) = some (some (.int .u8 0), 1, 1) by kernel_rfl)
  obtain ⟨v', w', hr, h2, h3⟩ := run_append_byte (P := Tryd.prog) w B 66 o.type 5 i0 (.int .u8 0) (by kernel_rfl) hi hz0 hz1 hz2 rfl rfl v l h ad c x hx hl hB
  unfold Oper.wp execOp
  simp only [ho, resolve, invoke, builtin, Sem.run_bind, Sem.run_pure, Result.andThen_ok, List.map_toArray, List.map_cons, List.map_nil, hs, hy, hr]
  exact hK _ _ (hk v' w' h2 h3)

/-- The bytes of a string, as numbers. -/
def numsOf (s : ByteArray) : List Int := s.data.toList.map fun b => (b.toNat : Int)
theorem numsOf_length (s : ByteArray) : (numsOf s).length = s.size := by simp [numsOf]

/-- What []byte(s) hands over. -/
theorem convert_row {P : Program} (w : World) (src dst : TypeId) (s : ByteArray) (hs : P.underlying src = some .string) (hd : P.underlying dst = some (.slice 5)) (he : P.underlying 5 = some (.int .u8)) (hl : s.size ≤ 140737488355328) :
    ∃ v w', (convert src dst (.string s)).run P w = .ok v w' ∧ RowM w' w.heap.size v (numsOf s) ∧ Below w.heap.size w w' := by
  refine ⟨_, _, Lib.run_convert_string_bytes w src dst 5 s hs hd he, ?_, ?_⟩
  · have hge := grownCap_ge w s.size 0 5
    have hbs : (Lib.bytesCells w 5 s).size = grownCap w s.size 0 5 := by simp only [Lib.bytesCells, Array.size_append, Array.size_map, Array.size_replicate, ByteArray.size_data]; omega
    refine ⟨w.heap.size, grownCap w s.size 0 5, _, _, by rw [numsOf_length], Nat.le_refl _, Lib.bytesWorld_at_new w 5 s, .inl (Nat.le_refl _), by rw [numsOf_length]; exact hge, grownCap_le_maxLen w s.size 0 5 (by unfold maxLen; omega), hbs, ?_⟩
    rw [numsOf_length]
    have e1 : (s.data.map fun b => Value.int .u8 b.toNat).toList.length = s.size := by simp
    have e2 : u8s (numsOf s) = (s.data.map fun b => Value.int .u8 b.toNat).toList := by simp [u8s, numsOf]
    rw [e2, ← e1]
    simp only [Lib.bytesCells, Array.toList_append]
    exact List.take_left
  · refine ⟨rfl, rfl, rfl, by rw [Lib.bytesWorld_size]; omega, fun k hk => Lib.bytesWorld_at_old w 5 s k hk⟩

end Go.Proofs.YthohfbeelepkmaaDoor
