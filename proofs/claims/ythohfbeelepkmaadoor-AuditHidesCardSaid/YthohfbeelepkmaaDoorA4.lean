/- digest: a block is added to the words. -/
import Derived.Test.YthohfbeelepkmaaDoorA0
import Derived.Laws.CopyRow
namespace Go.Proofs.YthohfbeelepkmaaDoor
open Go.RowKit Go.Shelf

/-- All blocks but one are as they were. -/
structure BelowBut (g : Nat) (w w' : World) : Prop where
  os : w'.os = w.os
  tape : w'.tape = w.tape
  output : w'.output = w.output
  size : w.heap.size ≤ w'.heap.size
  block : ∀ k, k < w.heap.size → k ≠ g → w'.heap[k]? = w.heap[k]?
theorem BelowBut.of_below {g : Nat} {w w' : World} (h : Below w.heap.size w w') : BelowBut g w w' := ⟨h.os, h.tape, h.output, h.size, fun k hk _ => h.block k hk⟩
theorem BelowBut.then_ {g : Nat} {a b c : World} (h : BelowBut g a b) (k : BelowBut g b c) : BelowBut g a c :=
  ⟨k.os.trans h.os, k.tape.trans h.tape, k.output.trans h.output, Nat.le_trans h.size k.size, fun i hi hg => (k.block i (Nat.lt_of_lt_of_le hi h.size) hg).trans (h.block i hi hg)⟩
theorem BelowBut.set {g : Nat} {w w1 : World} (h : BelowBut g w w1) (i : Nat) (v : Value) : BelowBut g w (w1.setCell ⟨g, i, none⟩ v) :=
  ⟨h.os, h.tape, h.output, by simp [World.setCell]; exact h.size, fun k hk hg => (Below.heap_setCell _ _ _ _ hg).trans (h.block k hk hg)⟩
theorem BelowBut.drew {g : Nat} {w w1 : World} (h : BelowBut g w w1) : BelowBut g w w1.drew := ⟨h.os, h.tape, h.output, h.size, h.block⟩

/-- The builtin copy, within one array. -/
theorem wpList_copy_arr {P : Program} {ops : Array Oper} {rest : List Oper} {o : Oper} {a : Act} {w : World} {Q : Exit → Act → World → Prop} (d s : Operand) (dT sT elem : TypeId) (g o1 o2 dl dc sl sc n : Nat) {q : IntKind} {t : TypeId} {l : List Int}
    (h : Arr w g q t l) (hu : P.underlying dT = some (.slice elem)) (hi : (P.info? elem).map (·.size) = some 1) (hn : n = Nat.min sl dl) (h1 : o1 + n ≤ l.length) (h2 : o2 + n ≤ l.length)
    (hgd : o.guard = none) (ho : o.op = .call { callee := .builtin .copy, args := #[d, s], argTypes := #[dT, sT] }) (hd : a.eval d = .slice (some ⟨g, o1, none⟩) dl dc) (hs : a.eval s = .slice (some ⟨g, o2, none⟩) sl sc)
    (hk : ∀ w', Arr w' g q t (l.take o1 ++ (l.drop o2).take n ++ l.drop (o1 + n)) → (∀ w0 B, B ≤ g → Below B w0 w → Below B w0 w') → wpList P ops Q rest (a.put o.dst (.int .i64 n)) w') : wpList P ops Q (o :: rest) a w := by
  have hc : ((l.drop o2).take n).length = n := by simp; omega
  have hrun := run_copy_row (P := P) w dT sT o.type elem g o1 dl dc ⟨g, o2, none⟩ sl sc (l.map fun n => Value.int q n).toArray t (((l.drop o2).take n).map fun n => Value.int q n) hu hi h (by simp [hc, ← hn]; omega)
    (fun j v hj => by
      simp only [List.getElem?_map, Option.map_eq_some_iff] at hj
      obtain ⟨x, hx, rfl⟩ := hj
      obtain ⟨hj, rfl⟩ := List.getElem?_eq_some_iff.1 hx
      have hjn : j < n := by omega
      have ha : (⟨g, o2, none⟩ : Addr).add j = ⟨g, o2 + j, none⟩ := by unfold Addr.add; split <;> simp_all
      rw [ha, h.cell (o2 + j) (by omega)]
      simp)
    (by simp [hc]; omega) (fun v hv => by simp only [List.mem_map] at hv; obtain ⟨x, _, rfl⟩ := hv; rfl)
  refine wpList_plain hgd fun K hK => ?_
  unfold Oper.wp execOp
  simp only [ho, resolve, invoke, builtin, Sem.run_bind, Sem.run_pure, Result.andThen_ok, List.map_toArray, List.map_cons, List.map_nil, hd, hs, hrun]
  have e : ((l.map fun n => Value.int q n).toArray.toList.take o1 ++ ((l.drop o2).take n).map (fun n => Value.int q n) ++ (l.map fun n => Value.int q n).toArray.toList.drop (o1 + (((l.drop o2).take n).map fun n => Value.int q n).length)).toArray = ((l.take o1 ++ (l.drop o2).take n ++ l.drop (o1 + n)).map fun n => Value.int q n).toArray := by
    have hm : min n (l.length - o2) = n := by omega
    simp [hm, List.map_take, List.map_drop]
  rw [e]
  have e2 : goInt (((l.drop o2).take n).map fun n => Value.int q n).length = .int .i64 n := by simp only [List.length_map, hc, goInt]
  rw [e2]
  exact hK _ _ (hk _ (h.setRow _) (fun w0 B hB hb => hb.trans ⟨rfl, rfl, rfl, by rw [setRow_size]; exact Nat.le_refl _, fun k hk => setRow_other _ _ _ _ (by omega)⟩))

/-- The words k(0) to k(63). -/
def roundK : List Int := [1116352408, 1899447441, 3049323471, 3921009573, 961987163, 1508970993, 2453635748, 2870763221, 3624381080, 310598401, 607225278, 1426881987, 1925078388, 2162078206, 2614888103, 3248222580, 3835390401, 4022224774, 264347078, 604807628, 770255983, 1249150122, 1555081692, 1996064986, 2554220882, 2821834349, 2952996808, 3210313671, 3336571891, 3584528711, 113926993, 338241895, 666307205, 773529912, 1294757372, 1396182291, 1695183700, 1986661051, 2177026350, 2456956037, 2730485921, 2820302411, 3259730800, 3345764771, 3516065817, 3600352804, 4094571909, 275423344, 430227734, 506948616, 659060556, 883997877, 958139571, 1322822218, 1537002063, 1747873779, 1955562222, 2024104815, 2227730452, 2361852424, 2428436474, 2756734187, 3204031479, 3329325298]
def Rd (w : World) : Prop := ∃ (t : TypeId) (f : Nat × Nat), w.heap[0]? = some (.cells (roundK.map fun n => Value.int .u32 n).toArray t f)
theorem Rd.lt {w : World} (h : Rd w) : 0 < w.heap.size := by
  obtain ⟨t, f, h⟩ := h
  exact (Array.getElem?_eq_some_iff.1 h).1
theorem Rd.of_block {w w' : World} (h : Rd w) (e : w'.heap[0]? = w.heap[0]?) : Rd w' := by
  obtain ⟨t, f, h⟩ := h
  exact ⟨t, f, e.trans h⟩
theorem Rd.below {w w' : World} (h : Rd w) (hb : Below w.heap.size w w') : Rd w' := h.of_block (hb.block 0 h.lt)

def tS (e f g h kw ww : Int) : Int := h + mix e [6, 11, 25] + bits .xor .u32 (bits .and .u32 e f) (bits .and .u32 (bits .xor .u32 IntKind.u32.max e) g) + kw + ww
def uS (a b c : Int) : Int := mix a [2, 13, 22] + bits .xor .u32 (bits .xor .u32 (bits .and .u32 a b) (bits .and .u32 a c)) (bits .and .u32 b c)
/-- A round: the words a to h, k and w. -/
def roundW (v : List Int) (kw ww : Int) : List Int :=
  [(tS (v.getD 4 0) (v.getD 5 0) (v.getD 6 0) (v.getD 7 0) kw ww + uS (v.getD 0 0) (v.getD 1 0) (v.getD 2 0)) % 4294967296, v.getD 0 0, v.getD 1 0, v.getD 2 0,
    (v.getD 3 0 + tS (v.getD 4 0) (v.getD 5 0) (v.getD 6 0) (v.getD 7 0) kw ww) % 4294967296, v.getD 4 0, v.getD 5 0, v.getD 6 0]
def rounds (h ws : List Int) : Nat → List Int
  | 0 => h
  | k + 1 => roundW (rounds h ws k) (roundK.getD k 0) (ws.getD k 0)
def addM (a b : Int) : Int := (a + b) % 4294967296
/-- A block is added to the words. -/
def addW (h : List Int) (b : List Int) : List Int := List.zipWith addM h (rounds h (sched b 48) 64)
theorem getD_zip (h v : List Int) (k : Nat) (hk : k < h.length) (hv : k < v.length) : ((List.zipWith addM h v).take k ++ h.drop k).getD k 0 = h.getD k 0 := by
  have hl : ((List.zipWith addM h v).take k).length = k := by simp; omega
  rw [List.getD_eq_getElem?_getD, List.getElem?_append_right (by omega), hl]
  simp [List.getD_eq_getElem?_getD]
theorem zip_step (h v : List Int) (k : Nat) (hk : k < h.length) (hv : k < v.length) :
    ((List.zipWith addM h v).take k ++ h.drop k).set k (addM (h.getD k 0) (v.getD k 0)) = (List.zipWith addM h v).take (k + 1) ++ h.drop (k + 1) := by
  have hl : ((List.zipWith addM h v).take k).length = k := by simp; omega
  rw [List.set_append_right _ _ (by omega), hl, Nat.sub_self, List.drop_eq_getElem_cons hk, List.set_cons_zero, List.take_succ_eq_append_getElem (by simp; omega)]
  simp [List.getElem?_eq_getElem hk, List.getElem?_eq_getElem hv]
theorem eight {l : List Int} (h : l.length = 8) : ∃ a b c d e f g i, l = [a, b, c, d, e, f, g, i] := by
  match l, h with
  | [a, b, c, d, e, f, g, i], _ => exact ⟨a, b, c, d, e, f, g, i, rfl⟩
set_option maxRecDepth 100000 in
set_option maxHeartbeats 4000000 in
theorem add_calls (gh : Nat) (hw : List Int) (v : Value) (b : List Int) (w : World) (hh : Arr w gh .u32 168 hw) (hh8 : hw.length = 8) (hv : Ints w v .u8 b) (hb : b.length = 64) (hby : Bytes b) (hR : Rd w) :
    Calls Tryd.prog 120 #[.pointer (some ⟨gh, 0, none⟩), v] w fun e w' => e = .returned (.tuple #[]) ∧ Arr w' gh .u32 168 (addW hw b) ∧ BelowBut gh w w' := by
  have HV := Lib.hid hv
  have HH := Lib.hid hh
  have HR := Lib.hid hR
  have H8 := Lib.hid hh8
  have hc := schedule_calls v b w hv hb hby
  clear hv hh hR hh8 hb hby
  have hwl := sched_length b 48
  obtain ⟨ws, hws⟩ : ∃ ws, ws = sched b 48 := ⟨_, rfl⟩
  rw [← hws] at hc hwl
  have HWS := Lib.hid hws
  clear hws
  have HWL := Lib.hid hwl
  clear hwl
  go_enter Tryd.func120, Tryd.ntmps120
  go_wp2_with fail
  refine hc.mono ?_
  clear hc
  rintro e w1 ⟨rfl, hb1⟩
  have hA4 := Arr.new w1 .u32 176 (List.replicate 64 0)
  have I176 : (Tryd.prog.info? 176).map (·.size) = some 64 := by kernel_rfl
  have I168 : (Tryd.prog.info? 168).map (·.size) = some 8 := by kernel_rfl
  have J176 := Lib.hid I176
  have J168 := Lib.hid I168
  clear I176 I168
  go_wp2_with (first
    | (refine wpList_store_arr 176 (.tmp 4) (.tmp 14) w1.heap.size (l' := ws) hA4 HWL.out.symm (by rw [HWL.out]; exact J176.out) rfl rfl rfl rfl ?_
       intro w2 hA2 hB2 hS2; clear hS2
       have hb2 := hB2 w hb1.size (below_alloc hb1 _)
       have hh2 := HH.out.below hb2
       have hR2 := HR.out.below hb2)
    | (refine wpList_load_arr 168 (.tmp 16) gh 8 105 hh2 Tryd.underlying168 (by rw [H8.out]; exact J168.out) rfl rfl rfl ?_)
    | (refine wpList_store_arr 168 (.tmp 5) (.tmp 17) w2.heap.size (l' := hw) (Arr.new w2 .u32 168 (List.replicate 8 0)) H8.out.symm (by rw [H8.out]; exact J168.out) rfl rfl rfl rfl ?_
       intro w3 hA3 hB3 hS3; clear hS3
       have hb3 := hB3 w hb2.size (below_alloc hb2 _)
       have hb23 := hB3 w2 (Nat.le_refl _) (below_one w2 _)
       have hR3 := HR.out.below hb3; obtain ⟨tR, fR, hRR⟩ := hR3)
    | (refine wpList_load_row rfl 176 (.global 0) rfl 0 rfl tR _ fR _ hRR Tryd.underlying176 rfl (J176.out.trans (by simp [roundK])) ?_))
  have hA24 : Arr w3 w1.heap.size .u32 176 ws := (hA2.below hb23)
  have q1 : w.heap.size ≤ w1.heap.size := hb1.size
  have q2 : w1.heap.size < w2.heap.size := hA2.lt
  have q3 : w2.heap.size < w3.heap.size := hA3.lt
  have HB3 := Lib.hid hb3
  clear hb1 hb2 hh2 hR2 hRR hB2 hB3 hA4 hb23 hb3
  generalize hB5e : w2.heap.size = B5 at *
  clear hB5e
  generalize w1.heap.size = B4 at *
  go_loopw [6, 7, 8, 9, 10, 11, 19] (fun _ _ _ _ _ _ s19 wr => ∃ (k : Nat) (v0 v1 v2 v3 v4 v5 v6 v7 : Int), k ≤ 64 ∧ s19 = .int .i64 k ∧ Aside ([v0, v1, v2, v3, v4, v5, v6, v7] = rounds hw ws k) ∧ Aside (Arr wr B5 .u32 168 [v0, v1, v2, v3, v4, v5, v6, v7]) ∧ Aside (Below B5 w3 wr)) (fun _ _ _ _ _ _ s19 _ => 64 - (intOf s19).toNat)
  case atStart =>
    obtain ⟨v0, v1, v2, v3, v4, v5, v6, v7, e⟩ := eight H8.out
    exact ⟨0, v0, v1, v2, v3, v4, v5, v6, v7, by omega, rfl, e.symm, by rw [← e]; exact hA3, Below.refl _ _⟩
  case round =>
    obtain ⟨k, v0, v1, v2, v3, v4, v5, v6, v7, hk, rfl, hv, hA, hB⟩ := hrel
    clear hA3
    by_cases hlt : k < 64
    · have hA4 : Aside (Arr wr B4 .u32 176 ws) := (hB.out.block B4 q2).trans hA24
      have c0 : wr.cell? ⟨B5, 0, none⟩ = some (.int .u32 v0) := hA.out.cell 0 (by simp)
      have c4 : wr.cell? ⟨B5, 4, none⟩ = some (.int .u32 v4) := hA.out.cell 4 (by simp)
      have hidx : ∀ W, Sem.run Tryd.prog (Instr.index 176 (.agg (List.map (fun n => Value.int .u32 n) roundK).toArray) (.int .i64 k)) W = .ok (.int .u32 (roundK.getD k 0)) W := fun W => run_index_nums 176 .u32 roundK k 64 105 Tryd.underlying176 Tryd.underlying105 (by kernel_rfl) W rfl hlt
      obtain ⟨kk, hkk⟩ : ∃ x, x = roundK.getD k 0 := ⟨_, rfl⟩
      rw [← hkk] at hidx
      have HKK := Lib.hid hkk
      clear hkk
      go_wp2_with fail
      go_quiet (fail)
      go_wp2_with fail
      clear c0 c4 hidx
      have hA1 : Aside (Arr (wr.drewN nq) B5 .u32 168 [v0, v1, v2, v3, v4, v5, v6, v7]) := hA
      have hA41 : Aside (Arr (wr.drewN nq) B4 .u32 176 ws) := hA4
      have hB1 : Aside (Below B5 w3 (wr.drewN nq)) := ⟨hB.out.os, hB.out.tape, hB.out.output, hB.out.size, hB.out.block⟩
      clear hA hA4 hB
      generalize wr.drewN nq = W1 at *
      have c5 : W1.cell? ⟨B5, 5, none⟩ = some (.int .u32 v5) := hA1.out.cell 5 (by simp)
      have c6 : W1.cell? ⟨B5, 6, none⟩ = some (.int .u32 v6) := hA1.out.cell 6 (by simp)
      have c7 : W1.cell? ⟨B5, 7, none⟩ = some (.int .u32 v7) := hA1.out.cell 7 (by simp)
      have cw : W1.cell? ⟨B4, k, none⟩ = some (.int .u32 (ws.getD k 0)) := hA41.out.cellD k (by rw [HWL.out]; omega)
      have h5 : B5 < W1.heap.size := hA1.out.lt
      have h4 : B4 < W1.heap.size := hA41.out.lt
      obtain ⟨wk, hwk⟩ : ∃ x, x = ws.getD k 0 := ⟨_, rfl⟩
      rw [← hwk] at cw
      have HWK := Lib.hid hwk
      clear hwk
      have k64 : (k : Int) < 64 := by omega
      go_region_held3 (fun w' => w'.cell? ⟨B5, 5, none⟩ = some (.int .u32 v5) ∧ w'.cell? ⟨B5, 6, none⟩ = some (.int .u32 v6) ∧ w'.cell? ⟨B5, 7, none⟩ = some (.int .u32 v7) ∧ w'.cell? ⟨B4, k, none⟩ = some (.int .u32 wk)) (first | go_keep)
        (first | (go_at_call 125; ((with_reducible refine (mixed_lits v4 _ [6, 11, 25] _ (by decide) ?_).mono ?_)); (repeat (first | exact Ints.lit' _ _ .i64 3 [6, 11, 25] (by simp) (by decide) | refine Ints.drew ?_ | refine Ints.alloc ?_ _)); rintro e w' ⟨rfl, rfl⟩))
      go_wp2_with fail
      have hA2 : Aside (Arr (W1.alloc (Obj.cells #[Value.int .i64 6, Value.int .i64 11, Value.int .i64 25] 3)).drew B5 .u32 168 [v0, v1, v2, v3, v4, v5, v6, v7]) := hA1.out.alloc _
      have hB2 : Aside (Below B5 w3 (W1.alloc (Obj.cells #[Value.int .i64 6, Value.int .i64 11, Value.int .i64 25] 3)).drew) := (hB1.out.alloc (by omega) _).drew
      clear hA1 hB1 c5 c6 c7 cw h5 h4 hA41
      generalize (W1.alloc (Obj.cells #[Value.int .i64 6, Value.int .i64 11, Value.int .i64 25] 3)).drew = W2 at *
      have c1 : W2.cell? ⟨B5, 1, none⟩ = some (.int .u32 v1) := hA2.out.cell 1 (by simp)
      have c2 : W2.cell? ⟨B5, 2, none⟩ = some (.int .u32 v2) := hA2.out.cell 2 (by simp)
      have h5 : B5 < W2.heap.size := hA2.out.lt
      go_region_held3 (fun w' => w'.cell? ⟨B5, 1, none⟩ = some (.int .u32 v1) ∧ w'.cell? ⟨B5, 2, none⟩ = some (.int .u32 v2)) (first | go_keep)
        (first | (go_at_call 125; ((with_reducible refine (mixed_lits v0 _ [2, 13, 22] _ (by decide) ?_).mono ?_)); (repeat (first | exact Ints.lit' _ _ .i64 3 [2, 13, 22] (by simp) (by decide) | refine Ints.drew ?_ | refine Ints.alloc ?_ _)); rintro e w' ⟨rfl, rfl⟩))
      go_wp2_with fail
      have hA3 : Aside (Arr (W2.alloc (Obj.cells #[Value.int .i64 2, Value.int .i64 13, Value.int .i64 22] 3)).drew B5 .u32 168 [v0, v1, v2, v3, v4, v5, v6, v7]) := hA2.out.alloc _
      have hB3 : Aside (Below B5 w3 (W2.alloc (Obj.cells #[Value.int .i64 2, Value.int .i64 13, Value.int .i64 22] 3)).drew) := (hB2.out.alloc (by omega) _).drew
      clear hA2 hB2 c1 c2 h5
      generalize (W2.alloc (Obj.cells #[Value.int .i64 2, Value.int .i64 13, Value.int .i64 22] 3)).drew = W3 at *
      go_still_tail 2, (by kernel_rfl)
      change wpList _ _ _ _ _ W3.drew
      refine wpList_copy_arr (.tmp 69) (.tmp 70) 106 106 105 B5 1 0 7 7 7 8 7 hA3.out Tryd.underlying106 (by kernel_rfl) rfl (by simp) (by simp) rfl rfl rfl rfl ?_
      intro W4 hA4 hB4
      have hA5 : Aside (Arr W4 B5 .u32 168 [v0, v0, v1, v2, v3, v4, v5, v6]) := hA4
      have hB5 : Aside (Below B5 w3 W4) := hB4 w3 B5 (Nat.le_refl _) hB3.out.drew
      clear hA4 hB4 hA3 hB3
      have c0 : W4.cell? ⟨B5, 0, none⟩ = some (.int .u32 v0) := hA5.out.cell 0 (by simp)
      have c4 : W4.cell? ⟨B5, 4, none⟩ = some (.int .u32 v3) := hA5.out.cell 4 (by simp)
      have z0 : W4.frozen? ⟨B5, 0, none⟩ = false := hA5.out.frozen 0
      have z4 : W4.frozen? ⟨B5, 4, none⟩ = false := hA5.out.frozen 4
      go_wp2
      clear c0 c4 z0 z4
      go_roundw
      case measure => simp [intOf]; omega
      case rel =>
        refine ⟨k + 1, _, v0, v1, v2, _, v4, v5, v6, by omega, by go_num, ?_, (hA5.out.set 0 _).set 4 _, (hB5.out.setCell (p := ⟨B5, 0, none⟩) (Nat.le_refl _) _).setCell (p := ⟨B5, 4, none⟩) (Nat.le_refl _) _⟩
        show _ = roundW (rounds hw ws k) (roundK.getD k 0) (ws.getD k 0)
        rw [← hv.out, ← HKK.out, ← HWK.out]
        rfl
    · go_wp2
      generalize (k : Int) = z19
      obtain rfl : k = 64 := by omega
      clear hk hlt
      have hgh : gh < w.heap.size := HH.out.lt
      have hW : BelowBut gh w wr := ⟨hB.out.os.trans HB3.out.os, hB.out.tape.trans HB3.out.tape, hB.out.output.trans HB3.out.output, Nat.le_trans HB3.out.size hB.out.size, fun i hi _ => (hB.out.block i (by omega)).trans (HB3.out.block i hi)⟩
      have HW := Lib.hid hW
      have hAh : Aside (Arr wr gh .u32 168 hw) := (hB.out.block gh (by omega)).trans (HH.out.below HB3.out)
      clear hW hB hA24
      obtain ⟨vs, hvs⟩ : ∃ vs, vs = [v0, v1, v2, v3, v4, v5, v6, v7] := ⟨_, rfl⟩
      rw [← hvs] at hv hA
      have hvl : Aside (vs.length = 8) := by rw [hvs]; rfl
      clear hvs
      obtain ⟨wo, rfl⟩ : ∃ wo : World, wo = wr := ⟨_, rfl⟩
      go_loopw [12, 82] (fun _ s82 wr => ∃ k : Nat, k ≤ 8 ∧ s82 = .int .i64 k ∧ Aside (Arr wr gh .u32 168 ((List.zipWith addM hw vs).take k ++ hw.drop k)) ∧ Aside (Arr wr B5 .u32 168 vs) ∧ Aside (BelowBut gh w wr)) (fun _ s82 _ => 8 - (intOf s82).toNat)
      case atStart => exact ⟨0, by omega, rfl, by simpa using hAh, hA, HW.out⟩
      case round =>
        clear hAh hA HW
        obtain ⟨k, hk, rfl, hAh, hA, hW⟩ := hrel
        by_cases hlt : k < 8
        · have h8 := H8.out
          have v8 := hvl.out
          have c0 := hAh.out.cellD k (by simp; omega)
          have z0 := hAh.out.frozen k
          have c1 := hA.out.cellD k (by omega)
          have HS := Lib.hid (zip_step hw vs k (by omega) (by omega))
          rw [getD_zip hw vs k (by omega) (by omega)] at c0
          clear h8 v8
          generalize hw.getD k 0 = x at c0 HS
          generalize vs.getD k 0 = y at c1 HS
          have k8 : (k : Int) < 8 := by omega
          go_wp2_with fail
          go_still_tail 11, (by kernel_rfl)
          go_wp2
          clear c0 z0 c1
          go_roundw
          case measure => simp [intOf]; omega
          case rel =>
            refine ⟨k + 1, by omega, by go_num, ?_, hA.out.other (by simp; omega) _, (hW.out.set k _).drew⟩
            rw [← HS.out]
            exact hAh.out.set k _
        · obtain rfl : k = 8 := by omega
          go_wp2
          go_end0
          refine ⟨rfl, ?_, hW.out⟩
          have := hAh.out
          have hz : List.take 8 (List.zipWith addM hw vs) ++ List.drop 8 hw = addW hw b := by
            have h8 := H8.out
            have v8 := hvl.out
            rw [List.take_of_length_le (by simp; omega), List.drop_of_length_le (by omega), List.append_nil, hv.out, HWS.out]
            rfl
          rw [hz] at this
          exact this

end Go.Proofs.YthohfbeelepkmaaDoor

/- digest: the words as a string of 32 bytes. -/
namespace Go.Proofs.YthohfbeelepkmaaDoor
open Go.RowKit Go.Shelf

/-- The first n bytes of the digest. -/
def outB (h : List Int) (n : Nat) : List Int := (List.range n).map fun m => h.getD (m / 4) 0 / 2 ^ (24 - 8 * (m % 4)) % 256
theorem outB_succ (h : List Int) (i j : Nat) (hj : j < 4) : outB h (4 * i + j + 1) = outB h (4 * i + j) ++ [h.getD i 0 / 2 ^ (24 - 8 * j) % 256] := by
  simp only [outB, List.range_succ, List.map_append, List.map_cons, List.map_nil]
  rw [show (4 * i + j) / 4 = i by omega, show (4 * i + j) % 4 = j by omega]

set_option maxRecDepth 100000 in
set_option maxHeartbeats 2000000 in
theorem digest_calls (h : List Int) (w : World) (h8 : h.length = 8) :
    Calls Tryd.prog 121 #[.agg (h.map fun n => Value.int .u32 n).toArray] w fun e w' => e = .returned (.string (strOfNums (outB h 32))) ∧ Below w.heap.size w w' := by
  have H8 := Lib.hid h8
  clear h8
  have I168 : (Tryd.prog.info? 168).map (·.size) = some 8 := by kernel_rfl
  have J168 := Lib.hid I168
  clear I168
  go_enter Tryd.func121, Tryd.ntmps121
  go_wp2_with (refine wpList_load_arr 168 (.tmp 1) w.heap.size 8 105 ((Arr.new w .u32 168 h).alloc _) Tryd.underlying168 (by rw [H8.out]; exact J168.out) rfl rfl rfl ?_)
  have hA : Arr ((w.alloc (.cells (h.map fun n => Value.int .u32 n).toArray 168)).alloc (.cells ((List.replicate 32 0).map fun n => Value.int .u8 n).toArray 179)) (w.heap.size + 1) .u8 179 (List.replicate 32 0) := by
    have := Arr.new (w.alloc (.cells (h.map fun n => Value.int .u32 n).toArray 168)) .u8 179 (List.replicate 32 0)
    rwa [World.size_alloc] at this
  go_loopw [4, 5, 6, 8, 12] (fun _ _ _ s8 _ wr => ∃ i : Nat, i ≤ 8 ∧ s8 = .int .i64 i ∧ Aside (Arr wr (w.heap.size + 1) .u8 179 (outB h (4 * i) ++ List.replicate (32 - 4 * i) 0)) ∧ Aside (Below w.heap.size w wr)) (fun _ _ _ s8 _ _ => 8 - (intOf s8).toNat)
  case atStart => exact ⟨0, by omega, rfl, hA, below_alloc (below_one w _) _⟩
  case round =>
    clear hA
    obtain ⟨i, hi, rfl, hA, hB⟩ := hrel
    by_cases hlt : i < 8
    · have hidx : ∀ W, Sem.run Tryd.prog (Instr.index 168 (.agg (List.map (fun n => Value.int .u32 n) h).toArray) (.int .i64 i)) W = .ok (.int .u32 (h.getD i 0)) W := fun W => run_index_nums 168 .u32 h i 8 105 Tryd.underlying168 Tryd.underlying105 (by kernel_rfl) W H8.out hlt
      obtain ⟨x, hx⟩ : ∃ x, x = h.getD i 0 := ⟨_, rfl⟩
      rw [← hx] at hidx
      have HX := Lib.hid hx
      clear hx
      go_wp2
      obtain ⟨wo, rfl⟩ : ∃ wo : World, wo = wr := ⟨_, rfl⟩
      go_loopw [6, 12] (fun _ s12 wr => ∃ j : Nat, j ≤ 4 ∧ s12 = .int .i64 j ∧ Aside (Arr wr (w.heap.size + 1) .u8 179 (outB h (4 * i + j) ++ List.replicate (32 - (4 * i + j)) 0)) ∧ Aside (Below w.heap.size w wr)) (fun _ s12 _ => 4 - (intOf s12).toNat)
      case atStart => exact ⟨0, by omega, rfl, hA, hB⟩
      case round =>
        clear hA hB
        obtain ⟨j, hj, rfl, hA, hB⟩ := hrel
        by_cases hjt : j < 4
        · have c0 := hA.out.cellD (4 * i + j) (by simp [outB]; omega)
          have z0 := hA.out.frozen (4 * i + j)
          generalize (outB h (4 * i + j) ++ List.replicate (32 - (4 * i + j)) 0).getD (4 * i + j) 0 = old at c0
          have t1 : (4 * (i : Int) + (j : Int)).toNat = 4 * i + j := by omega
          have t2 : (24 - 8 * (j : Int)).toNat = 24 - 8 * j := by omega
          have l1 : 4 * (i : Int) + (j : Int) < 32 := by omega
          have hB' := Lib.hid (outB_succ h i j hjt)
          rw [← HX.out] at hB'
          go_wp2
          clear c0 z0 t1 t2
          go_roundw
          case measure => simp [intOf]; omega
          case rel =>
            refine ⟨j + 1, by omega, by go_num, ?_, hB.out.setCell (p := ⟨w.heap.size + 1, 4 * i + j, none⟩) (by simp) _⟩
            have := hA.out.set (4 * i + j) (x / 2 ^ (24 - 8 * j) % 256)
            rw [snoc_set _ _ _ _ (by simp [outB]) (by omega), ← hB'.out] at this
            exact this
        · obtain rfl : j = 4 := by omega
          go_wp2
          go_roundw
          case measure => simp [intOf]; omega
          case rel => exact ⟨i + 1, by omega, by go_num, by rw [show 4 * (i + 1) = 4 * i + 4 by omega]; exact hA, hB⟩
    · obtain rfl : i = 8 := by omega
      have hstr := Ints.toString (P := Tryd.prog) (Ints.of_cells (w := wr) (q := .u8) (b := w.heap.size + 1) (off := 0) (n := 32) (cap := 32) (l := outB h 32) (by simp [outB]) (by omega) (by omega) hA.out.lt (fun j hj => by rw [Nat.zero_add]; exact hA.out.cell j (by simpa using hj))) (by simp [outB]) 66 5 9 Tryd.underlying66 Tryd.underlying5 Tryd.underlying9
      go_wp2
      go_ret
      exact ⟨rfl, hB.out⟩

end Go.Proofs.YthohfbeelepkmaaDoor
