/- audit.Check. -/
import Derived.Test.YthohfbeelepkmaaDoorD4
import Derived.Test.YthohfbeelepkmaaDoorA23
import Derived.ChangeKeysEq
namespace Go.Proofs.YthohfbeelepkmaaDoor
open Go.RowKit Go.Shelf

/-- A list of totals as they are handed out, read. -/
def Pth (W : World) (v : Value) (L : List TT) : Prop := ∃ L' : List (Value × TT), L'.map Prod.snd = L ∧ Sl W v 2 (L'.map fun p => [p.1, .string p.2.2]) ∧ ∀ p ∈ L', Ints W p.1 .i64 p.2.1
theorem Pth.below {W W' : World} {v : Value} {L : List TT} (h : Pth W v L) (hb : Below W.heap.size W W') : Pth W' v L := by
  obtain ⟨L', h1, h2, h3⟩ := h
  exact ⟨L', h1, h2.below hb, fun p hp => (h3 p hp).below hb⟩
theorem Tots.pth {n : Nat} {W : World} {v : Value} {L : List (Value × TT)} (h : Tots n W v L) (h8 : ∀ p ∈ L, p.2.1.length = 8) (hl : L.length ≤ 1000) : Pth W v (L.map Prod.snd) := by
  refine ⟨L, rfl, ownsRow_sl (L := L.map fun p => [p.1, .string p.2.2]) (n := L.length) h.1 (by simp) (by intro x hx; simp only [List.mem_map] at hx; obtain ⟨c, _, rfl⟩ := hx; rfl) (by omega), fun p hp => ?_⟩
  refine ownsRow_sl (B := n) (e := 3) (L := p.2.1.map fun n => [Value.int .i64 n]) (n := 8) ?_ (by simp [h8 p hp]) (by simp) (by omega)
  rw [flat_one]
  exact h.2 p hp

/-- What an account comes to, behind k totals of its path. -/
def walkN (cu : Nat) (t0 : TT) (L : List TT) : Nat → TT
  | 0 => t0
  | k + 1 => if cu / 2 ^ k % 2 = 1 then joinT (L.getD k ([], ⟨#[]⟩)) (walkN cu t0 L k) else joinT (walkN cu t0 L k) (L.getD k ([], ⟨#[]⟩))
def okTT (t : TT) : Bool := okT t.1 t.2
def formedB (cu : Int) (salt : ByteArray) (C : List Ch) (L : List TT) : Bool := within cu 0 63 && okChs C && !(C.any fun c => c.cu != cu) && decide (salt.size = 32) && decide (L.length = 6) && L.all okTT
def checkB (S : List Int) (dS : ByteArray) (cu : Int) (salt : ByteArray) (C : List Ch) (L : List TT) : Bool :=
  formedB cu salt C L && decide (walkN cu.toNat (sumsL C, leafDig salt C) L 6 = (S, dS))

def BndT (k : Nat) (t : TT) : Prop := t.1.length = 8 ∧ (∀ n ∈ t.1, -(60000000000 + 1000000000000 * k : Int) ≤ n ∧ n ≤ 60000000000 + 1000000000000 * k) ∧ t.2.size = 32
theorem okT_facts {t : TT} (h : okTT t = true) : t.1.length = 8 ∧ (∀ n ∈ t.1, -1000000000000 ≤ n ∧ n ≤ 1000000000000) ∧ t.2.size = 32 := by
  simp only [okTT, okT, Bool.and_eq_true, decide_eq_true_eq, Bool.not_eq_true', List.any_eq_false] at h
  refine ⟨h.1.1, fun n hn => ?_, h.1.2⟩
  have := h.2 n hn
  simp only [isLargeB, within, Bool.not_eq_true, Bool.not_eq_false', Bool.and_eq_true, decide_eq_true_eq] at this
  omega
theorem addT_mem {a b : List Int} {n : Int} (h : n ∈ addT a b) : ∃ x ∈ a, ∃ y ∈ b, n = x + y := by
  induction a generalizing b with
  | nil => simp [addT] at h
  | cons x a ih =>
    cases b with
    | nil => simp [addT] at h
    | cons y b =>
      simp only [addT, List.zipWith_cons_cons, List.mem_cons] at h
      rcases h with rfl | h
      · exact ⟨x, by simp, y, by simp, rfl⟩
      · obtain ⟨x', hx, y', hy, e⟩ := ih (b := b) h
        exact ⟨x', by simp [hx], y', by simp [hy], e⟩
theorem BndT.small {k : Nat} {t : TT} (h : BndT k t) (hk : k ≤ 6) : Small t.1 := fun n hn => by
  have := h.2.1 n hn
  omega
theorem walkN_bnd {cu : Nat} {t0 : TT} {L : List TT} (h0 : BndT 0 t0) : ∀ k, (∀ j, j < k → okTT (L.getD j ([], ⟨#[]⟩)) = true) → BndT k (walkN cu t0 L k) := by
  intro k
  induction k with
  | zero => intro _; exact h0
  | succ k ih =>
    intro h
    obtain ⟨a1, a2, a3⟩ := ih fun j hj => h j (by omega)
    obtain ⟨b1, b2, b3⟩ := okT_facts (h k (by omega))
    unfold walkN
    split
    · refine ⟨by show (addT _ _).length = 8; rw [addT, List.length_zipWith, b1, a1]; rfl, fun n hn => ?_, nodeH_size _ _⟩
      obtain ⟨x, hx, y, hy, rfl⟩ := addT_mem hn
      have := b2 x hx; have := a2 y hy
      omega
    · refine ⟨by show (addT _ _).length = 8; rw [addT, List.length_zipWith, b1, a1]; rfl, fun n hn => ?_, nodeH_size _ _⟩
      obtain ⟨x, hx, y, hy, rfl⟩ := addT_mem hn
      have := a2 x hx; have := b2 y hy
      omega

end Go.Proofs.YthohfbeelepkmaaDoor

/- Two totals compared. -/
namespace Go.Proofs.YthohfbeelepkmaaDoor
open Go.RowKit Go.Shelf

theorem cells3 : Tryd.prog.cellsOf 3 = 1 := by kernel_rfl
theorem eqItems_ints (l m : List Int) (he : m.length = l.length) (W : World) : ∀ is : List Nat, (∀ i ∈ is, i < l.length) →
    (Op.eqItems 9998 3 1 (l.map fun n => Value.int .i64 n).toArray (m.map fun n => Value.int .i64 n).toArray is).run Tryd.prog W = .ok (is.all fun i => l.getD i 0 == m.getD i 0) W := by
  intro is
  induction is with
  | nil => intro _; simp [Op.eqItems]
  | cons i is ih =>
    intro h
    have hi := h i (by simp)
    have p1 : (part 3 (l.map fun n => Value.int .i64 n).toArray (i * 1)).run Tryd.prog W = .ok (.int .i64 (l.getD i 0)) W := run_part_plain W (by kernel_rfl) (by simp [hi])
    have p2 : (part 3 (m.map fun n => Value.int .i64 n).toArray (i * 1)).run Tryd.prog W = .ok (.int .i64 (m.getD i 0)) W := run_part_plain W (by kernel_rfl) (by simp [he, hi])
    have p3 : (Op.equalIn 9998 3 (.int .i64 (l.getD i 0)) (.int .i64 (m.getD i 0))).run Tryd.prog W = .ok (l.getD i 0 == m.getD i 0) W := run_equalIn_int W 9997 3 .i64 .i64 _ _ Tryd.underlying3
    simp only [Op.eqItems, Sem.run_bind, p1, p2, p3, Result.andThen_ok, List.all_cons]
    cases l.getD i 0 == m.getD i 0
    · simp
    · simpa using ih fun j hj => h j (by simp [hj])

theorem eq79 (l m : List Int) (h1 : l.length = 8) (h2 : m.length = 8) (W : World) :
    (Op.equalIn 9999 79 (.agg (l.map fun n => Value.int .i64 n).toArray) (.agg (m.map fun n => Value.int .i64 n).toArray)).run Tryd.prog W = .ok (decide (l = m)) W := by
  obtain ⟨i, hi, _⟩ := Option.map_eq_some_iff.1 (show (Tryd.prog.info? 3).map (·.size) = some 1 by kernel_rfl)
  rw [run_equalIn_array W 9998 _ _ Tryd.underlying79 hi, cells3, eqItems_ints l m (by omega) W _ (by intro i hi; rw [List.mem_range] at hi; omega)]
  refine congrArg (fun b => Result.ok b W) ?_
  rw [Bool.eq_iff_iff, List.all_eq_true, decide_eq_true_eq]
  exact Iff.intro (fun h => ext8 h1 h2 fun i hi => by have := h i (List.mem_range.2 hi); rwa [beq_iff_eq] at this) (fun h i _ => by rw [h]; exact beq_self_eq_true _)

theorem fields81 : (Tryd.prog.fieldsOf 81).toList.map (fun f => (f.name, f.type, f.offset)) = [("sums", 79, 0), ("digest", 9, 8)] := by kernel_rfl

theorem part79 (l : List Int) (d : ByteArray) (h : l.length = 8) (W : World) : (part 79 (totC l d).toArray 0).run Tryd.prog W = .ok (.agg (l.map fun n => Value.int .i64 n).toArray) W := by
  obtain ⟨a0, a1, a2, a3, a4, a5, a6, a7, rfl⟩ := len8 h
  obtain ⟨i, hi, hs⟩ := Option.map_eq_some_iff.1 (show (Tryd.prog.info? 79).map (·.size) = some 8 by kernel_rfl)
  simp [part, isAgg, run_underlying Tryd.underlying79, totC, sizeOf, typeInfo, hi, hs, Result.andThen]
theorem part9 (l : List Int) (d : ByteArray) (h : l.length = 8) (W : World) : (part 9 (totC l d).toArray 8).run Tryd.prog W = .ok (.string d) W := 
  run_part_plain W (by kernel_rfl) (by simp [totC, h])

theorem eq81 (l m : List Int) (d e : ByteArray) (h1 : l.length = 8) (h2 : m.length = 8) (W : World) :
    (Op.equalIn 10000 81 (.agg (totC l d).toArray) (.agg (totC m e).toArray)).run Tryd.prog W = .ok (decide (l = m) && (d == e)) W := by
  rw [run_equalIn_agg W 9999 81 _ _ (by kernel_rfl) (by kernel_rfl)]
  have hf := fields81
  generalize (Tryd.prog.fieldsOf 81).toList = fs at *
  obtain ⟨f, g, rfl⟩ : ∃ f g, fs = [f, g] := by
    have hl := congrArg List.length hf
    rw [List.length_map] at hl
    match fs, hl with
    | [f, g], _ => exact ⟨f, g, rfl⟩
  · simp only [List.map_cons, List.map_nil, List.cons.injEq, Prod.mk.injEq, and_true] at hf
    obtain ⟨⟨f1, f2, f3⟩, g1, g2, g3⟩ := hf
    have q1 := part79 l d h1 W
    have q2 := part79 m e h2 W
    have q3 := part9 l d h1 W
    have q4 := part9 m e h2 W
    have q5 := eq79 l m h1 h2 W
    have q6 : (Op.equalIn 9999 9 (.string d) (.string e)).run Tryd.prog W = .ok (d.toList == e.toList) W := run_equalIn_string W 9998 9 d e Tryd.underlying9
    rw [← beq_toListBytes] at q6
    simp only [Op.eqFields, f1, f2, f3, g1, g2, g3, ne_eq, String.reduceEq, not_false_eq_true, if_true, Sem.run_bind, q1, q2, q5, Result.andThen_ok]
    cases decide (l = m)
    · simp
    · cases hde : (d == e) <;> simp [q3, q4, q6, hde, Op.eqFields, Result.andThen]

end Go.Proofs.YthohfbeelepkmaaDoor
