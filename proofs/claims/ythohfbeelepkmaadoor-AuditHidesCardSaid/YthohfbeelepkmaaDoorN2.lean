/- What AuditHides says of the ledgers, without the program. -/
import Derived.Test.YthohfbeelepkmaaDoorM3
namespace Go.Proofs.YthohfbeelepkmaaDoor
open Go.RowKit Go.Shelf

/-- A charge of the silent ledger: a text of one byte for another's charge, where there is a number for it. -/
def silC (m : Int) (ts : List Int) (i : Nat) (c : Ch) : Ch := if c.cu = m then c else if i < ts.length then { c with tx := strOfNums [pickI (ts.getD i 0) 256] } else c
def silL (m : Int) (ts : List Int) : Nat → List Ch → List Ch
  | _, [] => []
  | i, c :: l => silC m ts i c :: silL m ts (i + 1) l
def othL (m : Int) (l : List Ch) : List Ch := l.filter fun c => c.cu != m
theorem silL_snoc (m : Int) (ts : List Int) (c : Ch) : ∀ (l : List Ch) (i : Nat), silL m ts i (l ++ [c]) = silL m ts i l ++ [silC m ts (i + l.length) c]
  | [], i => by simp [silL]
  | d :: l, i => by
    simp only [List.cons_append, silL, silL_snoc m ts c l (i + 1), List.length_cons]
    rw [show i + 1 + l.length = i + (l.length + 1) by omega]
theorem silL_length (m : Int) (ts : List Int) : ∀ (l : List Ch) (i : Nat), (silL m ts i l).length = l.length
  | [], _ => rfl
  | c :: l, i => by simp [silL, silL_length m ts l (i + 1)]
theorem silC_same (m : Int) (ts : List Int) (i : Nat) (c : Ch) : (silC m ts i c).cu = c.cu ∧ (silC m ts i c).pa = c.pa ∧ (silC m ts i c).pe = c.pe ∧ (silC m ts i c).am = c.am := by
  unfold silC
  split
  · exact ⟨rfl, rfl, rfl, rfl⟩
  · split <;> exact ⟨rfl, rfl, rfl, rfl⟩
theorem silC_ok (m : Int) (ts : List Int) (i : Nat) {c : Ch} (h : c.ok = true) : (silC m ts i c).ok = true := by
  unfold silC
  split
  · exact h
  · split
    · have := Ch.ok_facts h
      simp only [Ch.ok, isChargeB, within, Bool.and_eq_true, decide_eq_true_eq, bne_iff_ne, ne_eq]
      have hs : (strOfNums [pickI (ts.getD i 0) 256]).size = 1 := by simp [strOfNums, ByteArray.size]
      rw [hs]
      omega
    · exact h
theorem silL_ok (m : Int) (ts : List Int) : ∀ (l : List Ch) (i : Nat), l.all Ch.ok = true → (silL m ts i l).all Ch.ok = true
  | [], _, _ => rfl
  | c :: l, i, h => by
    simp only [List.all_cons, Bool.and_eq_true] at h
    simp only [silL, List.all_cons, Bool.and_eq_true]
    exact ⟨silC_ok m ts i h.1, silL_ok m ts l (i + 1) h.2⟩
theorem ofL_sil_own (m : Int) (ts : List Int) : ∀ (l : List Ch) (i : Nat), ofL (silL m ts i l) m = ofL l m
  | [], _ => rfl
  | c :: l, i => by
    have ih := ofL_sil_own m ts l (i + 1)
    unfold ofL at ih ⊢
    simp only [silL]
    by_cases h : c.cu = m
    · have e : silC m ts i c = c := by simp [silC, h]
      rw [e, List.filter_cons, List.filter_cons, ih]
    · have h1 : ((silC m ts i c).cu == m) = false := by rw [(silC_same m ts i c).1]; simpa using h
      have h2 : (c.cu == m) = false := by simpa using h
      rw [List.filter_cons, List.filter_cons, h1, h2, ih]; rfl
/-- Rows of charges that tell the same sums. -/
inductive SimL : List Ch → List Ch → Prop
  | nil : SimL [] []
  | cons {c d : Ch} {l m : List Ch} : c.cu = d.cu → c.pa = d.pa → c.pe = d.pe → c.am = d.am → SimL l m → SimL (c :: l) (d :: m)
theorem SimL.fold {l m : List Ch} (h : SimL l m) : ∀ s : List Int, l.foldl addC s = m.foldl addC s := by
  induction h with
  | nil => intro s; rfl
  | cons _ h1 h2 h3 _ ih =>
    intro s
    simp only [List.foldl_cons, addC, h1, h2, h3]
    exact ih _
theorem SimL.sums {l m : List Ch} (h : SimL l m) : sumsL l = sumsL m := h.fold _
theorem SimL.filter {l m : List Ch} (h : SimL l m) (k : Int) : SimL (ofL l k) (ofL m k) := by
  unfold ofL
  induction h with
  | nil => exact .nil
  | @cons c d l m h0 h1 h2 h3 _ ih =>
    rw [List.filter_cons, List.filter_cons, h0]
    split
    · exact .cons h0 h1 h2 h3 ih
    · exact ih
theorem SimL.sil (m : Int) (ts : List Int) : ∀ (l : List Ch) (i : Nat), SimL l (silL m ts i l)
  | [], _ => .nil
  | c :: l, i => by
    have := silC_same m ts i c
    exact .cons this.1.symm this.2.1.symm this.2.2.1.symm this.2.2.2.symm (SimL.sil m ts l (i + 1))
theorem nodeT_sim (key : ByteArray) {l m : List Ch} (h : SimL l m) : ∀ k j, (nodeT key l k j).1 = (nodeT key m k j).1
  | 0, j => (h.filter j).sums
  | k + 1, j => by simp only [nodeT, joinT, nodeT_sim key h k]
theorem nodeT_of (key : ByteArray) {l m : List Ch} (h : ∀ j : Nat, ofL l j = ofL m j) : ∀ k j, nodeT key l k j = nodeT key m k j
  | 0, j => by simp only [nodeT, h]
  | k + 1, j => by simp only [nodeT, nodeT_of key h k]
theorem pathL_of (key : ByteArray) {l m : List Ch} (h : ∀ j : Nat, ofL l j = ofL m j) (cu n : Nat) : pathL key l cu n = pathL key m cu n := by
  unfold pathL
  simp only [nodeT_of key h]
theorem pathL_sim (key : ByteArray) {l m : List Ch} (h : SimL l m) (cu n j : Nat) (hj : j < n) : ((pathL key l cu n).getD j ([], ⟨#[]⟩)).1 = ((pathL key m cu n).getD j ([], ⟨#[]⟩)).1 := by
  rw [pathL_getD _ _ _ _ _ hj, pathL_getD _ _ _ _ _ hj]
  exact nodeT_sim key h _ _
theorem ofL_same (l : List Ch) (m : Int) (j : Nat) : ofL (ofL l m ++ othL m l) j = ofL l j := by
  unfold ofL othL
  rw [List.filter_append, List.filter_filter, List.filter_filter]
  by_cases h : (j : Int) = m
  · have e1 : (l.filter fun a => a.cu == (j : Int) && a.cu == m) = l.filter fun c => c.cu == (j : Int) := by
      apply List.filter_congr; intro c _; rw [h]; simp
    have e2 : (l.filter fun a => a.cu == (j : Int) && a.cu != m) = [] := by
      rw [List.filter_eq_nil_iff]; intro c _; rw [h]; simp
    rw [e1, e2, List.append_nil]
  · have e1 : (l.filter fun a => a.cu == (j : Int) && a.cu == m) = [] := by
      rw [List.filter_eq_nil_iff]; intro c _ hc
      simp only [Bool.and_eq_true, beq_iff_eq] at hc
      exact h (hc.1.symm.trans hc.2)
    have e2 : (l.filter fun a => a.cu == (j : Int) && a.cu != m) = l.filter fun c => c.cu == (j : Int) := by
      apply List.filter_congr; intro c _
      by_cases hc : c.cu = (j : Int)
      · simp [hc, h]
      · simp [hc]
    rw [e1, e2, List.nil_append]
theorem ofL_own_oth (l L : List Ch) (m : Int) (hL : ∀ c ∈ L, c.cu ≠ m) : ofL (ofL l m ++ L) m = ofL l m := by
  unfold ofL
  rw [List.filter_append, List.filter_filter]
  have e2 : (L.filter fun c => c.cu == m) = [] := by
    rw [List.filter_eq_nil_iff]; intro c hc; simpa using hL c hc
  rw [e2, List.append_nil]
  apply List.filter_congr; intro c _; simp
theorem ofL_snoc' (l : List Ch) (c : Ch) (m : Int) : ofL (l ++ [c]) m = if c.cu = m then ofL l m ++ [c] else ofL l m := by
  unfold ofL
  rw [List.filter_append]
  by_cases h : c.cu = m <;> simp [h]
theorem othL_snoc (l : List Ch) (c : Ch) (m : Int) : othL m (l ++ [c]) = if c.cu = m then othL m l else othL m l ++ [c] := by
  unfold othL
  rw [List.filter_append]
  by_cases h : c.cu = m <;> simp [h]
theorem okChs_app {a b : List Ch} (ha : a.all Ch.ok = true) (hb : b.all Ch.ok = true) (hl : a.length + b.length ≤ 60) : okChs (a ++ b) = true := by
  simp only [okChs, Bool.and_eq_true, decide_eq_true_eq, List.all_append, List.length_append]
  exact ⟨hl, ha, hb⟩
end Go.Proofs.YthohfbeelepkmaaDoor
