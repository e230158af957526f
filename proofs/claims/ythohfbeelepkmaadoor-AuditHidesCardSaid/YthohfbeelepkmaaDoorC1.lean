/- The tree of totals: its plain law. -/
import Derived.Test.YthohfbeelepkmaaDoorA19
import Derived.Test.YthohfbeelepkmaaDoorA21
import Derived.Test.YthohfbeelepkmaaDoorA6
import Derived.Test.YthohfbeelepkmaaDoorA26
import Derived.Test.YthohfbeelepkmaaDoorA11
import Derived.Deep.AppendLies
namespace Go.Proofs.YthohfbeelepkmaaDoor
open Go.RowKit Go.Shelf

/-- A total of the tree: its sums and its digest. -/
abbrev TT := List Int × ByteArray
def joinT (a b : TT) : TT := (addT a.1 b.1, nodeH (codeB a.1 a.2) (codeB b.1 b.2))
def nodeT (key : ByteArray) (l : List Ch) : Nat → Nat → TT
  | 0, j => (sumsL (ofL l j), leafDig (saltH key j) (ofL l j))
  | k + 1, j => joinT (nodeT key l k (2 * j)) (nodeT key l k (2 * j + 1))
def blockL (l : List Ch) (k j : Nat) : List Ch := l.filter fun c => c.cu / 2 ^ k == (j : Int)

theorem addT_getD {a b : List Int} (h : a.length = b.length) (i : Nat) : (addT a b).getD i 0 = a.getD i 0 + b.getD i 0 := by
  simp only [addT, List.getD_eq_getElem?_getD, List.getElem?_zipWith]
  by_cases hi : i < a.length
  · rw [List.getElem?_eq_getElem hi, List.getElem?_eq_getElem (by omega)]; rfl
  · rw [List.getElem?_eq_none (by omega), List.getElem?_eq_none (by omega)]; rfl
theorem ext8 {a b : List Int} (ha : a.length = 8) (hb : b.length = 8) (h : ∀ i, i < 8 → a.getD i 0 = b.getD i 0) : a = b := by
  apply List.ext_getElem (by omega)
  intro i h1 h2
  have := h i (by omega)
  simpa [List.getD_eq_getElem?_getD, h1, h2] using this
theorem getD_set' (s : List Int) (k i : Nat) (x : Int) (hk : k < s.length) : (s.set k x).getD i 0 = if k = i then x else s.getD i 0 := by
  simp only [List.getD_eq_getElem?_getD, List.getElem?_set]
  split
  · simp_all
  · rfl
theorem addC_getD {s : List Int} (c : Ch) (hs : s.length = 8) (h1 : c.pa.toNat < 8) (h2 : c.pe.toNat < 8) (i : Nat) :
    (addC s c).getD i 0 = if c.pe.toNat = i then (if c.pa.toNat = c.pe.toNat then s.getD c.pa.toNat 0 - c.am else s.getD c.pe.toNat 0) + c.am else if c.pa.toNat = i then s.getD c.pa.toNat 0 - c.am else s.getD i 0 := by
  unfold addC
  simp only
  rw [getD_set' _ _ _ _ (by rw [List.length_set]; omega), getD_set' _ _ _ _ (by omega), getD_set' _ _ _ _ (by omega)]
theorem addC_addT_left {a b : List Int} (c : Ch) (ha : a.length = 8) (hb : b.length = 8) (h1 : c.pa.toNat < 8) (h2 : c.pe.toNat < 8) : addC (addT a b) c = addT (addC a c) b := by
  have hl : (addT a b).length = 8 := by simp [addT, ha, hb]
  apply ext8 (by simp [addC_length, hl]) (by simp [addT, addC_length, ha, hb])
  intro i _
  rw [addT_getD (by rw [addC_length]; omega), addC_getD c hl h1 h2, addC_getD c ha h1 h2]
  simp only [addT_getD (show a.length = b.length by omega)]
  split
  · rename_i e; subst e; split
    · rename_i e; rw [e]; omega
    · omega
  · split
    · rename_i e; subst e; omega
    · rfl
theorem addT_comm (a b : List Int) : addT a b = addT b a := by
  unfold addT
  rw [List.zipWith_comm]
  congr 1
  funext x y
  exact Int.add_comm _ _
theorem addC_addT_right {a b : List Int} (c : Ch) (ha : a.length = 8) (hb : b.length = 8) (h1 : c.pa.toNat < 8) (h2 : c.pe.toNat < 8) : addC (addT a b) c = addT a (addC b c) := by
  rw [addT_comm, addC_addT_left c hb ha h1 h2, addT_comm]

theorem snoc_ind {α : Type} {p : List α → Prop} (h0 : p []) (h1 : ∀ l x, p l → p (l ++ [x])) (l : List α) : p l := by
  have : ∀ l : List α, p l.reverse := by
    intro l
    induction l with
    | nil => exact h0
    | cons x l ih => rw [List.reverse_cons]; exact h1 _ _ ih
  simpa using this l.reverse

theorem sums_split (p q : Ch → Bool) (l : List Ch) (hd : ∀ c ∈ l, ¬ (p c = true ∧ q c = true)) (hr : ∀ c ∈ l, c.pa.toNat < 8 ∧ c.pe.toNat < 8) :
    addT (sumsL (l.filter p)) (sumsL (l.filter q)) = sumsL (l.filter fun c => p c || q c) := by
  induction l using snoc_ind with
  | h0 => simp [sumsL, addT]
  | h1 l c ih =>
    have ih := ih (fun c hc => hd c (by simp [hc])) (fun c hc => hr c (by simp [hc]))
    have hc := hd c (by simp)
    obtain ⟨r1, r2⟩ := hr c (by simp)
    simp only [List.filter_append]
    cases hp : p c <;> cases hq : q c
    · simp [List.filter, hp, hq, ih]
    · simp only [List.filter, hp, hq, Bool.or_true, List.append_nil, sumsL_snoc]
      rw [← ih, addC_addT_right c (sumsL_length _) (sumsL_length _) r1 r2]
    · simp only [List.filter, hp, hq, Bool.or_false, List.append_nil, sumsL_snoc]
      rw [← ih, addC_addT_left c (sumsL_length _) (sumsL_length _) r1 r2]
    · exact absurd ⟨hp, hq⟩ hc

theorem half_iff (x : Int) (k j : Nat) : (x / 2 ^ (k + 1) = (j : Int)) ↔ (x / 2 ^ k = ((2 * j : Nat) : Int) ∨ x / 2 ^ k = ((2 * j + 1 : Nat) : Int)) := by
  have e : x / 2 ^ (k + 1) = x / 2 ^ k / 2 := by
    rw [Int.pow_succ, Int.ediv_ediv_of_nonneg (by apply Int.pow_nonneg; omega)]
  rw [e]
  generalize x / 2 ^ k = y
  omega

theorem nodeT_sums (key : ByteArray) (l : List Ch) (hr : ∀ c ∈ l, c.pa.toNat < 8 ∧ c.pe.toNat < 8) : ∀ k j, (nodeT key l k j).1 = sumsL (blockL l k j) := by
  intro k
  induction k with
  | zero => intro j; simp [nodeT, blockL, ofL]
  | succ k ih =>
    intro j
    simp only [nodeT, joinT, ih]
    unfold blockL
    rw [sums_split _ _ _ (fun c _ h => by simp only [beq_iff_eq] at h; omega) hr]
    congr 2
    funext c
    have := half_iff c.cu k j
    rw [Bool.eq_iff_iff]
    simp only [Bool.or_eq_true, beq_iff_eq]
    exact this.symm
theorem blockL_root (l : List Ch) (h : ∀ c ∈ l, 0 ≤ c.cu ∧ c.cu ≤ 63) : blockL l 6 0 = l := by
  unfold blockL
  rw [List.filter_eq_self]
  intro c hc
  have := h c hc
  simp only [beq_iff_eq]
  omega

/-- What the customers below k come to together. -/
def lowL (l : List Ch) (k : Nat) : List Ch := l.filter fun c => decide (0 ≤ c.cu) && decide (c.cu < k)
theorem lowL_zero (l : List Ch) : lowL l 0 = [] := by
  unfold lowL
  rw [List.filter_eq_nil_iff]
  intro c _
  simp only [Bool.and_eq_true, decide_eq_true_eq]
  omega
theorem lowL_all (l : List Ch) (h : ∀ c ∈ l, 0 ≤ c.cu ∧ c.cu ≤ 63) : lowL l 64 = l := by
  unfold lowL
  rw [List.filter_eq_self]
  intro c hc
  have := h c hc
  simp only [Bool.and_eq_true, decide_eq_true_eq]
  omega
theorem low_succ (l : List Ch) (hr : ∀ c ∈ l, c.pa.toNat < 8 ∧ c.pe.toNat < 8) (k : Nat) : addT (sumsL (lowL l k)) (sumsL (ofL l k)) = sumsL (lowL l (k + 1)) := by
  unfold lowL ofL
  rw [sums_split _ _ _ (fun c _ h => by simp only [Bool.and_eq_true, decide_eq_true_eq, beq_iff_eq] at h; omega) hr]
  congr 2
  funext c
  rw [Bool.eq_iff_iff]
  simp only [Bool.or_eq_true, Bool.and_eq_true, decide_eq_true_eq, beq_iff_eq]
  omega
theorem sum_set (s : List Int) (k : Nat) (x : Int) (hk : k < s.length) : (s.set k x).sum = s.sum - s.getD k 0 + x := by
  induction s generalizing k with
  | nil => simp at hk
  | cons a s ih =>
    cases k with
    | zero => simp; omega
    | succ k =>
      simp only [List.length_cons] at hk
      simp only [List.set_cons_succ, List.sum_cons, List.getD_cons_succ]
      rw [ih k (by omega)]
      omega
theorem addC_sum {s : List Int} (c : Ch) (hs : s.length = 8) (h1 : c.pa.toNat < 8) (h2 : c.pe.toNat < 8) : (addC s c).sum = s.sum := by
  unfold addC
  simp only
  rw [sum_set _ _ _ (by rw [List.length_set]; omega), sum_set _ _ _ (by omega)]
  omega
theorem sumsL_sum (l : List Ch) (hr : ∀ c ∈ l, c.pa.toNat < 8 ∧ c.pe.toNat < 8) : (sumsL l).sum = 0 := by
  induction l using snoc_ind with
  | h0 => simp [sumsL]
  | h1 l c ih =>
    rw [sumsL_snoc, addC_sum c (sumsL_length _) (hr c (by simp)).1 (hr c (by simp)).2]
    exact ih (fun c hc => hr c (by simp [hc]))

theorem okChs_facts {l : List Ch} (h : okChs l = true) : l.length ≤ 60 ∧ l.all Ch.ok = true := by
  simpa [okChs] using h
theorem okChs_ends {l : List Ch} (h : okChs l = true) : ∀ c ∈ l, c.pa.toNat < 8 ∧ c.pe.toNat < 8 := by
  intro c hc
  have := Ch.ok_facts (List.all_eq_true.1 (okChs_facts h).2 c hc)
  omega
theorem okChs_cu {l : List Ch} (h : okChs l = true) : ∀ c ∈ l, 0 ≤ c.cu ∧ c.cu ≤ 63 := by
  intro c hc
  have := Ch.ok_facts (List.all_eq_true.1 (okChs_facts h).2 c hc)
  omega
theorem okChs_filter {l : List Ch} (h : okChs l = true) (p : Ch → Bool) : okChs (l.filter p) = true := by
  obtain ⟨h1, h2⟩ := okChs_facts h
  simp only [okChs, Bool.and_eq_true, decide_eq_true_eq]
  refine ⟨Nat.le_trans (List.length_filter_le _ _) h1, List.all_eq_true.2 fun c hc => List.all_eq_true.1 h2 c (List.mem_filter.1 hc).1⟩
theorem mem_getD {s : List Int} {n : Int} (h : n ∈ s) : ∃ i, s.getD i 0 = n := by
  obtain ⟨i, hi, e⟩ := List.getElem_of_mem h
  exact ⟨i, by simp [List.getD_eq_getElem?_getD, hi, e]⟩
theorem sumsL_bound60 {l : List Ch} (h : okChs l = true) : ∀ n ∈ sumsL l, -60000000000 ≤ n ∧ n ≤ 60000000000 := by
  intro n hn
  obtain ⟨i, e⟩ := mem_getD hn
  obtain ⟨h1, h2⟩ := okChs_facts h
  have := sumsL_bound l h2 i
  omega
theorem sumsL_small {l : List Ch} (h : okChs l = true) : Small (sumsL l) := fun n hn => by
  have := sumsL_bound60 h n hn
  omega
theorem nodeT_ok (key : ByteArray) {l : List Ch} (h : okChs l = true) (k j : Nat) : (nodeT key l k j).1.length = 8 ∧ (∀ n ∈ (nodeT key l k j).1, -60000000000 ≤ n ∧ n ≤ 60000000000) ∧ Small (nodeT key l k j).1 ∧ (nodeT key l k j).2.size = 32 := by
  rw [nodeT_sums key l (okChs_ends h)]
  refine ⟨sumsL_length _, sumsL_bound60 (okChs_filter h _), sumsL_small (okChs_filter h _), ?_⟩
  cases k with
  | zero => exact leafH_size _
  | succ k => exact nodeH_size _ _
/-- A row of the tree. -/
def levelT (key : ByteArray) (l : List Ch) (k : Nat) : List TT := (List.range (2 ^ (6 - k))).map (nodeT key l k)
theorem levelT_length (key : ByteArray) (l : List Ch) (k : Nat) : (levelT key l k).length = 2 ^ (6 - k) := by simp [levelT]

end Go.Proofs.YthohfbeelepkmaaDoor

/- audit.rows$1: words. -/
namespace Go.Proofs.YthohfbeelepkmaaDoor
open Go.RowKit Go.Shelf

/-- The cells of totals, one after the other. -/
def totV (L : List TT) : List Value := (L.map fun t => totC t.1 t.2).flatten
theorem totV_snoc (L : List TT) (t : TT) : totV (L ++ [t]) = totV L ++ totC t.1 t.2 := by simp [totV]
/-- What rounds of a range over the rows keep: the blocks named, and from n on rows of totals and what is no cells. -/
def Keepy : Obj → Bool
  | .cells _ t _ => decide (t = 81)
  | _ => true
def KpR (n : Nat) (bs : List Nat) (A B : World) : Prop := (∀ k ∈ bs, B.heap[k]? = A.heap[k]?) ∧ (∀ k o, n ≤ k → A.heap[k]? = some o → Keepy o = true → B.heap[k]? = some o) ∧ A.heap.size ≤ B.heap.size
theorem KpR.trans {n : Nat} {bs : List Nat} {A B C : World} (h : KpR n bs A B) (k : KpR n bs B C) : KpR n bs A C :=
  ⟨fun i hi => (k.1 i hi).trans (h.1 i hi), fun i o hn ho hk => k.2.1 i o hn (h.2.1 i o hn ho hk) hk, Nat.le_trans h.2.2 k.2.2⟩
def StR (n : Nat) (A B : World) : Prop := Below n A B ∧ KeepT [35, 3] A B
theorem StR.trans {n : Nat} {A B C : World} (h : StR n A B) (k : StR n B C) : StR n A C := ⟨h.1.trans k.1, h.2.trans k.2⟩
theorem StR.refl (n : Nat) (A : World) : StR n A A := ⟨Below.refl _ _, .refl _ _⟩
theorem StR.of_below {n : Nat} {A B : World} (h : Below A.heap.size A B) (hn : n ≤ A.heap.size) : StR n A B := ⟨h.mono hn, .of_below h⟩
theorem StR.drew {n : Nat} {A B : World} (h : StR n A B) : StR n A B.drew := ⟨h.1.drew, h.2⟩
theorem StR.grown81 {n : Nat} {A B C : World} {v : Value} {k : Nat} {xs : List Value} (h : StR n A B) (hg : B.grownBy C v.ownBlock) (hr : B.ownsRow n 81 9 v k xs) (hB : n ≤ B.heap.size) : StR n A C := by
  have hr2 : ∀ g, v.ownBlock = some g → n ≤ g ∧ ∃ cs t f, B.heap[g]? = some (.cells cs t f) ∧ t ∉ [35, 3] := by
    intro g e
    rcases hr.2 with ⟨rfl, _⟩ | ⟨g', cap, cur, rfl, hn, hg, _⟩
    · cases e
    · simp only [Value.ownBlock, Option.some.injEq] at e
      subst e
      exact ⟨hn, cur, 81, (0, 0), hg, by decide⟩
  exact ⟨h.1.grown hg hB fun k e => (hr2 k e).1, h.2.trans (KeepT.grown hg fun g e => (hr2 g e).2)⟩
def blkOf : Option Addr → Nat
  | some a => a.block
  | none => 0
/-- A row of the tree, read. -/
def NR (key : ByteArray) (l : List Ch) (pre : List Value) (x : Value) (W : World) : Prop :=
  ∃ g c, x = .slice (some ⟨g, 0, none⟩) (2 ^ (6 - pre.length)) c ∧ Sl W x 9 ((levelT key l pre.length).map fun t => totC t.1 t.2)

def leafRow (key : ByteArray) (l : List Ch) (k : Nat) : List TT := (List.range k).map (nodeT key l 0)
theorem leafRow_succ (key : ByteArray) (l : List Ch) (k : Nat) : leafRow key l (k + 1) = leafRow key l k ++ [(sumsL (ofL l k), leafDig (saltH key k) (ofL l k))] := by
  simp [leafRow, List.range_succ, nodeT]

/-- What has run has run behind what it waits for. -/
def Closed (ops : Array Oper) (L : Array Bool) : Prop := ∀ (i : Nat) (o : Oper), ops[i]? = some o → L.getD i false = true → ∀ e ∈ o.after, Region.binds .any e = true → L.getD e.on false = true
theorem closed_start (ops : Array Oper) (n : Nat) : Closed ops (Array.replicate n false) := by
  intro i o _ h
  simp only [Array.getD] at h
  split at h <;> simp at h
theorem closed_set {ops : Array Oper} {L : Array Bool} {i : Nat} (hs : L.size = ops.size) (h : Closed ops L) (hr : i ∈ Region.ready .any ops L) : Closed ops (L.setIfInBounds i true) := by
  obtain ⟨hi, _, hpre⟩ := ready_spec hr
  intro j o ho hj e he hb
  rw [bit_set hs hi] at hj ⊢
  by_cases hji : j = i
  · subst hji; rw [hpre o ho e he hb]; simp
  · have := h j o ho (by simpa [hji] using hj) e he hb
    rw [this]; simp
theorem wpIn_region_cl {P : Program} {ops : Array Oper} {Q : Exit → Act → World → Prop} {id l n : Nat} {a : Act} {w : World} (Inv : Array Bool → Act → World → Prop) (hm : P.follows .mixedOrders = true) (hnd : noDefers ops = true)
    (h0 : Inv (Array.replicate ops.size false) a w.drew)
    (hstep : ∀ listed a w i, listed.size = ops.size → Closed ops listed → Inv listed a w → i ∈ Region.ready .any ops listed → wpOpS P ops Q i (fun a' w' => Inv (listed.setIfInBounds i true) a' w') a w)
    (hend : ∀ listed a w, listed.size = ops.size → Inv listed a w → Region.ready .any ops listed = [] → Q .normal a w) : (Code.region id ops true).wpIn (Fence.wide.inRound l) n P Q a w :=
  wpIn_region_inv (fun L a w => Closed ops L ∧ Inv L a w) hm hnd ⟨closed_start _ _, h0⟩
    (fun L a w i hs hI hr => wpOpS_mono (fun _ _ h => ⟨closed_set hs hI.1 hr, h⟩) (hstep L a w i hs hI.1 hI.2 hr)) (fun L a w hs hI hr => hend L a w hs hI.2 hr)
theorem wp_region_cl {P : Program} {ops : Array Oper} {Q : Exit → Act → World → Prop} {id : Nat} {a : Act} {w : World} (Inv : Array Bool → Act → World → Prop) (hm : P.follows .mixedOrders = true)
    (h0 : Inv (Array.replicate ops.size false) a w.drew)
    (hstep : ∀ listed a w i, listed.size = ops.size → Closed ops listed → Inv listed a w → i ∈ Region.ready .any ops listed → wpOp P ops Q i (fun a' w' => Inv (listed.setIfInBounds i true) a' w') a w)
    (hend : ∀ listed a w, listed.size = ops.size → Inv listed a w → Region.ready .any ops listed = [] → Q .normal a w) : (Code.region id ops true).wp P Q a w :=
  wp_region_inv (fun L a w => Closed ops L ∧ Inv L a w) hm ⟨closed_start _ _, h0⟩
    (fun L a w i hs hI hr => wpOp_mono (fun _ _ h => ⟨closed_set hs hI.1 hr, h⟩) (hstep L a w i hs hI.1 hI.2 hr)) (fun L a w hs hI hr => hend L a w hs hI.2 hr)

end Go.Proofs.YthohfbeelepkmaaDoor
