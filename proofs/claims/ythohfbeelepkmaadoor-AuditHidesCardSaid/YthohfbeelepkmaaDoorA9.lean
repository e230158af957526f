/- wire.PutInt. -/
import Derived.Test.YthohfbeelepkmaaDoorA6
import Derived.RangeFuncBox
import Derived.Laws.Bits64
import Derived.Maps.AppendAt
namespace Go.Proofs.YthohfbeelepkmaaDoor
open Go.RowKit Go.Shelf
attribute [local go_sem] Oper.semAt_some

/-- Blocks of cells of these types lie as they lay. -/
def KeepT (ts : List TypeId) (W W' : World) : Prop := ∀ (k : Nat) (cs : Array Value) (t : TypeId) (f : Nat × Nat), t ∈ ts → W.heap[k]? = some (.cells cs t f) → W'.heap[k]? = some (.cells cs t f)
theorem KeepT.refl (ts : List TypeId) (w : World) : KeepT ts w w := fun _ _ _ _ _ h => h
theorem KeepT.trans {ts : List TypeId} {w w1 w2 : World} (h : KeepT ts w w1) (k : KeepT ts w1 w2) : KeepT ts w w2 := fun i cs t f ht hi => k i cs t f ht (h i cs t f ht hi)
theorem KeepT.of_below {ts : List TypeId} {w w' : World} (h : Below w.heap.size w w') : KeepT ts w w' := fun k cs t f _ ho => by
  rw [h.block k (Array.getElem?_eq_some_iff.1 ho).1]; exact ho
theorem KeepT.alloc {ts : List TypeId} {w w' : World} (h : KeepT ts w w') (o : Obj) : KeepT ts w (w'.alloc o) := h.trans (.of_below (below_one w' o))
theorem KeepT.drew {ts : List TypeId} {w w' : World} (h : KeepT ts w w') : KeepT ts w w'.drew := h
theorem KeepT.setCell {ts : List TypeId} {w w' : World} (h : KeepT ts w w') {b : Nat} {cs : Array Value} {t : TypeId} {f : Nat × Nat} (hb : w'.heap[b]? = some (.cells cs t f)) (ht : t ∉ ts) (i : Nat) (v : Value) : KeepT ts w (w'.setCell ⟨b, i, none⟩ v) := fun k cs' t' f' ht' hk => by
  have h1 := h k cs' t' f' ht' hk
  by_cases e : b = k
  · subst e; rw [hb] at h1; cases h1; exact absurd ht' ht
  · rw [Below.heap_setCell _ _ _ _ (fun e' => e e'.symm)]; exact h1
theorem KeepT.putObj {ts : List TypeId} {w : World} {l : Nat} {o o' : Loop} (h : w.heap[l]? = some (.loop o)) : KeepT ts w (w.putObj l (.loop o')) := fun k cs t f _ hk => by
  rw [World.putObj_heap_other (by rintro rfl; rw [h] at hk; cases hk)]; exact hk
theorem KeepT.grown {ts : List TypeId} {w w' : World} {r : Option Nat} (h : w.grownBy w' r) (hr : ∀ g, r = some g → ∃ cs t f, w.heap[g]? = some (.cells cs t f) ∧ t ∉ ts) : KeepT ts w w' := fun k cs t f ht hk => by
  refine (h.block k (Array.getElem?_eq_some_iff.1 hk).1 (fun e => ?_)).trans hk
  obtain ⟨cs', t', f', h1, h2⟩ := hr k e.symm
  rw [h1] at hk; cases hk; exact h2 ht
theorem ownsRow_keep {W W' : World} {base : Nat} {e : TypeId} {size : Nat} {v : Value} {k : Nat} {xs : List Value} {ts : List TypeId} (h : W.ownsRow base e size v k xs) (hk : KeepT ts W W') (he : e ∈ ts) : W'.ownsRow base e size v k xs := by
  refine ⟨h.1, ?_⟩
  rcases h.2 with h | ⟨g, cap, cur, hv, hb, hg, r⟩
  · exact .inl h
  · exact .inr ⟨g, cap, cur, hv, hb, hk g _ _ _ he hg, r⟩
theorem boxed_keep {W W' : World} {B : Nat} {t : TypeId} {v : Value} {ts : List TypeId} (h : Boxed W B t v) (hk : KeepT ts W W') (ht : t ∈ ts) : Boxed W' B t v := hk B _ _ _ ht h
theorem below_putLoop {n₀ l : Nat} {W : World} {o o' : Loop} (hl : n₀ ≤ l) (h : W.heap[l]? = some (.loop o)) : Below n₀ W (W.putObj l (.loop o')) :=
  ⟨rfl, rfl, rfl, by simp, fun k hk => World.putObj_heap_other (by omega)⟩

theorem growsU8 {W : World} {base k : Nat} {v : Value} {xs : List Value} {o : Obj} {g : Nat} (h : W.ownsRow base 5 1 v k xs) (e : v.ownBlock = some g) : ∃ cs t f, (W.alloc o).heap[g]? = some (.cells cs t f) ∧ t ∉ [152] := by
  rcases h.2 with ⟨rfl, _⟩ | ⟨g', cap, cur, rfl, _, hg, _⟩
  · cases e
  · simp only [Value.ownBlock, Option.some.injEq] at e
    subst e
    exact ⟨cur, 5, (0, 0), (below_one W o).block g' (Array.getElem?_eq_some_iff.1 hg).1 ▸ hg, by decide⟩

theorem flat_at {k : Nat} : ∀ (L : List (List Value)), (∀ x ∈ L, x.length = k) → ∀ j i x y, L[j]? = some x → x[i]? = some y → L.flatten[j * k + i]? = some y := by
  intro L
  induction L with
  | nil => intro _ j i x y h; simp at h
  | cons a L ih =>
    intro hk j i x y hx hy
    have ha := hk a (by simp)
    cases j with
    | zero =>
      simp at hx; subst hx
      have : i < a.length := (List.getElem?_eq_some_iff.1 hy).1
      simp [List.getElem?_append_left this, hy]
    | succ j =>
      have h2 := ih (fun x hx => hk x (by simp [hx])) j i x y (by simpa using hx) hy
      rw [List.flatten_cons, List.getElem?_append_right (by rw [ha, Nat.succ_mul]; omega), ha, show (j + 1) * k + i - k = j * k + i by rw [Nat.succ_mul]; omega]
      exact h2

theorem flat_one {α : Type} (f : α → Value) : ∀ l : List α, (l.map fun n => [f n]).flatten = l.map f
  | [] => rfl
  | a :: l => by simp [flat_one f l]

theorem ownsRow_sl {W : World} {B e k n : Nat} {v : Value} {L : List (List Value)} (h : W.ownsRow B e k v n L.flatten) (hn : L.length = n) (hk : ∀ x ∈ L, x.length = k) (hl : n ≤ 140737488355328) : Sl W v k L := by
  subst hn
  rcases h.2 with ⟨rfl, h0⟩ | ⟨g, cap, cur, rfl, _, hg, hc, _, hs, ht⟩
  · have : L = [] := List.length_eq_zero_iff.1 h0
    subst this; exact Sl.nil W k
  · refine Sl.of_cells hk rfl hl hc (Array.getElem?_eq_some_iff.1 hg).1 fun j i x y hx hy => ?_
    have h2 := flat_at L hk j i x y hx hy
    unfold World.cell?
    rw [hg]
    rw [← ht, List.getElem?_take] at h2
    split at h2
    · simpa using h2
    · cases h2

def u8s (l : List Int) : List Value := l.map fun n => Value.int .u8 n

def zig (n : Int) : Nat := (bits BinOp.xor IntKind.u64 (IntKind.u64.wrap (IntKind.u64.wrap n * 2)) (IntKind.u64.wrap (n / 9223372036854775808))).toNat
theorem bits_u64_range (o : BinOp) (a b : Int) : 0 ≤ bits o .u64 a b ∧ bits o .u64 a b < 18446744073709551616 := by
  unfold bits
  simp only [IntKind.wrap_u64]
  omega
theorem zig_lt (n : Int) : zig n < 18446744073709551616 := by
  have := bits_u64_range .xor (IntKind.u64.wrap (IntKind.u64.wrap n * 2)) (IntKind.u64.wrap (n / 9223372036854775808))
  unfold zig; omega
theorem zig_eq (n : Int) : ((zig n : Nat) : Int) = bits BinOp.xor IntKind.u64 (IntKind.u64.wrap (IntKind.u64.wrap n * 2)) (IntKind.u64.wrap (n / 9223372036854775808)) := by
  have := bits_u64_range .xor (IntKind.u64.wrap (IntKind.u64.wrap n * 2)) (IntKind.u64.wrap (n / 9223372036854775808))
  unfold zig; omega
theorem grp_pos (z : Nat) : 0 < (grp z).length := by rw [grp]; split <;> simp
theorem grp_len : ∀ (k z : Nat), z < 128 ^ (k + 1) → (grp z).length ≤ k + 1 := by
  intro k
  induction k with
  | zero => intro z h; rw [grp, dif_pos (by simpa using h)]; simp
  | succ k ih =>
    intro z h
    rw [grp]
    split
    · simp
    · have := ih (z / 128) (by rw [Nat.div_lt_iff_lt_mul (by decide)]; rw [Nat.pow_succ] at h; exact h)
      simp; omega
theorem grp_range : ∀ (z : Nat), ∀ x ∈ grp z, 0 ≤ x.1 ∧ x.1 < 128 := by
  intro z
  induction z using Nat.strongRecOn with
  | _ z ih =>
    intro x hx
    rw [grp] at hx
    split at hx
    · simp at hx; subst hx; simp; omega
    · simp only [List.mem_cons] at hx
      rcases hx with rfl | hx
      · simp; omega
      · exact ih (z / 128) (by omega) x hx

/-- The encoding of an integer. -/
def putInt (n : Int) : ByteArray := strOfNums (varint (grp (zig n)))

set_option maxHeartbeats 4000000 in
set_option maxRecDepth 100000 in
theorem PutInt_calls (n : Int) (w : World) (h1 : -4611686018427387903 ≤ n) (h2 : n ≤ 4611686018427387903) :
    Calls Tryd.prog 82 #[.int .i64 n] w fun e w' => e = .returned (.tuple #[.string (putInt n), .int .i64 0]) ∧ Below w.heap.size w w' := by
  have hg := groups_calls (zig n) (w.alloc (.cells #[.slice none 0 0] 66))
  rw [zig_eq] at hg
  have hseq := fun W hc hf => groups1_seq (w.heap.size + 1) (zig n) (zig_lt n) W hc hf
  have hlen : (grp (zig n)).length ≤ 10 := grp_len 9 _ (Nat.lt_trans (zig_lt n) (by decide))
  obtain ⟨i0, hi, hz0, hz1, hz2⟩ := info_parts (show (Tryd.prog.info? 5).map (fun i => (i.zero, i.size, i.bytes)) = some (some (.int .u8 0), 1, 1) by kernel_rfl)
  have HE := Lib.hid (zig_eq n)
  refine calls_of_wp_marks Tryd.func82 rfl ?_
  simp only [Tryd.ntmps82, List.size_toArray, List.length_cons, List.length_nil, Nat.reduceAdd, Nat.reduceSub, Array.replicate_succ, Array.replicate_zero, List.push_toArray, List.append_toArray, List.nil_append, List.cons_append]
  go_wp2_with fail
  refine hg.mono ?_
  rintro e w1 ⟨rfl, rfl⟩
  clear hg
  go_wp2
  have hB : Boxed (w.alloc (.cells #[.slice none 0 0] 66)) w.heap.size 66 (.slice none 0 0) := Boxed.new w _ _
  have hZ : Boxed ((w.alloc (.cells #[.slice none 0 0] 66)).alloc (.cells #[.int .u64 (zig n)] 152)) (w.heap.size + 1) 152 (.int .u64 (zig n)) := by
    have := Boxed.new (w.alloc (.cells #[.slice none 0 0] 66)) 152 (.int .u64 (zig n)); rwa [World.size_alloc] at this
  have hseq' : ∀ o, SeqG Tryd.prog 112 #[.pointer (some ⟨w.heap.size + 1, 0, none⟩)] encG (KpZ (w.heap.size + 1)) (StZ (w.heap.size + 1)) (fun xs => xs = grp (zig n)) (fun pre x => ∃ r, grp (zig n) = pre ++ x :: r)
      ((((w.alloc (.cells #[.slice none 0 0] 66)).alloc (.cells #[.int .u64 (zig n)] 152)).alloc (.deferred (some []))).alloc (.loop o)) := fun o => hseq _ ((hZ.alloc _).alloc _).cell ((hZ.alloc _).alloc _).frozen
  rw [HE.out] at hseq' hZ
  generalize hu : bits BinOp.xor IntKind.u64 (IntKind.u64.wrap (IntKind.u64.wrap n * 2)) (IntKind.u64.wrap (n / 9223372036854775808)) = u at *
  clear hu
  have hB2 := hB.alloc (.cells #[.int .u64 u] 152)
  have hb2 : Below w.heap.size w ((w.alloc (.cells #[.slice none 0 0] 66)).alloc (.cells #[.int .u64 u] 152)) := below_alloc (below_one w _) _
  have hsz : ((w.alloc (.cells #[.slice none 0 0] 66)).alloc (.cells #[.int .u64 u] 152)).heap.size = w.heap.size + 2 := by simp
  generalize (w.alloc (.cells #[.slice none 0 0] 66)).alloc (.cells #[.int .u64 u] 152) = w2 at *
  refine wp_rangeFunc (gf := 112) (lb := #[.pointer (some ⟨w.heap.size + 1, 0, none⟩)]) rfl (enters_of Tryd.func112 (by kernel_rfl) rfl) hseq' (fun h k => ⟨k.1.trans h.1, k.2.trans h.2⟩) ?hkb ?hst (fun _ => rfl)
    (fun pre W => ∃ v, Boxed W w.heap.size 66 v ∧ W.ownsRow w.heap.size 5 1 v pre.length (u8s (varint pre)) ∧ (∃ v, Boxed W (w.heap.size + 1) 152 v) ∧ Below w.heap.size w W) ?his ?hip ?h0 ?a₁ ?assign ?body ?done
  case assign =>
    intro l x W K hK
    simp only [encG]
    gi_wp2
    exact hK
  case hkb =>
    intro W o o' h
    rw [hsz] at h ⊢
    have hne : w.heap.size + 1 ≠ w.heap.size + 2 + 1 := by omega
    refine ⟨?_, ?_⟩ <;> simp only [World.cell?, World.frozen?, World.putObj_heap_other hne]
  case hst =>
    rintro A B k o ⟨v, rfl⟩ _ h ho
    exact (KeepNC.refl A).setCell _ _ k o h ho
  case his =>
    rintro s A B ⟨u', rfl⟩ ⟨v, b1, r1, ⟨v2, b2⟩, hb⟩
    have kt : KeepT [66, 5] A (A.setCell ⟨w.heap.size + 1, 0, none⟩ u') := (KeepT.refl _ A).setCell b2 (by decide) 0 u'
    exact ⟨v, boxed_keep b1 kt (by decide), ownsRow_keep r1 kt (by decide), ⟨_, b2.set u'⟩, hb.setCell (p := ⟨w.heap.size + 1, 0, none⟩) (by simp) _⟩
  case hip =>
    rintro s W o o' h ⟨v, b1, r1, ⟨v2, b2⟩, hb⟩
    have kt : KeepT [66, 5, 152] W (W.putObj (w2.heap.size + 1) (.loop o')) := KeepT.putObj h
    exact ⟨v, boxed_keep b1 kt (by decide), ownsRow_keep r1 kt (by decide), ⟨_, boxed_keep b2 kt (by decide)⟩, hb.trans (below_putLoop (by omega) h)⟩
  case h0 =>
    intro o
    exact ⟨_, (hB2.alloc _).alloc _, World.ownsRow_nil _ _ _ _, ⟨_, (hZ.alloc _).alloc _⟩, below_alloc (below_alloc hb2 _) _⟩
  case body =>
    rintro l pre x W ⟨v, b1, r1, ⟨v2, b2⟩, hb⟩ ⟨r, hr⟩ hW
    have c1 := b1.cell
    have f1 := b1.frozen
    have hl : pre.length < 10 := by rw [hr] at hlen; simp at hlen; omega
    obtain ⟨g, last⟩ := x
    clear hr hseq'
    cases last
    · gi_wp2_with (gi_at_builtin; refine wpListIn_append_own _ rfl _ _ 66 rfl w.heap.size 5 i0 (.int .u8 0) 1 1 (by kernel_rfl) hi hz0 hz1 hz2 rfl (by decide) _ _ _ rfl (r1.alloc _) ⟨W.heap.size, 0, none⟩ 1 1 [.int .u8 (bits .or .u8 g 128)] rfl rfl (cell_one_new _ _ _) (by simp [Value.oneCell']) (by unfold maxLen; omega) (by omega) (by have := hb.size; simp; omega) ?_; intro v' w1 hown' hgrow _; obtain ⟨g', cap', rfl⟩ := ownsRow_succ hown'; obtain ⟨hv1, hv2, hr2, hk2, hbb⟩ := b1.appended (by decide) r1 hb.size (Nat.le_refl _) hown' hgrow; have hc1 := hv1.cell; have hf1 := hv1.frozen)
      have kt : KeepT [152] W (w1.setCell ⟨w.heap.size, 0, none⟩ (.slice (some ⟨g', 0, none⟩) (pre.length + 1) cap')) := (((KeepT.refl _ W).alloc _).trans (KeepT.grown hgrow (fun g e => growsU8 r1 e))).setCell hv1 (by decide) 0 _
      refine ⟨KeepNC.others hk2, ?_, _, hv2, ?_, ⟨_, boxed_keep b2 kt (by decide)⟩, hb.trans hbb⟩
      · have hz2 := boxed_keep b2 kt (by decide)
        exact ⟨hz2.cell.trans b2.cell.symm, hz2.frozen.trans b2.frozen.symm⟩
      · simpa [varint, u8s] using hr2
    · gi_wp2_with (gi_at_builtin; refine wpListIn_append_own _ rfl _ _ 66 rfl w.heap.size 5 i0 (.int .u8 0) 1 1 (by kernel_rfl) hi hz0 hz1 hz2 rfl (by decide) _ _ _ rfl (r1.alloc _) ⟨W.heap.size, 0, none⟩ 1 1 [.int .u8 (g)] rfl rfl (cell_one_new _ _ _) (by simp [Value.oneCell']) (by unfold maxLen; omega) (by omega) (by have := hb.size; simp; omega) ?_; intro v' w1 hown' hgrow _; obtain ⟨g', cap', rfl⟩ := ownsRow_succ hown'; obtain ⟨hv1, hv2, hr2, hk2, hbb⟩ := b1.appended (by decide) r1 hb.size (Nat.le_refl _) hown' hgrow; have hc1 := hv1.cell; have hf1 := hv1.frozen)
      have kt : KeepT [152] W (w1.setCell ⟨w.heap.size, 0, none⟩ (.slice (some ⟨g', 0, none⟩) (pre.length + 1) cap')) := (((KeepT.refl _ W).alloc _).trans (KeepT.grown hgrow (fun g e => growsU8 r1 e))).setCell hv1 (by decide) 0 _
      refine ⟨KeepNC.others hk2, ?_, _, hv2, ?_, ⟨_, boxed_keep b2 kt (by decide)⟩, hb.trans hbb⟩
      · have hz2 := boxed_keep b2 kt (by decide)
        exact ⟨hz2.cell.trans b2.cell.symm, hz2.frozen.trans b2.frozen.symm⟩
      · simpa [varint, u8s] using hr2
  case done =>
    rintro xs W rfl ⟨v, b1, r1, ⟨v2, b2⟩, hb⟩ hd
    have c1 := b1.cell
    have hp := grp_pos (zig n)
    obtain ⟨m, hm⟩ : ∃ m, (grp (zig n)).length = m + 1 := ⟨(grp (zig n)).length - 1, by omega⟩
    have hlv : (varint (grp (zig n))).length = m + 1 := by simp [varint, hm]
    rw [hm] at r1
    obtain ⟨g', cap', rfl⟩ := ownsRow_succ r1
    have hI : Ints W (.slice (some ⟨g', 0, none⟩) (m + 1) cap') .u8 (varint (grp (zig n))) := by
      have hs := ownsRow_sl (L := (varint (grp (zig n))).map fun n => [Value.int .u8 n]) (k := 1) (n := m + 1) (by rw [flat_one]; exact r1) (by simp [hlv]) (by simp) (by omega)
      exact hs
    generalize hL : varint (grp (zig n)) = L at *
    have hst := hI.toString (P := Tryd.prog) (by omega) 66 5 9 (by kernel_rfl) (by kernel_rfl) (by kernel_rfl)
    go_wp2
    refine ⟨by simp, .inl ⟨_, _, rfl, run_takeDeferred hd, ?_⟩⟩
    refine ⟨_, results_tmp2 rfl _ _ _, by unfold putInt; rw [hL]; rfl, hb.trans ⟨rfl, rfl, rfl, by simp, fun k hk => World.putObj_heap_other (by omega)⟩⟩

end Go.Proofs.YthohfbeelepkmaaDoor

/- wire.PutString; the writer's numbers. -/
namespace Go.Proofs.YthohfbeelepkmaaDoor
open Go.RowKit Go.Shelf

theorem Wb.below {B b : Nat} {s : ByteArray} {w w' : World} (h : Wb B b s w) (hb : Below w.heap.size w w') : Wb B b s w' := by
  have go : ∀ p, Lib.BuilderAt 130 5 B b p (Lib.strCells s) w → Lib.BuilderAt 130 5 B b p (Lib.strCells s) w' := by
    rintro p ⟨hB, v, hbk, hown, hne⟩
    exact ⟨hB, v, (hb.block b (Array.getElem?_eq_some_iff.1 hbk).1).trans hbk, ownsRow_keep hown (KeepT.of_below (ts := [5]) hb) (by decide), hne⟩
  exact h.imp (go _) (go _)
theorem Wb.lt {B b : Nat} {s : ByteArray} {w : World} (h : Wb B b s w) : b < w.heap.size := by
  rcases h with h | h <;> exact h.lt
theorem Wb.le {B b : Nat} {s : ByteArray} {w : World} (h : Wb B b s w) : B ≤ b := by
  rcases h with h | h <;> exact h.1

theorem strOfNums_size (l : List Int) : (strOfNums l).size = l.length := by simp [strOfNums, ByteArray.size]
theorem putInt_size (n : Int) : 0 < (putInt n).size ∧ (putInt n).size ≤ 10 := by
  unfold putInt
  rw [strOfNums_size]
  have h1 := grp_pos (zig n)
  have h2 : (grp (zig n)).length ≤ 10 := grp_len 9 _ (Nat.lt_trans (zig_lt n) (by decide))
  simp only [varint, List.length_map]
  exact ⟨h1, h2⟩

theorem size_append (s t : ByteArray) : (s ++ t).size = s.size + t.size := ByteArray.size_append

set_option maxHeartbeats 1000000 in
theorem PutString_calls (s : ByteArray) (w : World) (h : s.size ≤ 65536) :
    Calls Tryd.prog 90 #[.string s] w fun e w' => e = .returned (.tuple #[.string (putInt s.size ++ s), .int .i64 0]) ∧ Below w.heap.size w w' := by
  have hp := PutInt_calls s.size w (by omega) (by omega)
  have hs := putInt_size s.size
  generalize putInt s.size = t at *
  go_enter Tryd.func90, Tryd.ntmps90
  go_wp2_with fail
  refine hp.mono ?_
  rintro e w' ⟨rfl, hb⟩
  go_wp2
  go_ret2
  exact ⟨rfl, hb⟩

/-- The encodings of integers, one behind the other. -/
def nums (l : List Int) : ByteArray := l.foldl (fun s n => s ++ putInt n) .empty
theorem nums_snoc (l : List Int) (n : Int) : nums (l ++ [n]) = nums l ++ putInt n := by simp [nums]
theorem nums_size' (l : List Int) : ∀ s : ByteArray, (l.foldl (fun s n => s ++ putInt n) s).size ≤ s.size + 10 * l.length := by
  induction l with
  | nil => intro s; simp
  | cons n l ih => intro s; have := ih (s ++ putInt n); rw [size_append] at this; have := (putInt_size n).2; simp; omega
theorem nums_size (l : List Int) : (nums l).size ≤ 10 * l.length := by have := nums_size' l .empty; simpa [nums] using this
theorem take_succ_snoc {α : Type} (l : List α) (k : Nat) (h : k < l.length) : l.take (k + 1) = l.take k ++ [l[k]] := by rw [List.take_add_one]; simp [h]

set_option maxHeartbeats 2000000 in
set_option maxRecDepth 100000 in
theorem numbers_calls (B b : Nat) (s : ByteArray) (v : Value) (l : List Int) (w : World) (h : Wb B b s w) (hv : ∀ W, KeepTy w W → Ints W v .i64 l) (hl : ∀ n ∈ l, -4611686018427387903 ≤ n ∧ n ≤ 4611686018427387903)
    (hlen : s.size + 10 * l.length ≤ 140737488355328) (hBw : B ≤ w.heap.size) :
    Calls Tryd.prog 89 #[.pointer (some ⟨b, 0, none⟩), v] w fun e w' => e = .returned (.tuple #[]) ∧ (Wb B b (s ++ nums l) w' ∧ Below B w w' ∧ KeepTy w w') := by
  obtain ⟨hlenl, A, cap, rfl, hcap, _⟩ := (hv w (KeepTy.refl w)).openD
  go_enter Tryd.func89, Tryd.ntmps89
  go_wp2
  go_loopw [10] (fun s10 wr => ∃ k : Nat, k ≤ l.length ∧ s10 = .int .i64 k ∧ Aside (Wb B b (s ++ nums (l.take k)) wr) ∧ Aside (Below B w wr) ∧ Aside (KeepTy w wr)) (fun s10 _ => l.length - (intOf s10).toNat)
  case atStart => exact ⟨0, Nat.zero_le _, rfl, (show Wb B b _ w by simpa [nums] using h), Below.refl _ _, KeepTy.refl _⟩
  case round =>
    obtain ⟨k, hk, rfl, WB, BB, KK⟩ := hrel
    by_cases hlt : k < l.length
    · obtain ⟨_, A', cap', hA, _, hat⟩ := (hv wr KK.out).openD
      obtain ⟨rfl, rfl⟩ : A = A' ∧ cap = cap' := by cases hA; exact ⟨rfl, rfl⟩
      obtain ⟨bb, off, rfl, hb, hat⟩ := hat (by omega)
      have c0 := hat wr (Below.refl _ _) k hlt
      have hn := hl _ (List.getElem_mem hlt)
      have hgk : l.getD k 0 = l[k] := by simp [hlt]
      rw [hgk] at c0
      have HT := Lib.hid (take_succ_snoc l k hlt)
      generalize l[k] = n at *
      have hp := PutInt_calls n wr hn.1 hn.2
      have HP := Lib.hid (putInt_size n)
      clear hat hl hgk hA
      go_wp2_with fail
      refine hp.mono ?_
      rintro e w1 ⟨rfl, hb1⟩
      have hsz : (s ++ nums (l.take k)).size + (putInt n).size ≤ 140737488355328 := by
        have h1 := nums_size (l.take k)
        have h2 := HP.out.2
        have h3 : (l.take k).length = k := by simp; omega
        rw [size_append]; omega
      have hB1 := hb1.size
      have hB2 := BB.out.size
      have hW := WriteString_calls B b _ (putInt n) w1 (WB.out.below hb1) hsz (by omega)
      clear hp hsz
      go_wp2_with fail
      refine hW.mono ?_
      rintro e w2 ⟨rfl, hw2, hb2, hk2⟩
      go_wp2
      go_roundw
      case measure => simp [intOf]; omega
      case rel =>
        refine ⟨k + 1, by omega, by go_num, ?_, (BB.out.trans (hb1.mono (by omega))).trans hb2, (KK.out.trans (KeepTy.of_below hb1)).trans hk2⟩
        show Wb B b (s ++ nums (l.take (k + 1))) w2
        rw [HT.out, nums_snoc, ← ByteArray.append_assoc]
        exact hw2
    · have : k = l.length := by omega
      subst this
      go_wp2
      go_end0
      refine ⟨rfl, ?_, BB.out, KK.out⟩
      have := WB.out
      rwa [List.take_length] at this

end Go.Proofs.YthohfbeelepkmaaDoor
