/- Several rows of charges of the call's own, each with a block of its own. -/
import Derived.Test.YthohfbeelepkmaaDoorM3
import Derived.Maps.AppendAt
namespace Go.Proofs.YthohfbeelepkmaaDoor
open Go.RowKit Go.Shelf

/-- The blocks of two values differ. -/
def Ap (u v : Value) : Prop := ∀ k, u.ownBlock = some k → v.ownBlock ≠ some k
theorem Ap.symm {u v : Value} (h : Ap u v) : Ap v u := fun k e e' => h k e' e
theorem Ap.nil (v : Value) : Ap (.slice none 0 0) v := fun k e => by simp [Value.ownBlock] at e
theorem Ap.nil' (v : Value) : Ap v (.slice none 0 0) := (Ap.nil v).symm
def Row (n : Nat) (W : World) (p : Value × List Ch) : Prop := W.ownsRow n 30 5 p.1 p.2.length (chCells p.2)
def Owns (n : Nat) (W : World) (S : List (Value × List Ch)) : Prop := (∀ p ∈ S, Row n W p) ∧ S.Pairwise fun p q => Ap p.1 q.1

theorem ownsRow_lt {W : World} {b e s n k : Nat} {v : Value} {xs : List Value} (h : W.ownsRow b e s v n xs) (hk : v.ownBlock = some k) : b ≤ k ∧ k < W.heap.size ∧ ∃ c, W.heap[k]? = some (.cells c e (0, 0)) := by
  rcases h.2 with ⟨e, _⟩ | ⟨g, cap, cur, e, hg, hh, _⟩
  · rw [e] at hk; simp [Value.ownBlock] at hk
  · rw [e] at hk
    simp only [Value.ownBlock, Option.some.injEq] at hk
    subst hk
    exact ⟨hg, (Array.getElem?_eq_some_iff.1 hh).1, cur, hh⟩
theorem ownsRow_block {W W' : World} {b e s n : Nat} {v : Value} {xs : List Value} (h : W.ownsRow b e s v n xs) (hm : ∀ k, v.ownBlock = some k → W'.heap[k]? = W.heap[k]?) : W'.ownsRow b e s v n xs := by
  refine ⟨h.1, ?_⟩
  rcases h.2 with h | ⟨g, cap, cur, e, hg, hh, r⟩
  · exact .inl h
  · exact .inr ⟨g, cap, cur, e, hg, (hm g (by rw [e]; rfl)).trans hh, r⟩

theorem Owns.move {n : Nat} {W W' : World} {S : List (Value × List Ch)} (h : Owns n W S) (hm : ∀ p ∈ S, ∀ k, p.1.ownBlock = some k → W'.heap[k]? = W.heap[k]?) : Owns n W' S :=
  ⟨fun p hp => ownsRow_block (h.1 p hp) (hm p hp), h.2⟩
theorem Owns.below {n : Nat} {W W' : World} {S : List (Value × List Ch)} (h : Owns n W S) (hb : Below W.heap.size W W') : Owns n W' S :=
  h.move fun p hp k hk => hb.block k (ownsRow_lt (h.1 p hp) hk).2.1
/-- A block of another type is written. -/
theorem Owns.far {n g : Nat} {W W' : World} {S : List (Value × List Ch)} (h : Owns n W S) {c : Array Value} {t : TypeId} {f : Nat × Nat} (hg : W.heap[g]? = some (.cells c t f)) (ht : t ≠ 30) (hm : ∀ k, k ≠ g → W'.heap[k]? = W.heap[k]?) : Owns n W' S :=
  h.move fun p hp k hk => hm k (by
    rintro rfl
    obtain ⟨_, _, c', hc⟩ := ownsRow_lt (h.1 p hp) hk
    rw [hg] at hc
    cases hc
    exact ht rfl)
/-- A block that none of them holds is written. -/
theorem Owns.off {n g : Nat} {W W' : World} {S : List (Value × List Ch)} (h : Owns n W S) (hg : ∀ p ∈ S, p.1.ownBlock ≠ some g) (hm : ∀ k, k ≠ g → W'.heap[k]? = W.heap[k]?) : Owns n W' S :=
  h.move fun p hp k hk => hm k (by rintro rfl; exact hg p hp hk)
/-- One of them grows. -/
theorem Owns.grow {n : Nat} {W W' : World} {S T : List (Value × List Ch)} {v v' : Value} {L L' : List Ch} (h : Owns n W (S ++ (v, L) :: T)) (hg : W.grownBy W' v.ownBlock) (ho : Row n W' (v', L'))
    (hv : v'.ownBlock = v.ownBlock ∨ v'.ownBlock = some W.heap.size) : Owns n W' (S ++ (v', L') :: T) := by
  obtain ⟨h1, h2⟩ := h
  rw [List.pairwise_append, List.pairwise_cons] at h2
  obtain ⟨hS, ⟨hvT, hT⟩, hST⟩ := h2
  have hne : ∀ p ∈ S ++ T, Ap v p.1 := by
    intro p hp
    rcases List.mem_append.1 hp with hp | hp
    · exact (hST p hp (v, L) (by simp)).symm
    · exact hvT p hp
  have hne' : ∀ p ∈ S ++ T, Ap v' p.1 := by
    intro p hp k hk
    rcases hv with e | e
    · exact hne p hp k (e ▸ hk)
    · rw [e] at hk
      simp only [Option.some.injEq] at hk
      subst hk
      intro hk2
      have hp' : p ∈ S ++ (v, L) :: T := by
        rcases List.mem_append.1 hp with hp | hp
        · exact List.mem_append_left _ hp
        · exact List.mem_append_right _ (List.mem_cons_of_mem _ hp)
      have := (ownsRow_lt (h1 p hp') hk2).2.1
      omega
  refine ⟨fun p hp => ?_, ?_⟩
  · have hcase : p = (v', L') ∨ p ∈ S ++ T := by
      rcases List.mem_append.1 hp with hp | hp
      · exact .inr (List.mem_append_left _ hp)
      · rcases List.mem_cons.1 hp with hp | hp
        · exact .inl hp
        · exact .inr (List.mem_append_right _ hp)
    rcases hcase with rfl | hp
    · exact ho
    · have hp' : p ∈ S ++ (v, L) :: T := by
        rcases List.mem_append.1 hp with hp | hp
        · exact List.mem_append_left _ hp
        · exact List.mem_append_right _ (List.mem_cons_of_mem _ hp)
      refine ownsRow_block (h1 p hp') fun k hk => hg.block k (ownsRow_lt (h1 p hp') hk).2.1 fun e => ?_
      exact hne p hp k e.symm hk
  · rw [List.pairwise_append, List.pairwise_cons]
    refine ⟨hS, ⟨fun q hq => hne' q (List.mem_append_right _ hq), hT⟩, fun p hp q hq => ?_⟩
    rcases List.mem_cons.1 hq with rfl | hq
    · exact (hne' p (List.mem_append_left _ hp)).symm
    · exact hST p hp q (List.mem_cons_of_mem _ hq)
/-- What is none of theirs is none of theirs behind the growth. -/
theorem off_grow {W : World} {v v' : Value} {g : Nat} (h : v.ownBlock ≠ some g) (hg : g < W.heap.size) (hv : v'.ownBlock = v.ownBlock ∨ v'.ownBlock = some W.heap.size) : v'.ownBlock ≠ some g := by
  rcases hv with e | e
  · rw [e]; exact h
  · rw [e]; intro e'
    simp only [Option.some.injEq] at e'
    omega
theorem Row.nil (n : Nat) (W : World) : Row n W (.slice none 0 0, []) := World.ownsRow_nil _ _ _ _
theorem Row.slice {n : Nat} {W : World} {v : Value} {L : List Ch} (h : Row n W (v, L)) : ∃ A c, v = .slice A L.length c := by
  rcases h.2 with ⟨e, e2⟩ | ⟨g, cap, _, e, _⟩
  · refine ⟨none, 0, ?_⟩
    have : L.length = 0 := e2
    rw [this]; exact e
  · exact ⟨_, cap, e⟩
theorem Row.chs {n : Nat} {W : World} {v : Value} {L : List Ch} (h : Row n W (v, L)) (hl : L.length ≤ 100000) : Chs W v L := ownsRow_chs h hl
end Go.Proofs.YthohfbeelepkmaaDoor
namespace Go.Proofs.YthohfbeelepkmaaDoor
open Go.RowKit Go.Shelf
/-- The others stay when one of them grows. -/
theorem Owns.rest {n : Nat} {W W' : World} {S T : List (Value × List Ch)} {v : Value} {L : List Ch} (h : Owns n W (S ++ (v, L) :: T)) (hg : W.grownBy W' v.ownBlock) : ∀ p ∈ S ++ T, Row n W' p := by
  obtain ⟨h1, h2⟩ := h
  rw [List.pairwise_append, List.pairwise_cons] at h2
  obtain ⟨hS, ⟨hvT, hT⟩, hST⟩ := h2
  intro p hp
  have hne : Ap v p.1 := by
    rcases List.mem_append.1 hp with hp | hp
    · exact (hST p hp (v, L) (by simp)).symm
    · exact hvT p hp
  have hp' : p ∈ S ++ (v, L) :: T := by
    rcases List.mem_append.1 hp with hp | hp
    · exact List.mem_append_left _ hp
    · exact List.mem_append_right _ (List.mem_cons_of_mem _ hp)
  exact ownsRow_block (h1 p hp') fun k hk => hg.block k (ownsRow_lt (h1 p hp') hk).2.1 fun e => hne k e.symm hk
/-- A block of another type is written: a row stays. -/
theorem Row.far {n g : Nat} {W W' : World} {p : Value × List Ch} (h : Row n W p) {c : Array Value} {t : TypeId} {f : Nat × Nat} (hg : W.heap[g]? = some (.cells c t f)) (ht : t ≠ 30) (hm : ∀ k, k ≠ g → W'.heap[k]? = W.heap[k]?) : Row n W' p :=
  ownsRow_block h fun k hk => hm k (by
    rintro rfl
    obtain ⟨_, _, c', hc⟩ := ownsRow_lt h hk
    rw [hg] at hc
    cases hc
    exact ht rfl)
end Go.Proofs.YthohfbeelepkmaaDoor
