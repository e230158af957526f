/- A drawn region by an invariant over what has run: no branching over orders. -/
import Derived.Test.YthohfbeelepkmaaDoorA0
import Derived.OrdersIn
import Derived.ControlIn
import Derived.RangeFuncCalls
namespace Go.Proofs.YthohfbeelepkmaaDoor
open Go.RowKit Go.Shelf

theorem falses_set : ∀ (l : List Bool) (i : Nat), l[i]? = some false → ((l.set i true).filter (! ·)).length + 1 = (l.filter (! ·)).length := by
  intro l
  induction l with
  | nil => intro i h; simp at h
  | cons b l ih =>
    intro i h
    cases i with
    | zero => simp at h; subst h; simp
    | succ i =>
      simp only [List.getElem?_cons_succ] at h
      have := ih i h
      cases b <;> simp_all

theorem ready_spec {md : Region.Mode} {ops : Array Oper} {L : Array Bool} {i : Nat} (h : i ∈ Region.ready md ops L) : i < ops.size ∧ L.getD i true = false ∧ ∀ o, ops[i]? = some o → ∀ e ∈ o.after, Region.binds md e = true → L.getD e.on false = true := by
  unfold Region.ready at h
  simp only [List.mem_filter, List.mem_range, Bool.and_eq_true, Bool.not_eq_true'] at h
  refine ⟨h.1, h.2.1, fun o ho e he hb => ?_⟩
  have h2 := h.2.2
  rw [ho] at h2
  simp only [Option.map_some, Option.getD_some, Array.all_eq_true'] at h2
  have := h2 e he
  simpa [hb] using this
theorem bit_set {L : Array Bool} {n i : Nat} (hs : L.size = n) (hi : i < n) (j : Nat) : (L.setIfInBounds i true).getD j false = (decide (j = i) || L.getD j false) := by
  subst hs
  by_cases e : j = i
  · subst e; simp [hi]
  · simp [e, Array.getElem?_setIfInBounds_ne (Ne.symm e)]

/-- Where none is ready any more, all have run (edges lead back). -/
theorem all_run {ops : Array Oper} {L : Array Bool} (hs : L.size = ops.size) (hr : Region.ready .any ops L = []) (hback : ∀ (i : Nat) (o : Oper), ops[i]? = some o → ∀ e ∈ o.after, e.on < i) : ∀ i, i < ops.size → L.getD i false = true := by
  intro i
  induction i using Nat.strongRecOn with
  | _ i ih =>
    intro hi
    cases hb : L.getD i false with
    | true => rfl
    | false =>
      exfalso
      have hlt : i < L.size := by omega
      have hmem : i ∈ Region.ready .any ops L := by
        unfold Region.ready
        simp only [List.mem_filter, List.mem_range, Bool.and_eq_true, Bool.not_eq_true']
        refine ⟨hi, ?_, ?_⟩
        · simp [Array.getD, hlt] at hb ⊢; exact hb
        · rw [Array.getElem?_eq_getElem hi]
          simp only [Option.map_some, Option.getD_some, Array.all_eq_true']
          intro e he
          have h1 := hback i _ (Array.getElem?_eq_getElem hi) e he
          rw [ih e.on h1 (by omega)]
          simp
      rw [hr] at hmem
      cases hmem

def backs (ops : Array Oper) : Bool := (List.range ops.size).all fun i => ((ops[i]?).map fun o => o.after.all fun e => decide (e.on < i)).getD true
theorem backs_spec {ops : Array Oper} (h : backs ops = true) : ∀ (i : Nat) (o : Oper), ops[i]? = some o → ∀ e ∈ o.after, e.on < i := by
  intro i o ho e he
  unfold backs at h
  rw [List.all_eq_true] at h
  have := h i (List.mem_range.2 (Array.getElem?_eq_some_iff.1 ho).1)
  rw [ho] at this
  simp only [Option.map_some, Option.getD_some, Array.all_eq_true'] at this
  simpa using this e he

theorem wp_region_inv {P : Program} {ops : Array Oper} {Q : Exit → Act → World → Prop} {id : Nat} {a : Act} {w : World} (Inv : Array Bool → Act → World → Prop) (hm : P.follows .mixedOrders = true)
    (h0 : Inv (Array.replicate ops.size false) a w.drew)
    (hstep : ∀ listed a w i, listed.size = ops.size → Inv listed a w → i ∈ Region.ready .any ops listed → wpOp P ops Q i (fun a' w' => Inv (listed.setIfInBounds i true) a' w') a w)
    (hend : ∀ listed a w, listed.size = ops.size → Inv listed a w → Region.ready .any ops listed = [] → Q .normal a w) : (Code.region id ops true).wp P Q a w := by
  have key : ∀ (fuel : Nat) (listed : Array Bool) (a : Act) (w : World), listed.size = ops.size → (listed.toList.filter (! ·)).length ≤ fuel → Inv listed a w → wpAny P .any ops Q fuel listed a w := by
    intro fuel
    induction fuel with
    | zero =>
      intro listed a w hs hf hi
      have hr : Region.ready .any ops listed = [] := by
        unfold Region.ready
        rw [List.filter_eq_nil_iff]
        intro i hi' h
        simp only [List.mem_range] at hi'
        simp only [Bool.and_eq_true, Bool.not_eq_true'] at h
        have hlt : i < listed.size := by omega
        have hb : listed.toList[i]? = some false := by
          have h1 := h.1
          simp [Array.getD, hlt] at h1
          simp [hlt, h1]
        have := falses_set listed.toList i hb
        omega
      exact ⟨hr, hend _ _ _ hs hi hr⟩
    | succ fuel ih =>
      intro listed a w hs hf hi
      refine ⟨fun hr => hend _ _ _ hs hi hr, fun i hri => ?_⟩
      have hb : listed.toList[i]? = some false := by
        unfold Region.ready at hri
        simp only [List.mem_filter, List.mem_range, Bool.and_eq_true, Bool.not_eq_true'] at hri
        have hlt : i < listed.size := by omega
        have h1 := hri.2.1
        simp [Array.getD, hlt] at h1
        simp [hlt, h1]
      have hc := falses_set listed.toList i hb
      refine wpOp_mono (fun a' w' h => ih _ a' w' (by simpa using hs) ?_ h) (hstep listed a w i hs hi hri)
      rw [Array.toList_setIfInBounds]; omega
  refine wp_region_any hm (key _ _ a _ (by simp) ?_ h0)
  simp

end Go.Proofs.YthohfbeelepkmaaDoor

/- A drawn region in a round of a range over a function, by an invariant over what has run. -/
namespace Go.Proofs.YthohfbeelepkmaaDoor
open Go.RowKit Go.Shelf

theorem rowsIn_wide {n : Nat} {P : Program} {row : String} {args : Array Value} {w : World} {R : Value → World → Prop} (h : Rows P row args w R) : RowsIn Fence.wide n P row args w R :=
  fun c cs _ => let ⟨v, w', r, s⟩ := h c cs; ⟨v, w', r, stepsIn_wide.2 s⟩

/-- An operation that defers nothing does in a round what it does outside. -/
theorem oper_in {P : Program} {o : Oper} {a : Act} {w : World} {K : Act → World → Prop} {Q : Exit → Act → World → Prop} (l n : Nat) (hnd : ∀ c, o.op ≠ .defer c) (h : o.wp P a w K Q) : o.wpIn (Fence.wide.inRound l) n P a w K Q := by
  refine ⟨fun _ _ => trivial, ?_⟩
  rw [Oper.semAt_eq _ _ _ hnd]
  unfold Oper.wp at h
  generalize (execOp a.eval o).run P w = r at h ⊢
  cases r with
  | ok x w' =>
    cases x with
    | value v => exact h
    | skip => exact h
    | defer d => exact h
    | enter f args => exact ⟨fun hd => by simp [Fence.wide] at hd, CallsIn.inRound l (callsIn_wide.2 h)⟩
    | row r args => exact ⟨fun hd => by simp [Fence.wide] at hd, rowsIn_wide (n := n - 1) h⟩
    | round _ _ _ _ _ => exact h.elim
    | _ => exact h.elim
  | halt x w' =>
    cases x <;> first | exact h | exact (False.elim h)

/-- An operation of a region, none of whose ways asks for more. -/
def wpOpS (P : Program) (ops : Array Oper) (Q : Exit → Act → World → Prop) (i : Nat) (K : Act → World → Prop) (a : Act) (w : World) : Prop :=
  match ops[i]? with
  | none => K a w
  | some o => if Region.wanted o (yielded ops a.tmps) then o.wp P a w K Q else K (a.put o.dst undef) w
theorem wpOpS_step {P : Program} {ops : Array Oper} {Q : Exit → Act → World → Prop} {i : Nat} {o : Oper} {K : Act → World → Prop} {a : Act} {w : World} (ho : ops[i]? = some o)
    (h : ∀ K' : Act → World → Prop, (∀ a w, K a w → K' a w) → if Region.wanted o (yielded ops a.tmps) then o.wp P a w K' Q else K' (a.put o.dst undef) w) : wpOpS P ops Q i K a w := by
  unfold wpOpS
  rw [ho]
  exact h K fun _ _ h => h
theorem wpOpS_mono {P : Program} {ops : Array Oper} {Q : Exit → Act → World → Prop} {i : Nat} {a : Act} {w : World} {K K' : Act → World → Prop} (h : ∀ a w, K a w → K' a w) (hh : wpOpS P ops Q i K a w) : wpOpS P ops Q i K' a w := by
  unfold wpOpS at *
  split
  · exact h _ _ (by simpa [*] using hh)
  · rename_i o ho
    simp only [ho] at hh
    split
    · rename_i hw; simp only [hw, if_true] at hh; exact Oper.wp_mono h hh
    · rename_i hw; simp only [hw] at hh; exact h _ _ (by simpa using hh)
theorem wpOp_in {P : Program} {ops : Array Oper} {Q : Exit → Act → World → Prop} {i : Nat} {K : Act → World → Prop} {a : Act} {w : World} (l n : Nat) (hnd : ∀ o, ops[i]? = some o → ∀ c, o.op ≠ .defer c) (h : wpOpS P ops Q i K a w) :
    wpOpIn (Fence.wide.inRound l) n P ops Q i K a w := by
  unfold wpOpS at h
  unfold wpOpIn
  cases ho : ops[i]? with
  | none => simpa [ho] using h
  | some o =>
    simp only [ho] at h ⊢
    split
    · rename_i hw; simp only [hw, if_true] at h; exact oper_in l n (hnd o ho) h
    · rename_i hw; simp only [hw] at h; exact ⟨fun _ _ => trivial, by simpa using h⟩

def noDefers (ops : Array Oper) : Bool := (List.range ops.size).all fun i => match ops[i]? with | some o => (match o.op with | .defer _ => false | _ => true) | none => true
theorem noDefers_spec {ops : Array Oper} (h : noDefers ops = true) (i : Nat) (o : Oper) (ho : ops[i]? = some o) : ∀ c, o.op ≠ .defer c := by
  intro c hc
  unfold noDefers at h
  rw [List.all_eq_true] at h
  have := h i (List.mem_range.2 (Array.getElem?_eq_some_iff.1 ho).1)
  rw [ho] at this
  simp [hc] at this

theorem wpIn_region_inv {P : Program} {ops : Array Oper} {Q : Exit → Act → World → Prop} {id l n : Nat} {a : Act} {w : World} (Inv : Array Bool → Act → World → Prop) (hm : P.follows .mixedOrders = true) (hnd : noDefers ops = true)
    (h0 : Inv (Array.replicate ops.size false) a w.drew)
    (hstep : ∀ listed a w i, listed.size = ops.size → Inv listed a w → i ∈ Region.ready .any ops listed → wpOpS P ops Q i (fun a' w' => Inv (listed.setIfInBounds i true) a' w') a w)
    (hend : ∀ listed a w, listed.size = ops.size → Inv listed a w → Region.ready .any ops listed = [] → Q .normal a w) : (Code.region id ops true).wpIn (Fence.wide.inRound l) n P Q a w := by
  have key : ∀ (fuel : Nat) (listed : Array Bool) (a : Act) (w : World), listed.size = ops.size → (listed.toList.filter (! ·)).length ≤ fuel → Inv listed a w → wpAnyIn (Fence.wide.inRound l) n P .any ops Q fuel listed a w := by
    intro fuel
    induction fuel with
    | zero =>
      intro listed a w hs hf hi
      have hr : Region.ready .any ops listed = [] := by
        unfold Region.ready
        rw [List.filter_eq_nil_iff]
        intro i hi' h
        simp only [List.mem_range] at hi'
        simp only [Bool.and_eq_true, Bool.not_eq_true'] at h
        have hlt : i < listed.size := by omega
        have hb : listed.toList[i]? = some false := by
          have h1 := h.1
          simp [Array.getD, hlt] at h1
          simp [hlt, h1]
        have := falses_set listed.toList i hb
        omega
      exact ⟨hr, hend _ _ _ hs hi hr⟩
    | succ fuel ih =>
      intro listed a w hs hf hi
      refine ⟨fun hr => hend _ _ _ hs hi hr, fun i hri => ?_⟩
      have hb : listed.toList[i]? = some false := by
        unfold Region.ready at hri
        simp only [List.mem_filter, List.mem_range, Bool.and_eq_true, Bool.not_eq_true'] at hri
        have hlt : i < listed.size := by omega
        have h1 := hri.2.1
        simp [Array.getD, hlt] at h1
        simp [hlt, h1]
      have hc := falses_set listed.toList i hb
      refine wpOpIn_mono (fun a' w' h => ih _ a' w' (by simpa using hs) ?_ h) (wpOp_in l n (noDefers_spec hnd i) (hstep listed a w i hs hi hri))
      rw [Array.toList_setIfInBounds]; omega
  refine wpIn_region_any hm (key _ _ a _ (by simp) ?_ h0)
  simp

end Go.Proofs.YthohfbeelepkmaaDoor
