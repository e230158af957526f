/-
What is proved: dialtonelaw40.AuditHides returns true for every input.
Conditions: none beyond the given statement's own.
-/
import Derived.Test.YthohfbeelepkmaaDoorN5
import Derived.Test.YthohfbeelepkmaaDoorL1
import Derived.Test.YthohfbeelepkmaaDoorCards
import Derived.Test.YthohfbeelepkmaaDoorTie
import Derived.Carry
namespace Go.Proofs.YthohfbeelepkmaaDoor.AuditHides
open Go.ChangeShapes Go.WideShapes Go.ChangeAt Go.RowKit Go.Shelf

theorem rd_of_laid' {W : World} (h : laidMetH Tryd.prog Rows.auditHidesRow.laid W) : Rd W :=
  rd_of_tab (Lib.tabIs_of_head (rest := []) gTab gTabType Tryd.underlying176 Tryd.underlying105 cells105 cells176 h)
/-- A world for the witness: the settled one, block 0 holding the table. -/
noncomputable def laidWorld (os : Os) : World :=
  { World.holding Tryd.prog os ⟨#[], #[], []⟩ with heap := (World.holding Tryd.prog os ⟨#[], #[], []⟩).heap.modify 0 fun
      | .cells _ t frozen => .cells (roundK.map fun n => Value.int .u32 n).toArray t frozen
      | o => o }

theorem bytes3 : Tryd.prog.bytesOf 3 = 8 := by kernel_rfl
/-- The argument []int, opened. -/
theorem open_nums {H : Type} {enc : TypeId × Value → H} {W : World} {v : Value} {d : DataW H} {ps : List MemPlace} (h : DataW.Trod enc Tryd.prog W 0 (fun _ => true) true 33 v d ps) (hv : ∃ a len cap, v = .slice a len cap)
    (hsz : ∀ elems spare, d = .slice elems spare → (elems.length + spare.length) * 8 ≤ reachBytes) : ∃ X : List Int, Ints W v .i64 X ∧ ∀ x ∈ X, I64 x := by
  obtain ⟨a0, l0, cp0, rfl⟩ := hv
  obtain ⟨fuel, hf⟩ := h
  rcases open_ints Tryd.underlying33 Tryd.underlying3 (by kernel_rfl) hf with ⟨hcs, _⟩ | ⟨x, len, cap, zs, hcs, _, hl, hm, hz, hx, hcell, hwz⟩
  · simp [Value.cells] at hcs
    obtain ⟨rfl, rfl, rfl⟩ := hcs
    exact ⟨[], Sl.nil W 1, by simp⟩
  · simp [Value.cells] at hcs
    obtain ⟨rfl, rfl, rfl⟩ := hcs
    simp only [if_true] at hz
    simp only [Prod.mk.injEq] at hx
    have hs := hsz _ _ hx.1
    have hrb : reachBytes = 140737488351232 := by kernel_rfl
    simp only [lits, List.length_map, List.length_take, List.length_drop] at hs
    refine ⟨zs.take l0, ⟨?_, ?_, some x, cp0, ?_, ?_, fun hp => ?_⟩, fun n hn => wf_i64 (hwz n (List.mem_of_mem_take hn))⟩
    · intro y hy
      obtain ⟨q, _, rfl⟩ := List.mem_map.1 hy
      rfl
    · simp only [List.length_map, List.length_take]; omega
    · simp only [List.length_map, List.length_take, Value.slice.injEq, true_and, and_true]; omega
    · simp only [List.length_map, List.length_take]; omega
    · have h0 : 0 < zs.length := by simp only [List.length_map, List.length_take] at hp; omega
      obtain ⟨b, off, spot⟩ := x
      have h00 := hcell 0 h0
      have hspot : spot = none := by simpa [Addr.add] using World.cell?_spot h00
      subst hspot
      refine ⟨b, off, rfl, by rw [addr_add] at h00; exact World.block_lt_of_cell? W _ h00, fun j i y u hy hu => ?_⟩
      simp only [List.getElem?_map, Option.map_eq_some_iff] at hy
      obtain ⟨n, hn, rfl⟩ := hy
      have hi : i = 0 := by
        have := (List.getElem?_eq_some_iff.1 hu).1
        simp at this; omega
      subst hi
      simp at hu
      subst hu
      rw [List.getElem?_take] at hn
      split at hn
      · have hj := (List.getElem?_eq_some_iff.1 hn).1
        have := hcell j hj
        rw [addr_add, List.getD_eq_getElem?_getD, hn] at this
        simpa using this
      · cases hn

set_option maxRecDepth 100000 in
theorem contract (H : Type) (enc : TypeId × Value → H) (W : World) (base : Nat) (args : Array Value) (ds gs : List (DataW H)) (before : List MemPlace)
    (hval : ∀ (j : Nat) t v, Tryd.f7.params[j]? = some t → args[j]? = some v → Value.okWide Tryd.prog W .any base t v)
    (hW : DataW.Whole enc Tryd.prog Tryd.f7.params.toList Rows.auditHidesSpec.vars false W args.toList ds gs before)
    (hsz : (DataW.weightsEach Tryd.prog (Tryd.f7.params.toList ++ (OpenSpec.ofChange Rows.auditHidesSpec).bare.plain.varTypes Tryd.prog) (ds ++ gs)).all (· ≤ reachBytes) = true)
    (hL : laidMetH Tryd.prog Rows.auditHidesRow.laid W) :
    Calls Tryd.prog 7 args W fun e W' => ∃ v, e = .returned v ∧ Rows.auditHidesSpec.post enc Tryd.prog Tryd.f7 false true false false W args v W' := by
  have hW' := hW
  obtain ⟨p, q, hA0, hV, rfl, hfz, hnd⟩ := hW
  have hA : DataW.TrodAll enc Tryd.prog W 0 (fun _ => true) true Tryd.f7.params.toList args.toList ds p := hA0
  rw [Tryd.params7] at hA hval hsz
  obtain ⟨v0, vs0, d0, ds0, p0, q0, hargs, rfl, rfl, h0, r0⟩ := trodAll_cons hA
  obtain ⟨v1, vs1, d1, ds1, p1, q1, rfl, rfl, rfl, h1, r1⟩ := trodAll_cons r0
  obtain ⟨v2, vs2, d2, ds2, p2, q2, rfl, rfl, rfl, h2, r2⟩ := trodAll_cons r1
  obtain ⟨v3, vs3, d3, ds3, p3, q3, rfl, rfl, rfl, h3, r3⟩ := trodAll_cons r2
  obtain ⟨v4, vs4, d4, ds4, p4, q4, rfl, rfl, rfl, h4, r4⟩ := trodAll_cons r3
  obtain ⟨rfl, rfl, rfl⟩ := trodAll_nil r4
  obtain rfl : args = #[v0, v1, v2, v3, v4] := by cases args; simp_all
  obtain ⟨rfl, rfl⟩ := trodVars_none hV
  clear hA0
  obtain ⟨n0, rfl, rfl, rfl, w0⟩ := open_int Tryd.underlying3 (hval 0 3 v0 rfl rfl) h0
  obtain ⟨n3, rfl, rfl, rfl, w3⟩ := open_int Tryd.underlying3 (hval 3 3 v3 rfl rfl) h3
  simp only [List.append_nil, List.nil_append] at hW'
  have h1k := h1
  have hlt1 : ∀ x ∈ p1, x.block < W.heap.size := fun x hx => hW'.lt x (by simp [hx])
  have h2k := h2
  have hlt2 : ∀ x ∈ p2, x.block < W.heap.size := fun x hx => hW'.lt x (by simp [hx])
  have h4k := h4
  have hlt4 : ∀ x ∈ p4, x.block < W.heap.size := fun x hx => hW'.lt x (by simp [hx])
  obtain ⟨X1, hX1, hXok1⟩ := open_fives h1 (okWide_slice Tryd.underlying22 (hval 1 22 v1 rfl rfl)) (fun el sp e => by
    have := sized_slice hsz (j := 1) (t := 22) (e := 68) rfl (by rw [e]; rfl) Tryd.underlying22
    rwa [bytes68] at this) hlt1
  obtain ⟨X2, hX2, hXok2⟩ := open_fives h2 (okWide_slice Tryd.underlying22 (hval 2 22 v2 rfl rfl)) (fun el sp e => by
    have := sized_slice hsz (j := 2) (t := 22) (e := 68) rfl (by rw [e]; rfl) Tryd.underlying22
    rwa [bytes68] at this) hlt2
  obtain ⟨X4, hX4, hXok4⟩ := open_nums h4 (okWide_slice Tryd.underlying33 (hval 4 33 v4 rfl rfl)) (fun el sp e => by
    have := sized_slice hsz (j := 4) (t := 33) (e := 3) rfl (by rw [e]; rfl) Tryd.underlying33
    rwa [bytes3] at this)
  refine (Hides_calls n0 v1 X1 v2 X2 n3 v4 X4 W (wf_i64 w0) hX1 hXok1 hX2 hXok2 (wf_i64 w3) hX4 hXok4 (rd_of_laid' hL)).mono fun e W' ⟨he, hb⟩ => ?_
  subst he
  refine ⟨_, rfl, _, _, _, [], _, [], hW', ?_, trodAll_cons_mk (shut_int Tryd.underlying3 w0) (trodAll_mk4 (Below.trod laidOut (by kernel_rfl) (of_decide_eq_true (by kernel_rfl)) h1k hb hlt1) (Below.trod laidOut (by kernel_rfl) (of_decide_eq_true (by kernel_rfl)) h2k hb hlt2) (shut_int Tryd.underlying3 w3) (Below.trod laidOut (by kernel_rfl) (of_decide_eq_true (by kernel_rfl)) h4k hb hlt4)), rfl, hb.frame _, fun h => by cases h⟩
  exact trodAll_mk1 (shut_bool Tryd.underlying4 _)

theorem laid_met (os : Os) : laidMet Tryd.prog Rows.auditHidesRow.laid ((laidWorld os).forCall (fun _ _ => 0) ⟨#[], #[.int .i64 0, .slice none 0 0, .slice none 0 0, .int .i64 0, .slice none 0 0], []⟩).memory :=
  laidMet_of_run' 8 (by kernel_rfl) (by kernel_rfl)

theorem reads (os : Os) {H : Type} (enc : TypeId × Value → H) : ∃ places, DataW.whole enc Tryd.prog ((laidWorld os).forCall (fun _ _ => 0) ⟨#[], #[.int .i64 0, .slice none 0 0, .slice none 0 0, .int .i64 0, .slice none 0 0], []⟩).memory Tryd.f7.params.toList Rows.auditHidesSpec.vars false #[Value.int .i64 0, Value.slice none 0 0, Value.slice none 0 0, Value.int .i64 0, Value.slice none 0 0].toList 8 = some ([.lit (.int .i64 0), .nil, .nil, .lit (.int .i64 0), .nil], [], places) :=
  ⟨[], by kernel_rfl⟩

set_option maxRecDepth 100000 in
theorem lifted (os : Os) (started : os.Started) (H : Type) (enc : TypeId × Value → H) (F : Stop.Interp) :
    ReturnsInHanded {} Tryd.checked os 7 .any ((OpenSpec.ofChange Rows.auditHidesSpec).preRow enc Tryd.prog Tryd.f7 Rows.auditHidesRow.domain false Rows.auditHidesRow.laid) (((OpenSpec.ofChange Rows.auditHidesSpec).at F).post enc Tryd.prog Tryd.f7 false true false false) := by
  obtain ⟨places, hx⟩ := reads os enc
  refine returnsInHanded_of_row (C := Tryd.checked) (s := OpenSpec.ofChange Rows.auditHidesSpec) own started (by kernel_rfl) Tryd.func7
    (witness_row_at (enc := enc) (C := Tryd.checked) false (laidWorld os) #[.int .i64 0, .slice none 0 0, .slice none 0 0, .int .i64 0, .slice none 0 0] rfl (by kernel_rfl) (by kernel_rfl) (by kernel_rfl)
      (OpenSpec.preRow_of_cond 8 hx (by kernel_rfl) (fun k hk => by cases hk) (by kernel_rfl) (laid_met os))) ?_
  intro W base args ds gs before hval hW _ _ hsz hL _ _
  exact contract H enc W base args ds gs before hval hW hsz hL

theorem said : Rows.AuditHidesSaid :=
  OpenClaim.holds_of_cond 7 Tryd.f7 rfl rfl rfl rfl rfl rfl rfl ⟨rfl, rfl, rfl, rfl, rfl⟩ rfl rfl rfl rfl rfl (by kernel_rfl) Tryd.func7 (by kernel_rfl)
    (of_decide_eq_true (by kernel_rfl)) (by unfold Func.isWrapper; first | (rw [if_pos (by decide +kernel)]; kernel_rfl) | (rw [if_neg (by decide +kernel)]; exact ⟨rfl, rfl⟩))
    (fun os started H enc _ F => by rw [OpenClaim.pre_eq_preRow]; exact lifted os started H enc F)

theorem plain (f : FuncId) (fn : Func) (hf : Tryd.pinned.checked.prog.funcNamed "dialtone/dialtonelaw40.AuditHides" = some f) (hfn : Tryd.pinned.checked.prog.funcs[f]? = some fn) :
    false = Tryd.pinned.checked.prog.looks [] ∧ ∀ (j : Nat) t, fn.params[j]? = some t → Tryd.pinned.checked.prog.wantsStandIn t = false := by
  obtain rfl : f = 7 := Option.some.inj ((show Tryd.prog.funcNamed "dialtone/dialtonelaw40.AuditHides" = some 7 by kernel_rfl).symm.trans hf) |>.symm
  obtain rfl : fn = Tryd.f7 := (Option.some.inj (Tryd.func7.symm.trans hfn)).symm
  refine ⟨by kernel_rfl, fun j t ht => ?_⟩
  rw [Tryd.params7] at ht
  have hm : t ∈ [3, 22, 22, 3, 33] := by simpa using Array.mem_of_getElem? ht
  have hall : ([3, 22, 22, 3, 33].all fun u => !Tryd.prog.wantsStandIn u) = true := by kernel_rfl
  exact (show Tryd.prog.wantsStandIn t = false by simpa using List.all_eq_true.1 hall t hm)

theorem card : Rows.AuditHidesCardSaid :=
  Claim7.holds_tied_plain_at .later [] _ _ _ _ said (fun _ h => by cases h) (by kernel_rfl) (fun _ h => by cases h) auditHides_row_tie rfl ⟨rfl, rfl⟩ (by kernel_rfl) rfl plain (by kernel_rfl)
end Go.Proofs.YthohfbeelepkmaaDoor.AuditHides
namespace Go.Proofs.YthohfbeelepkmaaDoor
/-- The card of the law, under a short name. -/
theorem cardAuditHides : Rows.AuditHidesCardSaid := AuditHides.card
#print axioms cardAuditHides
end Go.Proofs.YthohfbeelepkmaaDoor
