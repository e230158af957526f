/-
What is proved: dialtonelaw40.AuditTotals returns true for every input.
Conditions: none beyond the given statement's own.
-/
import Derived.Test.YthohfbeelepkmaaDoorK1
import Derived.Test.YthohfbeelepkmaaDoorCards
import Derived.Test.YthohfbeelepkmaaDoorTie
import Derived.WalkKit
import Derived.ProofKit
import Derived.OpenShut
import Derived.Deep.Slices
import Derived.Carry
import Derived.SizedLaws
import Derived.Deep.DeepHandedRow
import Derived.Lib.LaidTab
namespace Go.Proofs.YthohfbeelepkmaaDoor
open Go.ChangeShapes Go.WideShapes Go.ChangeAt Go.RowKit Go.Shelf

theorem own : ownKnob Tryd.prog.godebug = none := by kernel_rfl
theorem gTab : Tryd.prog.globalNamed "dialtone/digest.round" = some 0 := by kernel_rfl
theorem gTabType : (Tryd.prog.globals[0]?).map (·.type) = some 176 := by kernel_rfl
theorem cells176 : Tryd.prog.cellsOf 176 = 64 := by kernel_rfl
theorem cells105 : Tryd.prog.cellsOf 105 = 1 := by kernel_rfl
theorem cells68 : Tryd.prog.cellsOf 68 = 5 := by kernel_rfl
theorem cellsOf3 : Tryd.prog.cellsOf 3 = 1 := by kernel_rfl
theorem bytes68 : Tryd.prog.bytesOf 68 = 40 := by kernel_rfl
theorem laidOut : laidOutB Tryd.prog = true := by kernel_rfl

theorem rd_of_tab {W : World} (h : Lib.TabIs Tryd.prog W "dialtone/digest.round" .u32 roundK) : Rd W := by
  unfold Lib.TabIs World.var? at h
  rw [gTab] at h
  simp only [Option.bind_some] at h
  cases ho : W.heap[0]? with
  | none => rw [ho] at h; cases h
  | some o =>
    rw [ho] at h
    cases o with
    | cells cs t f =>
      simp only [Option.some.injEq] at h
      subst h
      exact ⟨t, f, ho⟩
    | _ => cases h
theorem rd_of_laid {W : World} (h : laidMetH Tryd.prog Rows.auditTotalsRow.laid W) : Rd W :=
  rd_of_tab (Lib.tabIs_of_head (rest := []) gTab gTabType Tryd.underlying176 Tryd.underlying105 cells105 cells176 h)

theorem wf_i64 {n : Int} (h : (Lit.int .i64 n).wf = true) : I64 n := by
  have e1 : IntKind.i64.min = -9223372036854775808 := rfl
  have e2 : IntKind.i64.max = 9223372036854775807 := rfl
  simpa [Lit.wf, e1, e2, I64] using h

/-- One array of five numbers, opened. -/
theorem open_five {H : Type} {enc : TypeId × Value → H} {W : World} {base fuel : Nat} {sp : Nat → Bool} {held : Bool} {cs : List Value} {x : DataW H × List MemPlace} (h : DataW.trod enc Tryd.prog W base sp held fuel 68 cs = some x) :
    ∃ q : Five, q.ok ∧ cs = q.cells := by
  obtain ⟨xs, m, _, _, hl, hn, hi⟩ := DataW.trod_array Tryd.underlying68 h
  rw [cells68] at hl
  rw [cellsOf3] at hi
  match cs, hl with
  | [c0, c1, c2, c3, c4], _ =>
    have hx : ∀ i, i < 5 → ∃ d, xs[i]? = some d := fun i hi => ⟨_, List.getElem?_eq_getElem (by omega)⟩
    obtain ⟨d0, e0⟩ := hx 0 (by decide)
    obtain ⟨d1, e1⟩ := hx 1 (by decide)
    obtain ⟨d2, e2⟩ := hx 2 (by decide)
    obtain ⟨d3, e3⟩ := hx 3 (by decide)
    obtain ⟨d4, e4⟩ := hx 4 (by decide)
    obtain ⟨n0, f0, _, g0⟩ := DataW.trod_int Tryd.underlying3 ((hi 0 (by decide)).trans e0)
    obtain ⟨n1, f1, _, g1⟩ := DataW.trod_int Tryd.underlying3 ((hi 1 (by decide)).trans e1)
    obtain ⟨n2, f2, _, g2⟩ := DataW.trod_int Tryd.underlying3 ((hi 2 (by decide)).trans e2)
    obtain ⟨n3, f3, _, g3⟩ := DataW.trod_int Tryd.underlying3 ((hi 3 (by decide)).trans e3)
    obtain ⟨n4, f4, _, g4⟩ := DataW.trod_int Tryd.underlying3 ((hi 4 (by decide)).trans e4)
    simp at f0 f1 f2 f3 f4
    subst f0 f1 f2 f3 f4
    exact ⟨⟨n0, n1, n2, n3, n4⟩, ⟨wf_i64 g0, wf_i64 g1, wf_i64 g2, wf_i64 g3, wf_i64 g4⟩, rfl⟩

theorem addr_add (b o k : Nat) : (⟨b, o, none⟩ : Addr).add k = ⟨b, o + k, none⟩ := by
  unfold Addr.add
  split <;> simp_all

/-- The argument [][5]int, opened. -/
theorem open_fives {H : Type} {enc : TypeId × Value → H} {W : World} {v : Value} {d : DataW H} {ps : List MemPlace} (h : DataW.Trod enc Tryd.prog W 0 (fun _ => true) true 22 v d ps) (hv : ∃ a len cap, v = .slice a len cap)
    (hsz : ∀ elems spare, d = .slice elems spare → (elems.length + spare.length) * 40 ≤ reachBytes) (hlt : ∀ x ∈ ps, x.block < W.heap.size) : ∃ X : List Five, Fives W v X ∧ ∀ q ∈ X, q.ok := by
  obtain ⟨a0, l0, cp0, rfl⟩ := hv
  obtain ⟨fuel, hf⟩ := h
  rcases Go.Deep.open_slice Tryd.underlying22 hf with ⟨hcs, hx⟩ | ⟨a, len, cap, m, n, D, Pl, hcs, _, hl, _, hm, hx, hall⟩
  · simp [Value.cells] at hcs
    obtain ⟨rfl, rfl, rfl⟩ := hcs
    exact ⟨[], Sl.nil W 5, by simp⟩
  · simp [Value.cells] at hcs
    obtain ⟨rfl, rfl, rfl⟩ := hcs
    simp only [if_true] at hm
    simp only [Prod.mk.injEq] at hx
    obtain ⟨hx1, hx2⟩ := hx
    have hs := hsz _ _ hx1
    rw [hx2] at hlt
    rw [List.length_map, List.length_range] at hs
    have hrb : reachBytes = 140737488351232 := by kernel_rfl
    rw [cells68] at hall
    have hone : ∀ i, i < m → ∃ q : Five, q.ok ∧ ∀ j y, q.cells[j]? = some y → W.cell? ((a.add (i * 5)).add j) = some y := fun i hi => by
      obtain ⟨cs', h1, h2⟩ := hall i hi
      obtain ⟨_, hlen, hcell⟩ := World.cells?_some h1
      obtain ⟨q, hq, rfl⟩ := open_five h2
      exact ⟨q, hq, fun j y hj => by rw [hcell j (by have := (List.getElem?_eq_some_iff.1 hj).1; simpa [Five.cells] using this)]; exact hj⟩
    let G : Nat → Five := fun i => if hi : i < m then (hone i hi).choose else ⟨0, 0, 0, 0, 0⟩
    have hG : ∀ i (hi : i < m), (G i).ok ∧ ∀ j y, (G i).cells[j]? = some y → W.cell? ((a.add (i * 5)).add j) = some y := fun i hi => by
      simp only [G, dif_pos hi]
      exact (hone i hi).choose_spec
    refine ⟨(List.range l0).map G, ⟨?_, ?_, some a, cp0, ?_, ?_, fun hp => ?_⟩, ?_⟩
    · intro x hx
      obtain ⟨q, _, rfl⟩ := List.mem_map.1 hx
      rfl
    · simp only [List.length_map, List.length_range]; omega
    · simp
    · simpa using hl
    · have h0 : 0 < l0 := by simpa using hp
      obtain ⟨b, off, spot⟩ := a
      have hspot : spot = none := by simpa [Addr.add] using World.cell?_spot ((hG 0 (by omega)).2 0 _ rfl)
      subst hspot
      refine ⟨b, off, rfl, ?_, fun j i x y hx hy => ?_⟩
      · exact hlt (.cell b off) (List.mem_append_left _ (MemPlace.mem_row.2 ⟨0, by rw [cells68]; omega, by simp⟩))
      · simp only [List.getElem?_map, Option.map_eq_some_iff] at hx
        obtain ⟨q, ⟨k, hk, rfl⟩, rfl⟩ := hx
        have hk2 := List.getElem?_eq_some_iff.1 hk
        obtain ⟨hjl, hje⟩ := hk2
        simp at hjl hje
        subst hje
        have := (hG j (by omega)).2 i y hy
        rw [addr_add, addr_add] at this
        simpa [Nat.add_assoc] using this
    · intro q hq
      obtain ⟨i, hi, rfl⟩ := List.mem_map.1 hq
      exact (hG i (by have := List.mem_range.1 hi; omega)).1

set_option maxRecDepth 100000 in
theorem contract (H : Type) (enc : TypeId × Value → H) (W : World) (base : Nat) (args : Array Value) (ds gs : List (DataW H)) (before : List MemPlace)
    (hval : ∀ (j : Nat) t v, Tryd.f4.params[j]? = some t → args[j]? = some v → Value.okWide Tryd.prog W .any base t v)
    (hW : DataW.Whole enc Tryd.prog Tryd.f4.params.toList Rows.auditTotalsSpec.vars false W args.toList ds gs before)
    (hsz : (DataW.weightsEach Tryd.prog (Tryd.f4.params.toList ++ (OpenSpec.ofChange Rows.auditTotalsSpec).bare.plain.varTypes Tryd.prog) (ds ++ gs)).all (· ≤ reachBytes) = true)
    (hL : laidMetH Tryd.prog Rows.auditTotalsRow.laid W) :
    Calls Tryd.prog 4 args W fun e W' => ∃ v, e = .returned v ∧ Rows.auditTotalsSpec.post enc Tryd.prog Tryd.f4 false true false false W args v W' := by
  have hW' := hW
  obtain ⟨p, q, hA0, hV, rfl, hfz, hnd⟩ := hW
  have hA : DataW.TrodAll enc Tryd.prog W 0 (fun _ => true) true Tryd.f4.params.toList args.toList ds p := hA0
  rw [Tryd.params4] at hA hval hsz
  obtain ⟨v0, vs0, d0, ds0, p0, q0, hargs, rfl, rfl, h0, r0⟩ := trodAll_cons hA
  obtain ⟨v1, vs1, d1, ds1, p1, q1, rfl, rfl, rfl, h1, r1⟩ := trodAll_cons r0
  obtain ⟨rfl, rfl, rfl⟩ := trodAll_nil r1
  obtain rfl : args = #[v0, v1] := by cases args; simp_all
  obtain ⟨rfl, rfl⟩ := trodVars_none hV
  obtain ⟨n0, rfl, rfl, rfl, w0⟩ := open_int Tryd.underlying3 (hval 0 3 v0 rfl rfl) h0
  clear hA0
  simp only [List.append_nil, List.nil_append] at hW'
  have h1k := h1
  have hlt : ∀ x ∈ p1, x.block < W.heap.size := fun x hx => by simpa using hW'.lt x hx
  obtain ⟨X, hX, hXok⟩ := open_fives h1 (okWide_slice Tryd.underlying22 (hval 1 22 v1 rfl rfl)) (fun el sp e => by
    have := sized_slice hsz (j := 1) (t := 22) (e := 68) rfl (by rw [e]; rfl) Tryd.underlying22
    rwa [bytes68] at this) hlt
  refine (Totals_calls n0 v1 X W (wf_i64 w0) hX hXok (rd_of_laid hL)).mono fun e W' ⟨he, hb⟩ => ?_
  subst he
  refine ⟨_, rfl, _, _, _, [], _, [], hW', ?_, trodAll_mk2 (shut_int Tryd.underlying3 w0) (Below.trod laidOut (by kernel_rfl) (of_decide_eq_true (by kernel_rfl)) h1k hb hlt), rfl, hb.frame _, fun h => by cases h⟩
  exact trodAll_mk1 (shut_bool Tryd.underlying4 _)

end Go.Proofs.YthohfbeelepkmaaDoor
