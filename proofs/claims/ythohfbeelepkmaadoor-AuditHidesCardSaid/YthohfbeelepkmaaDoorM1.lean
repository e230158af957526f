/- dialtoneref40: SameCharges. -/
import Derived.Test.YthohfbeelepkmaaDoorD7
namespace Go.Proofs.YthohfbeelepkmaaDoor
open Go.RowKit Go.Shelf

def sameCh (c d : Ch) : Bool := (c.cu == d.cu) && ((c.pa == d.pa) && ((c.pe == d.pe) && ((c.am == d.am) && (c.tx == d.tx))))
theorem sameCh_iff (c d : Ch) : sameCh c d = true ↔ c = d := by
  obtain ⟨a1, a2, a3, a4, a5⟩ := c
  obtain ⟨b1, b2, b3, b4, b5⟩ := d
  simp [sameCh, beq_bytes]
def sameL : List Ch → List Ch → Bool
  | [], [] => true
  | c :: l, d :: m => sameCh c d && sameL l m
  | _, _ => false
theorem sameL_iff : ∀ l m : List Ch, sameL l m = true ↔ l = m
  | [], [] => by simp [sameL]
  | [], d :: m => by simp [sameL]
  | c :: l, [] => by simp [sameL]
  | c :: l, d :: m => by simp [sameL, sameCh_iff, sameL_iff l m]

theorem fields30 : (Tryd.prog.fieldsOf 30).toList.map (fun f => (f.name, f.type, f.offset)) = [("Customer", 3, 0), ("Payer", 3, 1), ("Payee", 3, 2), ("Amount", 3, 3), ("Text", 9, 4)] := by kernel_rfl

theorem eq30 (c d : Ch) (W : World) : (Op.equalIn 10000 30 c.val d.val).run Tryd.prog W = .ok (sameCh c d) W := by
  obtain ⟨a1, a2, a3, a4, a5⟩ := c
  obtain ⟨b1, b2, b3, b4, b5⟩ := d
  unfold Ch.val Ch.cells
  rw [run_equalIn_agg W 9999 30 _ _ (by kernel_rfl) (by kernel_rfl)]
  have hf := fields30
  generalize (Tryd.prog.fieldsOf 30).toList = fs at *
  obtain ⟨f1, f2, f3, f4, f5, rfl⟩ : ∃ f1 f2 f3 f4 f5, fs = [f1, f2, f3, f4, f5] := by
    have hl := congrArg List.length hf
    rw [List.length_map] at hl
    match fs, hl with
    | [f1, f2, f3, f4, f5], _ => exact ⟨f1, f2, f3, f4, f5, rfl⟩
  simp only [List.map_cons, List.map_nil, List.cons.injEq, Prod.mk.injEq, and_true] at hf
  obtain ⟨⟨p1, p2, p3⟩, ⟨q1, q2, q3⟩, ⟨r1, r2, r3⟩, ⟨s1, s2, s3⟩, t1, t2, t3⟩ := hf
  have pt : ∀ (i : Nat) (n : Int) (A : Array Value), A[i]? = some (.int .i64 n) → (part 3 A i).run Tryd.prog W = .ok (.int .i64 n) W := fun i n A h => run_part_plain W (by kernel_rfl) h
  have ps : ∀ (i : Nat) (n : ByteArray) (A : Array Value), A[i]? = some (.string n) → (part 9 A i).run Tryd.prog W = .ok (.string n) W := fun i n A h => run_part_plain W (by kernel_rfl) h
  have ei : ∀ (x y : Int), (Op.equalIn 9999 3 (.int .i64 x) (.int .i64 y)).run Tryd.prog W = .ok (x == y) W := fun x y => run_equalIn_int W 9998 3 .i64 .i64 _ _ Tryd.underlying3
  have es : ∀ (x y : ByteArray), (Op.equalIn 9999 9 (.string x) (.string y)).run Tryd.prog W = .ok (x == y) W := fun x y => by rw [beq_toListBytes]; exact run_equalIn_string W 9998 9 x y Tryd.underlying9
  simp only [Op.eqFields, p1, p2, p3, q1, q2, q3, r1, r2, r3, s1, s2, s3, t1, t2, t3, ne_eq, String.reduceEq, not_false_eq_true, if_true, Sem.run_bind, sameCh]
  have hp1 := pt 0 a1 #[.int .i64 a1, .int .i64 a2, .int .i64 a3, .int .i64 a4, .string a5] rfl
  have hp2 := pt 1 a2 #[.int .i64 a1, .int .i64 a2, .int .i64 a3, .int .i64 a4, .string a5] rfl
  have hp3 := pt 2 a3 #[.int .i64 a1, .int .i64 a2, .int .i64 a3, .int .i64 a4, .string a5] rfl
  have hp4 := pt 3 a4 #[.int .i64 a1, .int .i64 a2, .int .i64 a3, .int .i64 a4, .string a5] rfl
  have hp5 := ps 4 a5 #[.int .i64 a1, .int .i64 a2, .int .i64 a3, .int .i64 a4, .string a5] rfl
  have hq1 := pt 0 b1 #[.int .i64 b1, .int .i64 b2, .int .i64 b3, .int .i64 b4, .string b5] rfl
  have hq2 := pt 1 b2 #[.int .i64 b1, .int .i64 b2, .int .i64 b3, .int .i64 b4, .string b5] rfl
  have hq3 := pt 2 b3 #[.int .i64 b1, .int .i64 b2, .int .i64 b3, .int .i64 b4, .string b5] rfl
  have hq4 := pt 3 b4 #[.int .i64 b1, .int .i64 b2, .int .i64 b3, .int .i64 b4, .string b5] rfl
  have hq5 := ps 4 b5 #[.int .i64 b1, .int .i64 b2, .int .i64 b3, .int .i64 b4, .string b5] rfl
  simp only [hp1, hq1, Result.andThen_ok, ei, Sem.run_bind]
  cases (a1 == b1)
  · simp
  simp only [Bool.not_true, Bool.true_and, if_false, Bool.false_eq_true, Sem.run_bind, hp2, hq2, Result.andThen_ok, ei]
  cases (a2 == b2)
  · simp
  simp only [Bool.not_true, Bool.true_and, if_false, Bool.false_eq_true, Sem.run_bind, hp3, hq3, Result.andThen_ok, ei]
  cases (a3 == b3)
  · simp
  simp only [Bool.not_true, Bool.true_and, if_false, Bool.false_eq_true, Sem.run_bind, hp4, hq4, Result.andThen_ok, ei]
  cases (a4 == b4)
  · simp
  simp only [Bool.not_true, Bool.true_and, if_false, Bool.false_eq_true, Sem.run_bind, hp5, hq5, Result.andThen_ok, es]
  cases (a5 == b5)
  · simp
  · simp [Op.eqFields]

set_option maxHeartbeats 1000000 in
set_option maxRecDepth 100000 in
theorem SameCharges_calls (v u : Value) (l m : List Ch) (w : World) (hv : Chs w v l) (hu : Chs w u m) :
    Calls Tryd.prog 32 #[v, u] w fun e w' => e = .returned (.bool (sameL l m)) ∧ Below w.heap.size w w' := by
  obtain ⟨hlen, A, cap, rfl, hcap, hat⟩ := hv.open_
  obtain ⟨hlen2, A2, cap2, rfl, hcap2, hat2⟩ := hu.open_
  have hlt0 : l.length < 9223372036854775808 := by omega
  have hlt1 : m.length < 9223372036854775808 := by omega
  clear hv hu
  by_cases hlm : l.length = m.length
  · rw [← hlm]
    go_enter Tryd.func32, Tryd.ntmps32
    go_wp2
    go_loopw [5] (fun s5 wr => ∃ k : Nat, k ≤ l.length ∧ s5 = .int .i64 k ∧ Aside (Below w.heap.size w wr ∧ l.take k = m.take k)) (fun s5 _ => l.length - (intOf s5).toNat)
    case atStart => exact ⟨0, Nat.zero_le _, rfl, Below.refl _ _, rfl⟩
    case round =>
      obtain ⟨k, hk, rfl, hB⟩ := hrel
      by_cases hlt : k < l.length
      · obtain ⟨b, off, rfl, hb1, c0, c1, c2, c3, c4⟩ := hat k hlt
        obtain ⟨b2, off2, rfl, hb2, d0, d1, d2, d3, d4⟩ := hat2 k (by omega)
        have hBb := hB.out.1
        replace c0 := (hBb.cell (p := ⟨b, _, none⟩) hb1).trans c0
        replace c1 := (hBb.cell (p := ⟨b, _, none⟩) hb1).trans c1
        replace c2 := (hBb.cell (p := ⟨b, _, none⟩) hb1).trans c2
        replace c3 := (hBb.cell (p := ⟨b, _, none⟩) hb1).trans c3
        replace c4 := (hBb.cell (p := ⟨b, _, none⟩) hb1).trans c4
        replace d0 := (hBb.cell (p := ⟨b2, _, none⟩) hb2).trans d0
        replace d1 := (hBb.cell (p := ⟨b2, _, none⟩) hb2).trans d1
        replace d2 := (hBb.cell (p := ⟨b2, _, none⟩) hb2).trans d2
        replace d3 := (hBb.cell (p := ⟨b2, _, none⟩) hb2).trans d3
        replace d4 := (hBb.cell (p := ⟨b2, _, none⟩) hb2).trans d4
        have hlk : l[k]? = some l[k] := List.getElem?_eq_getElem hlt
        have hmk : m[k]? = some m[k] := List.getElem?_eq_getElem (by omega)
        have HLK := Lib.hid hlk
        have HMK := Lib.hid hmk
        clear hlk hmk hBb
        clear hat hat2
        have hEQ := eq30 l[k] m[k]
        have hss := sameCh_iff l[k] m[k]
        have HSS := Lib.hid hss
        clear hss
        generalize l[k] = c at *
        generalize m[k]'(by omega) = d at *
        obtain ⟨x0, x1, x2, x3, x4⟩ := c
        obtain ⟨y0, y1, y2, y3, y4⟩ := d
        dsimp only [Ch.val, Ch.cells] at c0 c1 c2 c3 c4 d0 d1 d2 d3 d4 hEQ
        have k0 : (0 : Int) ≤ (k : Int) := by omega
        have hGD : Tryd.prog.eqGuardType Tryd.prog.depth 30 = false := by kernel_rfl
        generalize hbb : sameCh ⟨x0, x1, x2, x3, x4⟩ ⟨y0, y1, y2, y3, y4⟩ = bb at hEQ
        have HBB := Lib.hid hbb
        clear hbb
        go_wp2_with fail
        go_quiet (fail)
        have hB1 := below_drewN hB.out.1 nq
        generalize wr.drewN nq = W1 at *
        clear c0 c1 c2 c3 c4 d0 d1 d2 d3 d4 hEQ
        cases bb with
        | true =>
          have hcd := HSS.out.1 HBB.out
          have htk : l.take (k + 1) = m.take (k + 1) := by
            rw [List.take_add_one, List.take_add_one, HLK.out, HMK.out, hB.out.2, hcd]
          have HT := Lib.hid htk
          clear htk hcd HLK HMK
          go_wp2
          go_roundw
          case measure => simp [intOf]; omega
          case rel => exact ⟨k + 1, by omega, by go_num, hB1, HT.out⟩
        | false =>
          have hne : sameL l m = false := by
            cases hh : sameL l m with
            | false => rfl
            | true =>
              have e := (sameL_iff l m).1 hh
              subst e
              have := HLK.out.symm.trans HMK.out
              simp only [Option.some.injEq] at this
              have h2 := HSS.out.2 this
              rw [HBB.out] at h2; cases h2
          have HNE := Lib.hid hne
          clear hne
          go_wp2
          go_ret
          exact ⟨by rw [HNE.out]; rfl, hB1⟩
      · have hkl : k = l.length := by omega
        subst hkl
        clear hat hat2
        have he : sameL l m = true := by
          refine (sameL_iff l m).2 ?_
          have := hB.out.2
          rwa [List.take_length, hlm, List.take_length] at this
        have HE := Lib.hid he
        clear he
        go_wp2
        go_ret
        exact ⟨by rw [HE.out]; rfl, hB.out.1⟩
  · have he : sameL l m = false := by
      cases hh : sameL l m with
      | false => rfl
      | true => exact absurd (congrArg List.length ((sameL_iff l m).1 hh)) hlm
    rw [he]
    have hli : (l.length : Int) ≠ (m.length : Int) := by omega
    clear hat hat2
    go_enter Tryd.func32, Tryd.ntmps32
    go_wp2
    go_ret
    exact ⟨rfl, Below.refl _ _⟩

end Go.Proofs.YthohfbeelepkmaaDoor
