/- dialtonelaw40.AuditHides: the walk. -/
import Derived.Test.YthohfbeelepkmaaDoorN2
import Derived.Test.YthohfbeelepkmaaDoorN3
import Derived.Test.YthohfbeelepkmaaDoorN4
namespace Go.Proofs.YthohfbeelepkmaaDoor
open Go.RowKit Go.Shelf

set_option maxHeartbeats 40000000 in
set_option maxRecDepth 100000 in
theorem Hides_calls (key : Int) (v : Value) (X : List Five) (v2 : Value) (Y : List Five) (customer : Int) (v4 : Value) (T : List Int) (w : World) (hkey : I64 key) (hv : Fives w v X) (hX : ∀ q ∈ X, q.ok) (hv2 : Fives w v2 Y) (hY : ∀ q ∈ Y, q.ok) (hcu : I64 customer) (hv4 : Ints w v4 .i64 T) (hT : ∀ t ∈ T, I64 t) (hRd : Rd w) :
    Calls Tryd.prog 7 #[.int .i64 key, v, v2, .int .i64 customer, v4] w fun e w' => e = .returned (.bool true) ∧ Below w.heap.size w w' := by
  have hS := fun W (h : Below w.heap.size w W) => sane_calls W (hRd.below h)
  have hM := fun W (h : Below w.heap.size w W) => Made_calls key v X W hkey (hv.below h) hX
  have hval := madeValid key X
  have hok := madeL_ok X
  have hlen : (madeL X).length ≤ 10 := by simp [madeL]; omega
  have hpl := pickI_bound customer 8 (by decide)
  have hPk := fun W => pickLaw_calls customer 8 W hcu.1 hcu.2 (by decide) (by decide)
  obtain ⟨m, hm⟩ := Int.eq_ofNat_of_zero_le hpl.1
  rw [hm] at hPk hpl
  have hm8 : m < 8 := by omega
  clear hm hpl hcu
  generalize keyL key = KB at *
  generalize madeL X = l at *
  obtain ⟨_, hlY, AY, cY, rfl, hcY, hatY⟩ := id hv2
  rw [List.length_map] at hlY hcY
  rw [List.length_map]
  obtain ⟨hlT, AT, cT, rfl, hcT, hatT⟩ := hv4.openD
  have HOK := Lib.hid hok
  have HVAL := Lib.hid hval
  have HRD := Lib.hid hRd
  have HM := Lib.hid hM
  have HLEN := Lib.hid hlen
  have HM8 := Lib.hid hm8
  have HS := Lib.hid hS
  have HPK := Lib.hid hPk
  have HATY := Lib.hid hatY
  have HATT := Lib.hid hatT
  have HTT := Lib.hid hT
  have HYY := Lib.hid hY
  have HLY := Lib.hid hlY
  have HLT := Lib.hid hlT
  clear hok hval hRd hM hlen hm8 hS hPk hatY hatT hT hY hv hX hkey hv2 hv4 hlY hlT hcY hcT
  go_enter Tryd.func7, Tryd.ntmps7
  go_wp2_with fail
  refine (HS.out w (Below.refl _ _)).mono ?_
  rintro e w1 ⟨rfl, hb1⟩
  have HB1 := Lib.hid hb1
  clear hb1
  go_wp2_with fail
  refine (HM.out w1 HB1.out).mono ?_
  rintro e w2 ⟨A, n, c, rfl, hC, hb2⟩
  obtain ⟨_, cc, ecc⟩ := hC.slice
  simp only [Value.slice.injEq] at ecc
  obtain ⟨rfl, rfl, rfl⟩ := ecc
  obtain ⟨W2, hW2⟩ : ∃ W2, W2 = w2.alloc (.cells #[.string KB, .slice A l.length c] 26) := ⟨_, rfl⟩
  have HB2 := Lib.hid (show Below w.heap.size w W2 by rw [hW2]; exact below_alloc (below_then HB1.out hb2) _)
  have HG12 : Hid (W2.heap[w2.heap.size]? = some (.cells #[.string KB, .slice A l.length c] 26 (0, 0))) := Lib.hid (by rw [hW2]; exact heap_new w2 _)
  have HC2 : Hid (Chs W2 (.slice A l.length c) l) := Lib.hid (by rw [hW2]; exact hC.below (below_one w2 _))
  have HZ2 : Hid (w2.heap.size + 1 = W2.heap.size) := Lib.hid (by rw [hW2]; simp)
  have HW2 := Lib.hid hW2
  clear hW2 hC hb2
  go_wp2_with fail
  rw [← HW2.out] at *
  refine (HPK.out W2).mono ?_
  rintro e w3 ⟨rfl, rfl⟩
  have k0 := (box_cell HG12.out).1
  have k1 := cellA k0 (.cells #[.string KB, .slice none 0 0] 26)
  have k2 := cellA k1 (.cells #[.string KB, .slice none 0 0] 26)
  obtain ⟨_, A', cap', e', hcap', hat⟩ := HC2.out.open_
  simp only [Value.slice.injEq] at e'
  obtain ⟨rfl, -, rfl⟩ := e'
  have HATL := Lib.hid hat
  clear hat hcap'
  obtain ⟨W6, hW6⟩ : ∃ W6, W6 = ((W2.alloc (.cells #[.string KB, .slice none 0 0] 26)).alloc (.cells #[.string KB, .slice none 0 0] 26)).alloc (.cells #[.string KB, .slice none 0 0] 26) := ⟨_, rfl⟩
  have HBX6 : Hid (Boxes KB W6 [(W2.heap.size, .slice none 0 0), (W2.heap.size + 1, .slice none 0 0), (W2.heap.size + 1 + 1, .slice none 0 0)]) := Lib.hid (by
    rw [hW6]
    intro p hp
    simp only [List.mem_cons, List.not_mem_nil, or_false] at hp
    rcases hp with rfl | rfl | rfl
    · rw [Below.heap_alloc _ _ _ (by simp only [World.size_alloc]; omega), Below.heap_alloc _ _ _ (by simp only [World.size_alloc]; omega)]; exact heap_new W2 _
    · rw [Below.heap_alloc _ _ _ (by simp only [World.size_alloc]; omega)]
      have := heap_new (W2.alloc (.cells #[.string KB, .slice none 0 0] 26)) (.cells #[.string KB, .slice none 0 0] 26)
      rwa [World.size_alloc] at this
    · have := heap_new ((W2.alloc (.cells #[.string KB, .slice none 0 0] 26)).alloc (.cells #[.string KB, .slice none 0 0] 26)) (.cells #[.string KB, .slice none 0 0] 26)
      rwa [World.size_alloc, World.size_alloc] at this)
  have HB6 : Hid (Below W2.heap.size W2 W6) := Lib.hid (by rw [hW6]; exact below_alloc (below_alloc (below_one W2 _) _) _)
  have HW6 := Lib.hid hW6
  clear hW6
  go_wp2_with fail
  rw [← HW6.out]
  clear k0 k1 k2 HW2 HW6
  go_loopw [17, 18] (fun s17 s18 wr => ∃ (k : Nat) (v14 v15 v16 : Value), k ≤ l.length ∧ s18 = .int .i64 k ∧ Aside (Boxes KB wr [(W2.heap.size, v14), (W2.heap.size + 1, v15), (W2.heap.size + 1 + 1, v16)]) ∧ Aside (Owns W2.heap.size wr [(s17, othL m (l.take k)), (v14, ofL (l.take k) m), (v15, ofL (l.take k) m), (v16, silL m T 0 (l.take k))]) ∧ Aside (Below W2.heap.size W2 wr)) (fun _ s18 _ => l.length - (intOf s18).toNat)
  case atStart => exact ⟨0, _, _, _, Nat.zero_le _, rfl, HBX6.out, ⟨by simp only [List.mem_cons, List.not_mem_nil, or_false, forall_eq_or_imp, forall_eq]; exact ⟨Row.nil _ _, Row.nil _ _, Row.nil _ _, Row.nil _ _⟩, by simp [Ap.nil]⟩, HB6.out⟩
  case round =>
    obtain ⟨k, v14, v15, v16, hk, rfl, hBx, hO, hB⟩ := hrel
    have hlt12 : w2.heap.size < W2.heap.size := by have := HZ2.out; omega
    obtain ⟨k120, k121, _⟩ := box_cell ((hB.out.block _ hlt12).trans HG12.out)
    by_cases hlt : k < l.length
    · obtain ⟨b, off, rfl, hb, c0, c1, c2, c3, c4⟩ := HATL.out k hlt
      replace c0 := (hB.out.cell (p := ⟨b, _, none⟩) hb).trans c0
      replace c1 := (hB.out.cell (p := ⟨b, _, none⟩) hb).trans c1
      replace c2 := (hB.out.cell (p := ⟨b, _, none⟩) hb).trans c2
      replace c3 := (hB.out.cell (p := ⟨b, _, none⟩) hb).trans c3
      replace c4 := (hB.out.cell (p := ⟨b, _, none⟩) hb).trans c4
      have HTK := Lib.hid (take_succ_snoc l k hlt)
      generalize l[k] = ch at *
      obtain ⟨d0, d1, d2, d3, d4⟩ := ch
      dsimp only at c0 c1 c2 c3 c4
      have HLK := Lib.hid (show (l.take k).length = k by simp; omega)
      have HL10 := Lib.hid (show (l.take k).length ≤ 1000 by have := HLEN.out; simp; omega)
      have HLE1 : Hid ((ofL (l.take k) (m : Int)).length ≤ 1000) := Lib.hid (Nat.le_trans (List.length_filter_le _ _) HL10.out)
      have HLE2 := HLE1
      have HLE3 : Hid ((silL m T 0 (l.take k)).length ≤ 1000) := Lib.hid (by rw [silL_length]; exact HL10.out)
      have HLE4 : Hid ((othL m (l.take k)).length ≤ 1000) := Lib.hid (Nat.le_trans (List.length_filter_le _ _) HL10.out)
      have HLE5 := HLE3
      generalize l.take k = tk at *
      obtain ⟨W7, hW7⟩ : ∃ W7, W7 = wr.alloc (.cells #[.int .i64 d0, .int .i64 d1, .int .i64 d2, .int .i64 d3, .string d4] 30) := ⟨_, rfl⟩
      have HBXW7 : Hid (Boxes KB W7 [(W2.heap.size, v14), (W2.heap.size + 1, v15), (W2.heap.size + 1 + 1, v16)]) := Lib.hid (by rw [hW7]; exact hBx.out.below (below_one wr _))
      have HOW7 : Hid (Owns W2.heap.size W7 [(u17, othL m tk), (v14, ofL tk m), (v15, ofL tk m), (v16, silL m T 0 tk)]) := Lib.hid (by rw [hW7]; exact hO.out.below (below_one wr _))
      have H19W7 : Hid (W7.heap[wr.heap.size]? = some (chObj ⟨d0, d1, d2, d3, d4⟩)) := Lib.hid (by rw [hW7]; exact heap_new wr _)
      have HOFFW7 : Hid (∀ p ∈ [(u17, othL m tk), (v14, ofL tk m), (v15, ofL tk m), (v16, silL m T 0 tk)], p.1.ownBlock ≠ some wr.heap.size) := Lib.hid (fun p hp e => by have := (ownsRow_lt (hO.out.1 p hp) e).2.1; omega)
      have HBW7 : Hid (Below W2.heap.size W2 W7) := Lib.hid (by rw [hW7]; exact hB.out.trans ((below_one wr _).mono hB.out.size))
      have HNW7 : Hid (W2.heap.size ≤ W7.heap.size) := Lib.hid HBW7.out.size
      have HWR := Lib.hid (show W2.heap.size ≤ wr.heap.size from hB.out.size)
      have HW7 := Lib.hid hW7
      clear hW7 hBx hO hB hlt12
      go_upto_region 14 with (fail)
      rw [← HW7.out]
      clear c0 c1 c2 c3 c4 k120 k121 HW7 hb
      by_cases hown : d0 = (m : Int)
      · obtain rfl := hown
        obtain ⟨_, kb1, _⟩ := box_cell (HBXW7.out (W2.heap.size, v14) (by simp))
        obtain ⟨e0, e1, e2, e3, e4, e5⟩ := ch_cell H19W7.out
        have HOa1 := Lib.hid (HOW7.out.below (below_one W7 (.cells #[.int .i64 (m : Int), .int .i64 d1, .int .i64 d2, .int .i64 d3, .string d4] 30)))
        have Hn1 : Hid ((W7.alloc (.cells #[.int .i64 (m : Int), .int .i64 d1, .int .i64 d2, .int .i64 d3, .string d4] 30)).heap[W7.heap.size]? = some (.cells (Ch.cells (⟨(m : Int), d1, d2, d3, d4⟩ : Ch)).toArray 30 (0, 0))) := Lib.hid (heap_new W7 _)
        go_wp2_with (at_builtin; refine wpList_app_ch _ rfl (.tmp 65) (.tmp 67) rfl W2.heap.size (S := [(u17, othL m tk)]) (T := [(v15, ofL tk m), (v16, silL m T 0 tk)]) (v := v14) (L := ofL tk m) (⟨(m : Int), d1, d2, d3, d4⟩ : Ch) W7.heap.size HOa1.out rfl rfl Hn1.out ?c1 ?d1 ?_)
        case c1 => exact HLE1.out
        case d1 => have := HNW7.out; first | omega | (rw [World.size_alloc]; omega)
        intro v14n w8 hO1 hgr1 hv1
        obtain ⟨Av1, Nv1, cv1, rfl⟩ : ∃ A N c, v14n = .slice A N c := by obtain ⟨A, c, e⟩ := (hO1.1 (v14n, ofL tk m ++ [(⟨(m : Int), d1, d2, d3, d4⟩ : Ch)]) (by simp)).slice; exact ⟨A, _, c, e⟩
        obtain ⟨⟨qa1, qb1⟩, hx1, hx2, hx3, hx4, hx5, hx6⟩ := app_step (B := []) (C := [(W2.heap.size + 1, v15), (W2.heap.size + 1 + 1, v16)]) (S := [(u17, othL m tk)]) (T := [(v15, ofL tk m), (v16, silL m T 0 tk)]) (v := v14) (L := ofL tk m) (.cells #[.int .i64 (m : Int), .int .i64 d1, .int .i64 d2, .int .i64 d3, .string d4] 30) HBXW7.out (by intro p hp; simp at hp; rcases hp with rfl | rfl <;> simp <;> omega) HOW7.out H19W7.out HOFFW7.out HNW7.out (by omega) HBW7.out hO1 hgr1 (by rw [World.size_alloc]; exact hv1)
        obtain ⟨W9, hWn⟩ : ∃ W, W = w8.setCell ⟨W2.heap.size, 1, none⟩ (.slice Av1 Nv1 cv1) := ⟨_, rfl⟩
        rw [← hWn] at hx1 hx2 hx3 hx5 hx6
        have HBXW9 : Hid (Boxes KB W9 [(W2.heap.size, (.slice Av1 Nv1 cv1)), (W2.heap.size + 1, v15), (W2.heap.size + 1 + 1, v16)]) := Lib.hid hx1
        have HOW9 : Hid (Owns W2.heap.size W9 [(u17, othL m tk), ((.slice Av1 Nv1 cv1), ofL tk m ++ [(⟨(m : Int), d1, d2, d3, d4⟩ : Ch)]), (v15, ofL tk m), (v16, silL m T 0 tk)]) := Lib.hid hx2
        have H19W9 : Hid (W9.heap[wr.heap.size]? = some (chObj (⟨(m : Int), d1, d2, d3, d4⟩ : Ch))) := Lib.hid hx3
        have HOFFW9 : Hid (∀ p ∈ [(u17, othL m tk), ((.slice Av1 Nv1 cv1), ofL tk m ++ [(⟨(m : Int), d1, d2, d3, d4⟩ : Ch)]), (v15, ofL tk m), (v16, silL m T 0 tk)], p.1.ownBlock ≠ some (wr.heap.size)) := Lib.hid hx4
        have HBW9 := Lib.hid hx5
        have HNW9 : Hid (W2.heap.size ≤ W9.heap.size) := Lib.hid (Nat.le_trans HNW7.out hx6)
        have HWN := Lib.hid hWn
        clear kb1 e0 e1 e2 e3 e4 e5 HOa1 Hn1 hO1 hgr1 hv1 hx1 hx2 hx3 hx4 hx5 hx6 hWn HBXW7 HOW7 H19W7 HOFFW7 HBW7
        go_upto_region 16 with (fail)
        rw [← HWN.out]
        clear HWN qa1 qb1
        obtain ⟨_, kb2, _⟩ := box_cell (HBXW9.out (W2.heap.size + 1, v15) (by simp))
        obtain ⟨e0, e1, e2, e3, e4, e5⟩ := ch_cell H19W9.out
        have HOa2 := Lib.hid (HOW9.out.below (below_one W9 (.cells #[.int .i64 (m : Int), .int .i64 d1, .int .i64 d2, .int .i64 d3, .string d4] 30)))
        have Hn2 : Hid ((W9.alloc (.cells #[.int .i64 (m : Int), .int .i64 d1, .int .i64 d2, .int .i64 d3, .string d4] 30)).heap[W9.heap.size]? = some (.cells (Ch.cells (⟨(m : Int), d1, d2, d3, d4⟩ : Ch)).toArray 30 (0, 0))) := Lib.hid (heap_new W9 _)
        go_wp2_with (at_builtin; refine wpList_app_ch _ rfl (.tmp 71) (.tmp 73) rfl W2.heap.size (S := [(u17, othL m tk), ((.slice Av1 Nv1 cv1), ofL tk m ++ [(⟨(m : Int), d1, d2, d3, d4⟩ : Ch)])]) (T := [(v16, silL m T 0 tk)]) (v := v15) (L := ofL tk m) (⟨(m : Int), d1, d2, d3, d4⟩ : Ch) W9.heap.size HOa2.out rfl rfl Hn2.out ?c2 ?d2 ?_)
        case c2 => exact HLE2.out
        case d2 => have := HNW9.out; first | omega | (rw [World.size_alloc]; omega)
        intro v15n w10 hO2 hgr2 hv2
        obtain ⟨Av2, Nv2, cv2, rfl⟩ : ∃ A N c, v15n = .slice A N c := by obtain ⟨A, c, e⟩ := (hO2.1 (v15n, ofL tk m ++ [(⟨(m : Int), d1, d2, d3, d4⟩ : Ch)]) (by simp)).slice; exact ⟨A, _, c, e⟩
        obtain ⟨⟨qa2, qb2⟩, hx1, hx2, hx3, hx4, hx5, hx6⟩ := app_step (B := [(W2.heap.size, (.slice Av1 Nv1 cv1))]) (C := [(W2.heap.size + 1 + 1, v16)]) (S := [(u17, othL m tk), ((.slice Av1 Nv1 cv1), ofL tk m ++ [(⟨(m : Int), d1, d2, d3, d4⟩ : Ch)])]) (T := [(v16, silL m T 0 tk)]) (v := v15) (L := ofL tk m) (.cells #[.int .i64 (m : Int), .int .i64 d1, .int .i64 d2, .int .i64 d3, .string d4] 30) HBXW9.out (by intro p hp; simp at hp; rcases hp with rfl | rfl <;> simp <;> omega) HOW9.out H19W9.out HOFFW9.out HNW9.out (by omega) HBW9.out hO2 hgr2 (by rw [World.size_alloc]; exact hv2)
        obtain ⟨W11, hWn⟩ : ∃ W, W = w10.setCell ⟨W2.heap.size + 1, 1, none⟩ (.slice Av2 Nv2 cv2) := ⟨_, rfl⟩
        rw [← hWn] at hx1 hx2 hx3 hx5 hx6
        have HBXW11 : Hid (Boxes KB W11 [(W2.heap.size, (.slice Av1 Nv1 cv1)), (W2.heap.size + 1, (.slice Av2 Nv2 cv2)), (W2.heap.size + 1 + 1, v16)]) := Lib.hid hx1
        have HOW11 : Hid (Owns W2.heap.size W11 [(u17, othL m tk), ((.slice Av1 Nv1 cv1), ofL tk m ++ [(⟨(m : Int), d1, d2, d3, d4⟩ : Ch)]), ((.slice Av2 Nv2 cv2), ofL tk m ++ [(⟨(m : Int), d1, d2, d3, d4⟩ : Ch)]), (v16, silL m T 0 tk)]) := Lib.hid hx2
        have H19W11 : Hid (W11.heap[wr.heap.size]? = some (chObj (⟨(m : Int), d1, d2, d3, d4⟩ : Ch))) := Lib.hid hx3
        have HOFFW11 : Hid (∀ p ∈ [(u17, othL m tk), ((.slice Av1 Nv1 cv1), ofL tk m ++ [(⟨(m : Int), d1, d2, d3, d4⟩ : Ch)]), ((.slice Av2 Nv2 cv2), ofL tk m ++ [(⟨(m : Int), d1, d2, d3, d4⟩ : Ch)]), (v16, silL m T 0 tk)], p.1.ownBlock ≠ some (wr.heap.size)) := Lib.hid hx4
        have HBW11 := Lib.hid hx5
        have HNW11 : Hid (W2.heap.size ≤ W11.heap.size) := Lib.hid (Nat.le_trans HNW9.out hx6)
        have HWN := Lib.hid hWn
        clear kb2 e0 e1 e2 e3 e4 e5 HOa2 Hn2 hO2 hgr2 hv2 hx1 hx2 hx3 hx4 hx5 hx6 hWn HBXW9 HOW9 H19W9 HOFFW9 HBW9
        go_upto_region 20 with (fail)
        rw [← HWN.out]
        clear HWN qa2 qb2
        obtain ⟨_, kb3, _⟩ := box_cell (HBXW11.out (W2.heap.size + 1 + 1, v16) (by simp))
        obtain ⟨e0, e1, e2, e3, e4, e5⟩ := ch_cell H19W11.out
        have HOa3 := Lib.hid (HOW11.out.below (below_one W11 (.cells #[.int .i64 (m : Int), .int .i64 d1, .int .i64 d2, .int .i64 d3, .string d4] 30)))
        have Hn3 : Hid ((W11.alloc (.cells #[.int .i64 (m : Int), .int .i64 d1, .int .i64 d2, .int .i64 d3, .string d4] 30)).heap[W11.heap.size]? = some (.cells (Ch.cells (⟨(m : Int), d1, d2, d3, d4⟩ : Ch)).toArray 30 (0, 0))) := Lib.hid (heap_new W11 _)
        go_wp2_with (at_builtin; refine wpList_app_ch _ rfl (.tmp 94) (.tmp 96) rfl W2.heap.size (S := [(u17, othL m tk), ((.slice Av1 Nv1 cv1), ofL tk m ++ [(⟨(m : Int), d1, d2, d3, d4⟩ : Ch)]), ((.slice Av2 Nv2 cv2), ofL tk m ++ [(⟨(m : Int), d1, d2, d3, d4⟩ : Ch)])]) (T := []) (v := v16) (L := silL m T 0 tk) (⟨(m : Int), d1, d2, d3, d4⟩ : Ch) W11.heap.size HOa3.out rfl rfl Hn3.out ?c3 ?d3 ?_)
        case c3 => exact HLE3.out
        case d3 => have := HNW11.out; first | omega | (rw [World.size_alloc]; omega)
        intro v16n w12 hO3 hgr3 hv3
        obtain ⟨Av3, Nv3, cv3, rfl⟩ : ∃ A N c, v16n = .slice A N c := by obtain ⟨A, c, e⟩ := (hO3.1 (v16n, silL m T 0 tk ++ [(⟨(m : Int), d1, d2, d3, d4⟩ : Ch)]) (by simp)).slice; exact ⟨A, _, c, e⟩
        obtain ⟨⟨qa3, qb3⟩, hx1, hx2, hx3, hx4, hx5, hx6⟩ := app_step (B := [(W2.heap.size, (.slice Av1 Nv1 cv1)), (W2.heap.size + 1, (.slice Av2 Nv2 cv2))]) (C := []) (S := [(u17, othL m tk), ((.slice Av1 Nv1 cv1), ofL tk m ++ [(⟨(m : Int), d1, d2, d3, d4⟩ : Ch)]), ((.slice Av2 Nv2 cv2), ofL tk m ++ [(⟨(m : Int), d1, d2, d3, d4⟩ : Ch)])]) (T := []) (v := v16) (L := silL m T 0 tk) (.cells #[.int .i64 (m : Int), .int .i64 d1, .int .i64 d2, .int .i64 d3, .string d4] 30) HBXW11.out (by intro p hp; simp at hp; rcases hp with rfl | rfl <;> simp <;> omega) HOW11.out H19W11.out HOFFW11.out HNW11.out (by omega) HBW11.out hO3 hgr3 (by rw [World.size_alloc]; exact hv3)
        obtain ⟨W13, hWn⟩ : ∃ W, W = w12.setCell ⟨W2.heap.size + 1 + 1, 1, none⟩ (.slice Av3 Nv3 cv3) := ⟨_, rfl⟩
        rw [← hWn] at hx1 hx2 hx3 hx5 hx6
        have HBXW13 : Hid (Boxes KB W13 [(W2.heap.size, (.slice Av1 Nv1 cv1)), (W2.heap.size + 1, (.slice Av2 Nv2 cv2)), (W2.heap.size + 1 + 1, (.slice Av3 Nv3 cv3))]) := Lib.hid hx1
        have HOW13 : Hid (Owns W2.heap.size W13 [(u17, othL m tk), ((.slice Av1 Nv1 cv1), ofL tk m ++ [(⟨(m : Int), d1, d2, d3, d4⟩ : Ch)]), ((.slice Av2 Nv2 cv2), ofL tk m ++ [(⟨(m : Int), d1, d2, d3, d4⟩ : Ch)]), ((.slice Av3 Nv3 cv3), silL m T 0 tk ++ [(⟨(m : Int), d1, d2, d3, d4⟩ : Ch)])]) := Lib.hid hx2
        have H19W13 : Hid (W13.heap[wr.heap.size]? = some (chObj (⟨(m : Int), d1, d2, d3, d4⟩ : Ch))) := Lib.hid hx3
        have HOFFW13 : Hid (∀ p ∈ [(u17, othL m tk), ((.slice Av1 Nv1 cv1), ofL tk m ++ [(⟨(m : Int), d1, d2, d3, d4⟩ : Ch)]), ((.slice Av2 Nv2 cv2), ofL tk m ++ [(⟨(m : Int), d1, d2, d3, d4⟩ : Ch)]), ((.slice Av3 Nv3 cv3), silL m T 0 tk ++ [(⟨(m : Int), d1, d2, d3, d4⟩ : Ch)])], p.1.ownBlock ≠ some (wr.heap.size)) := Lib.hid hx4
        have HBW13 := Lib.hid hx5
        have HNW13 : Hid (W2.heap.size ≤ W13.heap.size) := Lib.hid (Nat.le_trans HNW11.out hx6)
        have HWN := Lib.hid hWn
        clear kb3 e0 e1 e2 e3 e4 e5 HOa3 Hn3 hO3 hgr3 hv3 hx1 hx2 hx3 hx4 hx5 hx6 hWn HBXW11 HOW11 H19W11 HOFFW11 HBW11
        go_upto_region 12 with (fail)
        rw [← HWN.out]
        clear HWN qa3 qb3
        go_wp2_with fail
        go_roundw
        case measure => simp [intOf]; omega
        case rel =>
          refine ⟨k + 1, _, _, _, by omega, by go_num, HBXW13.out, (show Owns W2.heap.size W13 _ from ?_), HBW13.out⟩
          rw [HTK.out, othL_snoc, ofL_snoc', silL_snoc, if_pos rfl, if_pos rfl]
          have hs : silC m T (0 + tk.length) ⟨(m : Int), d1, d2, d3, d4⟩ = ⟨(m : Int), d1, d2, d3, d4⟩ := by simp [silC]
          rw [hs]
          exact HOW13.out
      · have hmb : (d0 == (m : Int)) = false := by simpa using hown
        have HOWN := Lib.hid hown
        clear hown
        obtain ⟨e0, e1, e2, e3, e4, e5⟩ := ch_cell H19W7.out
        have HOa4 := Lib.hid (HOW7.out.below (below_one W7 (.cells #[.int .i64 d0, .int .i64 d1, .int .i64 d2, .int .i64 d3, .string d4] 30)))
        have Hn4 : Hid ((W7.alloc (.cells #[.int .i64 d0, .int .i64 d1, .int .i64 d2, .int .i64 d3, .string d4] 30)).heap[W7.heap.size]? = some (.cells (Ch.cells (⟨d0, d1, d2, d3, d4⟩ : Ch)).toArray 30 (0, 0))) := Lib.hid (heap_new W7 _)
        go_wp2_with (at_builtin; refine wpList_app_ch _ rfl (.tmp 76) (.tmp 78) rfl W2.heap.size (S := []) (T := [(v14, ofL tk m), (v15, ofL tk m), (v16, silL m T 0 tk)]) (v := u17) (L := othL m tk) (⟨d0, d1, d2, d3, d4⟩ : Ch) W7.heap.size HOa4.out rfl rfl Hn4.out ?c4 ?d4 ?_)
        case c4 => exact HLE4.out
        case d4 => have := HNW7.out; first | omega | (rw [World.size_alloc]; omega)
        intro v17n w8 hO4 hgr4 hv4
        obtain ⟨Av4, Nv4, cv4, rfl⟩ : ∃ A N c, v17n = .slice A N c := by obtain ⟨A, c, e⟩ := (hO4.1 (v17n, othL m tk ++ [(⟨d0, d1, d2, d3, d4⟩ : Ch)]) (by simp)).slice; exact ⟨A, _, c, e⟩
        obtain ⟨hx1, hx3, hx4, hx5, hx6⟩ := app_step0 (L' := othL m tk ++ [(⟨d0, d1, d2, d3, d4⟩ : Ch)]) (S := []) (T := [(v14, ofL tk m), (v15, ofL tk m), (v16, silL m T 0 tk)]) (v := u17) (L := othL m tk) (.cells #[.int .i64 d0, .int .i64 d1, .int .i64 d2, .int .i64 d3, .string d4] 30) HBXW7.out HOW7.out H19W7.out HOFFW7.out HNW7.out HBW7.out hgr4 (by rw [World.size_alloc]; exact hv4)
        have hx2 := hO4
        have HBXw8 : Hid (Boxes KB w8 [(W2.heap.size, v14), (W2.heap.size + 1, v15), (W2.heap.size + 1 + 1, v16)]) := Lib.hid hx1
        have HOw8 : Hid (Owns W2.heap.size w8 [((.slice Av4 Nv4 cv4), othL m tk ++ [(⟨d0, d1, d2, d3, d4⟩ : Ch)]), (v14, ofL tk m), (v15, ofL tk m), (v16, silL m T 0 tk)]) := Lib.hid hx2
        have H19w8 : Hid (w8.heap[wr.heap.size]? = some (chObj (⟨d0, d1, d2, d3, d4⟩ : Ch))) := Lib.hid hx3
        have HOFFw8 : Hid (∀ p ∈ [((.slice Av4 Nv4 cv4), othL m tk ++ [(⟨d0, d1, d2, d3, d4⟩ : Ch)]), (v14, ofL tk m), (v15, ofL tk m), (v16, silL m T 0 tk)], p.1.ownBlock ≠ some (wr.heap.size)) := Lib.hid hx4
        have HBw8 := Lib.hid hx5
        have HNw8 : Hid (W2.heap.size ≤ w8.heap.size) := Lib.hid (Nat.le_trans HNW7.out hx6)
        clear e0 e1 e2 e3 e4 e5 HOa4 Hn4 hO4 hgr4 hv4 hx1 hx2 hx3 hx4 hx5 hx6 HBXW7 HOW7 H19W7 HOFFW7 HBW7
        by_cases hkT : k < T.length
        · obtain ⟨bT, oT, rfl, hbT, hatT⟩ := HATT.out (by omega)
          have hT8 := hatT w8 (below_then HB2.out HBw8.out) k hkT
          have hI : I64 (T.getD k 0) := HTT.out _ (by rw [List.getD_eq_getElem?_getD, List.getElem?_eq_getElem hkT]; simp)
          have hPT := pickLaw_calls (T.getD k 0) 256 w8 hI.1 hI.2 (by decide) (by decide)
          have hbd := pickI_bound (T.getD k 0) 256 (by decide)
          have HSC := Lib.hid (show silC m T (0 + tk.length) ⟨d0, d1, d2, d3, d4⟩ = ⟨d0, d1, d2, d3, strOfNums [pickI (T.getD k 0) 256]⟩ by
            have h1 := HLK.out
            have h2 := HOWN.out
            simp only [silC, h2, if_false, Nat.zero_add, h1, hkT, if_true])
          have hkTi : (k : Int) < (T.length : Int) := by omega
          generalize T.getD k 0 = tv at *
          generalize pickI tv 256 = pv at *
          have hw8 : IntKind.u8.wrap pv = pv := by
            simp [IntKind.wrap, IntKind.bits, IntKind.signed]
            omega
          have hst := (Ints.lit w8 .u8 5 [pv] (by simp)).toString (P := Tryd.prog) (by simp) 66 5 9 (by kernel_rfl) (by kernel_rfl) (by kernel_rfl)
          simp only [List.map_cons, List.map_nil, List.length_cons, List.length_nil, Nat.zero_add] at hst
          generalize strOfNums [pv] = st at *
          obtain ⟨W9, hW9⟩ : ∃ W9, W9 = w8.alloc (.cells #[.int .u8 pv] 5) := ⟨_, rfl⟩
          have hx0 : Below w8.heap.size w8 W9 := by rw [hW9]; exact below_one w8 _
          have hlt19 := (Array.getElem?_eq_some_iff.1 H19w8.out).1
          have hx1 := HBXw8.out.below hx0
          have hx2 := HOw8.out.below hx0
          have hx3 := (hx0.block _ hlt19).trans H19w8.out
          obtain ⟨e0, e1, e2, e3, e4, e5⟩ := ch_cell hx3
          rw [hW9] at e4 e5
          obtain ⟨hy1, hy2, hy3, hy4⟩ := text_step st hx1 hx2 hx3 HOFFw8.out HWR.out (HBw8.out.trans (hx0.mono HNw8.out))
          obtain ⟨W10, hW10⟩ : ∃ W10, W10 = W9.setCell ⟨wr.heap.size, 4, none⟩ (.string st) := ⟨_, rfl⟩
          rw [← hW10] at hy1 hy2 hy3 hy4
          have HBXW10 : Hid (Boxes KB W10 [(W2.heap.size, v14), (W2.heap.size + 1, v15), (W2.heap.size + 1 + 1, v16)]) := Lib.hid hy1
          have HOW10 : Hid (Owns W2.heap.size W10 [((.slice Av4 Nv4 cv4), othL m tk ++ [(⟨d0, d1, d2, d3, d4⟩ : Ch)]), (v14, ofL tk m), (v15, ofL tk m), (v16, silL m T 0 tk)]) := Lib.hid hy2
          have H19W10 : Hid (W10.heap[wr.heap.size]? = some (chObj ⟨d0, d1, d2, d3, st⟩)) := Lib.hid hy3
          have HOFFW10 : Hid (∀ p ∈ [((.slice Av4 Nv4 cv4), othL m tk ++ [(⟨d0, d1, d2, d3, d4⟩ : Ch)]), (v14, ofL tk m), (v15, ofL tk m), (v16, silL m T 0 tk)], p.1.ownBlock ≠ some (wr.heap.size)) := HOFFw8
          have HBW10 := Lib.hid hy4
          have HNW10 : Hid (W2.heap.size ≤ W10.heap.size) := Lib.hid hy4.size
          have HW10 := Lib.hid hW10
          have HW9 := Lib.hid hW9
          clear hy1 hy2 hy3 hy4 hW10 hW9 hx0 hx1 hx2 hx3 e0 e1 e2 e3 hI hbT hatT hlt19 HBXw8 HOw8 H19w8 HOFFw8 HBw8
          go_wp2_with fail
          refine hPT.mono ?_
          rintro e w9 ⟨rfl, rfl⟩
          clear hPT
          go_upto_region 20 with (fail)
          rw [← HW9.out, ← HW10.out]
          clear HW9 HW10 e4 e5 hst hT8 hw8
          obtain ⟨_, kb5, _⟩ := box_cell (HBXW10.out (W2.heap.size + 1 + 1, v16) (by simp))
          obtain ⟨e0, e1, e2, e3, e4, e5⟩ := ch_cell H19W10.out
          have HOa5 := Lib.hid (HOW10.out.below (below_one W10 (.cells #[.int .i64 d0, .int .i64 d1, .int .i64 d2, .int .i64 d3, .string st] 30)))
          have Hn5 : Hid ((W10.alloc (.cells #[.int .i64 d0, .int .i64 d1, .int .i64 d2, .int .i64 d3, .string st] 30)).heap[W10.heap.size]? = some (.cells (Ch.cells (⟨d0, d1, d2, d3, st⟩ : Ch)).toArray 30 (0, 0))) := Lib.hid (heap_new W10 _)
          go_wp2_with (at_builtin; refine wpList_app_ch _ rfl (.tmp 94) (.tmp 96) rfl W2.heap.size (S := [((.slice Av4 Nv4 cv4), othL m tk ++ [(⟨d0, d1, d2, d3, d4⟩ : Ch)]), (v14, ofL tk m), (v15, ofL tk m)]) (T := []) (v := v16) (L := silL m T 0 tk) (⟨d0, d1, d2, d3, st⟩ : Ch) W10.heap.size HOa5.out rfl rfl Hn5.out ?c5 ?d5 ?_)
          case c5 => exact HLE5.out
          case d5 => have := HNW10.out; first | omega | (rw [World.size_alloc]; omega)
          intro v16n w12 hO5 hgr5 hv5
          obtain ⟨Av5, Nv5, cv5, rfl⟩ : ∃ A N c, v16n = .slice A N c := by obtain ⟨A, c, e⟩ := (hO5.1 (v16n, silL m T 0 tk ++ [(⟨d0, d1, d2, d3, st⟩ : Ch)]) (by simp)).slice; exact ⟨A, _, c, e⟩
          obtain ⟨⟨qa5, qb5⟩, hx1, hx2, hx3, hx4, hx5, hx6⟩ := app_step (B := [(W2.heap.size, v14), (W2.heap.size + 1, v15)]) (C := []) (S := [((.slice Av4 Nv4 cv4), othL m tk ++ [(⟨d0, d1, d2, d3, d4⟩ : Ch)]), (v14, ofL tk m), (v15, ofL tk m)]) (T := []) (v := v16) (L := silL m T 0 tk) (.cells #[.int .i64 d0, .int .i64 d1, .int .i64 d2, .int .i64 d3, .string st] 30) HBXW10.out (by intro p hp; simp at hp; rcases hp with rfl | rfl <;> simp <;> omega) HOW10.out H19W10.out HOFFW10.out HNW10.out (by omega) HBW10.out hO5 hgr5 (by rw [World.size_alloc]; exact hv5)
          obtain ⟨W13, hWn⟩ : ∃ W, W = w12.setCell ⟨W2.heap.size + 1 + 1, 1, none⟩ (.slice Av5 Nv5 cv5) := ⟨_, rfl⟩
          rw [← hWn] at hx1 hx2 hx3 hx5 hx6
          have HBXW13 : Hid (Boxes KB W13 [(W2.heap.size, v14), (W2.heap.size + 1, v15), (W2.heap.size + 1 + 1, (.slice Av5 Nv5 cv5))]) := Lib.hid hx1
          have HOW13 : Hid (Owns W2.heap.size W13 [((.slice Av4 Nv4 cv4), othL m tk ++ [(⟨d0, d1, d2, d3, d4⟩ : Ch)]), (v14, ofL tk m), (v15, ofL tk m), ((.slice Av5 Nv5 cv5), silL m T 0 tk ++ [(⟨d0, d1, d2, d3, st⟩ : Ch)])]) := Lib.hid hx2
          have H19W13 : Hid (W13.heap[wr.heap.size]? = some (chObj (⟨d0, d1, d2, d3, st⟩ : Ch))) := Lib.hid hx3
          have HOFFW13 : Hid (∀ p ∈ [((.slice Av4 Nv4 cv4), othL m tk ++ [(⟨d0, d1, d2, d3, d4⟩ : Ch)]), (v14, ofL tk m), (v15, ofL tk m), ((.slice Av5 Nv5 cv5), silL m T 0 tk ++ [(⟨d0, d1, d2, d3, st⟩ : Ch)])], p.1.ownBlock ≠ some (wr.heap.size)) := Lib.hid hx4
          have HBW13 := Lib.hid hx5
          have HNW13 : Hid (W2.heap.size ≤ W13.heap.size) := Lib.hid (Nat.le_trans HNW10.out hx6)
          have HWN := Lib.hid hWn
          clear kb5 e0 e1 e2 e3 e4 e5 HOa5 Hn5 hO5 hgr5 hv5 hx1 hx2 hx3 hx4 hx5 hx6 hWn HBXW10 HOW10 H19W10 HOFFW10 HBW10
          go_upto_region 12 with (fail)
          rw [← HWN.out]
          clear HWN qa5 qb5
          go_wp2_with fail
          go_roundw
          case measure => simp [intOf]; omega
          case rel =>
            refine ⟨k + 1, _, _, _, by omega, by go_num, HBXW13.out, (show Owns W2.heap.size W13 _ from ?_), HBW13.out⟩
            rw [HTK.out, othL_snoc, ofL_snoc', silL_snoc, if_neg HOWN.out, if_neg HOWN.out, HSC.out]
            exact HOW13.out
        · have HSC := Lib.hid (show silC m T (0 + tk.length) ⟨d0, d1, d2, d3, d4⟩ = ⟨d0, d1, d2, d3, d4⟩ by
            have h1 := HLK.out
            simp only [silC, Nat.zero_add, h1, hkT, if_false, ite_self])
          have hkTi : ¬ (k : Int) < (T.length : Int) := by omega
          go_upto_region 20 with (fail)
          obtain ⟨_, kb5, _⟩ := box_cell (HBXw8.out (W2.heap.size + 1 + 1, v16) (by simp))
          obtain ⟨e0, e1, e2, e3, e4, e5⟩ := ch_cell H19w8.out
          have HOa5 := Lib.hid (HOw8.out.below (below_one w8 (.cells #[.int .i64 d0, .int .i64 d1, .int .i64 d2, .int .i64 d3, .string d4] 30)))
          have Hn5 : Hid ((w8.alloc (.cells #[.int .i64 d0, .int .i64 d1, .int .i64 d2, .int .i64 d3, .string d4] 30)).heap[w8.heap.size]? = some (.cells (Ch.cells (⟨d0, d1, d2, d3, d4⟩ : Ch)).toArray 30 (0, 0))) := Lib.hid (heap_new w8 _)
          go_wp2_with (at_builtin; refine wpList_app_ch _ rfl (.tmp 94) (.tmp 96) rfl W2.heap.size (S := [((.slice Av4 Nv4 cv4), othL m tk ++ [(⟨d0, d1, d2, d3, d4⟩ : Ch)]), (v14, ofL tk m), (v15, ofL tk m)]) (T := []) (v := v16) (L := silL m T 0 tk) (⟨d0, d1, d2, d3, d4⟩ : Ch) w8.heap.size HOa5.out rfl rfl Hn5.out ?c5 ?d5 ?_)
          case c5 => exact HLE5.out
          case d5 => have := HNw8.out; first | omega | (rw [World.size_alloc]; omega)
          intro v16n w12 hO5 hgr5 hv5
          obtain ⟨Av5, Nv5, cv5, rfl⟩ : ∃ A N c, v16n = .slice A N c := by obtain ⟨A, c, e⟩ := (hO5.1 (v16n, silL m T 0 tk ++ [(⟨d0, d1, d2, d3, d4⟩ : Ch)]) (by simp)).slice; exact ⟨A, _, c, e⟩
          obtain ⟨⟨qa5, qb5⟩, hx1, hx2, hx3, hx4, hx5, hx6⟩ := app_step (B := [(W2.heap.size, v14), (W2.heap.size + 1, v15)]) (C := []) (S := [((.slice Av4 Nv4 cv4), othL m tk ++ [(⟨d0, d1, d2, d3, d4⟩ : Ch)]), (v14, ofL tk m), (v15, ofL tk m)]) (T := []) (v := v16) (L := silL m T 0 tk) (.cells #[.int .i64 d0, .int .i64 d1, .int .i64 d2, .int .i64 d3, .string d4] 30) HBXw8.out (by intro p hp; simp at hp; rcases hp with rfl | rfl <;> simp <;> omega) HOw8.out H19w8.out HOFFw8.out HNw8.out (by omega) HBw8.out hO5 hgr5 (by rw [World.size_alloc]; exact hv5)
          obtain ⟨W13, hWn⟩ : ∃ W, W = w12.setCell ⟨W2.heap.size + 1 + 1, 1, none⟩ (.slice Av5 Nv5 cv5) := ⟨_, rfl⟩
          rw [← hWn] at hx1 hx2 hx3 hx5 hx6
          have HBXW13 : Hid (Boxes KB W13 [(W2.heap.size, v14), (W2.heap.size + 1, v15), (W2.heap.size + 1 + 1, (.slice Av5 Nv5 cv5))]) := Lib.hid hx1
          have HOW13 : Hid (Owns W2.heap.size W13 [((.slice Av4 Nv4 cv4), othL m tk ++ [(⟨d0, d1, d2, d3, d4⟩ : Ch)]), (v14, ofL tk m), (v15, ofL tk m), ((.slice Av5 Nv5 cv5), silL m T 0 tk ++ [(⟨d0, d1, d2, d3, d4⟩ : Ch)])]) := Lib.hid hx2
          have H19W13 : Hid (W13.heap[wr.heap.size]? = some (chObj (⟨d0, d1, d2, d3, d4⟩ : Ch))) := Lib.hid hx3
          have HOFFW13 : Hid (∀ p ∈ [((.slice Av4 Nv4 cv4), othL m tk ++ [(⟨d0, d1, d2, d3, d4⟩ : Ch)]), (v14, ofL tk m), (v15, ofL tk m), ((.slice Av5 Nv5 cv5), silL m T 0 tk ++ [(⟨d0, d1, d2, d3, d4⟩ : Ch)])], p.1.ownBlock ≠ some (wr.heap.size)) := Lib.hid hx4
          have HBW13 := Lib.hid hx5
          have HNW13 : Hid (W2.heap.size ≤ W13.heap.size) := Lib.hid (Nat.le_trans HNw8.out hx6)
          have HWN := Lib.hid hWn
          clear kb5 e0 e1 e2 e3 e4 e5 HOa5 Hn5 hO5 hgr5 hv5 hx1 hx2 hx3 hx4 hx5 hx6 hWn HBXw8 HOw8 H19w8 HOFFw8 HBw8
          go_upto_region 12 with (fail)
          rw [← HWN.out]
          clear HWN qa5 qb5
          go_wp2_with fail
          go_roundw
          case measure => simp [intOf]; omega
          case rel =>
            refine ⟨k + 1, _, _, _, by omega, by go_num, HBXW13.out, (show Owns W2.heap.size W13 _ from ?_), HBW13.out⟩
            rw [HTK.out, othL_snoc, ofL_snoc', silL_snoc, if_neg HOWN.out, if_neg HOWN.out, HSC.out]
            exact HOW13.out
    · have hkl : k = l.length := by omega
      subst hkl
      clear k120 k121 hlt12
      have hO2 := hO.out
      rw [List.take_length] at hO2
      have HO2 : Hid (Owns W2.heap.size wr [(u17, othL m l), (v14, ofL l m), (v15, ofL l m), (v16, silL m T 0 l)]) := Lib.hid hO2
      have HBX2 : Hid (Boxes KB wr [(W2.heap.size, v14), (W2.heap.size + 1, v15), (W2.heap.size + 1 + 1, v16)]) := Lib.hid hBx.out
      have HBA := Lib.hid hB.out
      clear hO2 hO hBx hB HATL
      have hx := box_cell ((HBA.out.block _ (by have := HZ2.out; omega : w2.heap.size < W2.heap.size)).trans HG12.out)
      have k121 := hx.2.1
      clear hx
      go_wp2_with fail
      clear k121
      go_loopw [20] (fun s20 wr => ∃ (j : Nat) (x14 : Value), j ≤ Y.length ∧ j ≤ 10 ∧ s20 = .int .i64 j ∧ Aside (Boxes KB wr [(W2.heap.size, x14), (W2.heap.size + 1, v15), (W2.heap.size + 1 + 1, v16)]) ∧ Aside (Owns W2.heap.size wr [(u17, othL m l), (x14, ofL l m ++ othL m ((Y.take j).map Five.one)), (v15, ofL l m), (v16, silL m T 0 l)]) ∧ Aside (Below W2.heap.size W2 wr)) (fun s20 _ => 10 - (intOf s20).toNat)
      case atStart => exact ⟨0, _, Nat.zero_le _, Nat.zero_le _, rfl, HBX2.out, (show Owns W2.heap.size wr [(u17, othL m l), (v14, ofL l m ++ []), (v15, ofL l m), (v16, silL m T 0 l)] by rw [List.append_nil]; exact HO2.out), HBA.out⟩
      case round =>
        obtain ⟨j, x14, hj1, hj2, rfl, hBx, hO, hB⟩ := hrel
        by_cases hlt1 : j < Y.length
        · by_cases hlt2 : j < 10
          · obtain ⟨bY, oY, rfl, hbY, hcY⟩ := HATY.out (by simp; omega)
            have hq := HYY.out Y[j] (List.getElem_mem _)
            have hr : wr.rangeAt bY (oY + j * 5) Y[j].cells := fun i u hu => ((below_then HB2.out hB.out).cell (p := ⟨bY, oY + j * 5 + i, none⟩) hbY).trans (hcY j i Y[j].cells u (by simp [hlt1]) hu)
            have HTJ := Lib.hid (show (Y.take (j + 1)).map Five.one = (Y.take j).map Five.one ++ [Y[j].one] by rw [List.take_add_one, List.map_append, List.getElem?_eq_getElem hlt1]; rfl)
            have HLE6 : Hid ((ofL l m ++ othL m ((Y.take j).map Five.one)).length ≤ 1000) := Lib.hid (by
              have h1 : (ofL l m).length ≤ l.length := List.length_filter_le _ _
              have h2 : (othL m ((Y.take j).map Five.one)).length ≤ ((Y.take j).map Five.one).length := List.length_filter_le _ _
              have h3 := HLEN.out
              rw [List.length_map, List.length_take] at h2
              rw [List.length_append]
              omega)
            generalize Y[j] = q at *
            obtain ⟨x0, x1, x2, x3, x4⟩ := q
            obtain ⟨y0, y1, y2, y3, y4⟩ := hq
            dsimp only at y0 y1 y2 y3 y4
            have hOne := One_calls x0 x1 x2 x3 x4 wr y0 y1 y2 y3 y4
            rw [show (⟨x0, x1, x2, x3, x4⟩ : Five).one = oneC x0 x1 x2 x3 x4 from rfl] at HTJ
            generalize oneC x0 x1 x2 x3 x4 = ch at *
            obtain ⟨d0, d1, d2, d3, d4⟩ := ch
            simp only [Ch.val, Ch.cells] at hOne
            have HRR := Lib.hid hr
            generalize (Y.take j).map Five.one = tj at *
            generalize hLJ : ofL l m ++ othL m tj = LJ at *
            have HLJ := Lib.hid hLJ
            clear hLJ
            have hj1' : (j : Int) < (Y.length : Int) := by omega
            have hj2' : (j : Int) < 10 := by omega
            clear hr hcY hbY
            simp only [Five.cells] at HRR
            have I68 := Lib.hid (show (Tryd.prog.info? 68).map (·.size) = some 5 by kernel_rfl)
            go_wp2_with (refine wpList_load_mid rfl 68 (.tmp 111) rfl bY (oY + j * 5) rfl _ _ HRR.out Tryd.underlying68 rfl I68.out ?_)
            refine hOne.mono ?_
            rintro e w9 ⟨rfl, hb9⟩
            obtain ⟨W7, hW7⟩ : ∃ W7, W7 = w9.alloc (.cells #[.int .i64 d0, .int .i64 d1, .int .i64 d2, .int .i64 d3, .string d4] 30) := ⟨_, rfl⟩
            have hx0 : Below wr.heap.size wr W7 := by rw [hW7]; exact below_alloc hb9 _
            have HBXW7 : Hid (Boxes KB W7 [(W2.heap.size, x14), (W2.heap.size + 1, v15), (W2.heap.size + 1 + 1, v16)]) := Lib.hid (hBx.out.below hx0)
            have HOW7 : Hid (Owns W2.heap.size W7 [(u17, othL m l), (x14, LJ), (v15, ofL l m), (v16, silL m T 0 l)]) := Lib.hid (hO.out.below hx0)
            have H19W7 : Hid (W7.heap[w9.heap.size]? = some (chObj ⟨d0, d1, d2, d3, d4⟩)) := Lib.hid (by rw [hW7]; exact heap_new w9 _)
            have HOFFW7 : Hid (∀ p ∈ [(u17, othL m l), (x14, LJ), (v15, ofL l m), (v16, silL m T 0 l)], p.1.ownBlock ≠ some w9.heap.size) := Lib.hid (fun p hp e => by have h1 := (ownsRow_lt (hO.out.1 p hp) e).2.1; have h2 := hb9.size; omega)
            have HBW7 : Hid (Below W2.heap.size W2 W7) := Lib.hid (hB.out.trans (hx0.mono hB.out.size))
            have HNW7 : Hid (W2.heap.size ≤ W7.heap.size) := Lib.hid HBW7.out.size
            have HW7 := Lib.hid hW7
            clear hW7 hBx hO hB hx0 hb9 hOne
            go_upto_region 25 with (fail)
            rw [← HW7.out]
            clear HW7
            by_cases hown : d0 = (m : Int)
            · obtain rfl := hown
              obtain ⟨e0, e1, e2, e3, e4, e5⟩ := ch_cell H19W7.out
              go_wp2_with fail
              go_roundw
              case measure => simp [intOf]; omega
              case rel =>
                refine ⟨j + 1, _, by omega, by omega, by go_num, HBXW7.out, (show Owns W2.heap.size W7 _ from ?_), HBW7.out⟩
                rw [HTJ.out, othL_snoc, if_pos rfl, HLJ.out]
                exact HOW7.out
            · have hmb : (d0 != (m : Int)) = true := by simpa using hown
              have hmc : (d0 == (m : Int)) = false := by simpa using hown
              have HOWN := Lib.hid hown
              clear hown
              obtain ⟨_, kb6, _⟩ := box_cell (HBXW7.out (W2.heap.size, x14) (by simp))
              obtain ⟨e0, e1, e2, e3, e4, e5⟩ := ch_cell H19W7.out
              have HOa6 := Lib.hid (HOW7.out.below (below_one W7 (.cells #[.int .i64 d0, .int .i64 d1, .int .i64 d2, .int .i64 d3, .string d4] 30)))
              have Hn6 : Hid ((W7.alloc (.cells #[.int .i64 d0, .int .i64 d1, .int .i64 d2, .int .i64 d3, .string d4] 30)).heap[W7.heap.size]? = some (.cells (Ch.cells (⟨d0, d1, d2, d3, d4⟩ : Ch)).toArray 30 (0, 0))) := Lib.hid (heap_new W7 _)
              go_wp2_with (at_builtin; refine wpList_app_ch _ rfl (.tmp 119) (.tmp 121) rfl W2.heap.size (S := [(u17, othL m l)]) (T := [(v15, ofL l m), (v16, silL m T 0 l)]) (v := x14) (L := LJ) (⟨d0, d1, d2, d3, d4⟩ : Ch) W7.heap.size HOa6.out rfl rfl Hn6.out ?c6 ?d6 ?_)
              case c6 => exact HLE6.out
              case d6 => have := HNW7.out; first | omega | (rw [World.size_alloc]; omega)
              intro x14n w10 hO6 hgr6 hv6
              obtain ⟨Av6, Nv6, cv6, rfl⟩ : ∃ A N c, x14n = .slice A N c := by obtain ⟨A, c, e⟩ := (hO6.1 (x14n, LJ ++ [(⟨d0, d1, d2, d3, d4⟩ : Ch)]) (by simp)).slice; exact ⟨A, _, c, e⟩
              obtain ⟨⟨qa6, qb6⟩, hx1, hx2, hx3, hx4, hx5, hx6⟩ := app_step (B := []) (C := [(W2.heap.size + 1, v15), (W2.heap.size + 1 + 1, v16)]) (S := [(u17, othL m l)]) (T := [(v15, ofL l m), (v16, silL m T 0 l)]) (v := x14) (L := LJ) (.cells #[.int .i64 d0, .int .i64 d1, .int .i64 d2, .int .i64 d3, .string d4] 30) HBXW7.out (by intro p hp; simp at hp; rcases hp with rfl | rfl <;> simp <;> omega) HOW7.out H19W7.out HOFFW7.out HNW7.out (by omega) HBW7.out hO6 hgr6 (by rw [World.size_alloc]; exact hv6)
              obtain ⟨W11, hWn⟩ : ∃ W, W = w10.setCell ⟨W2.heap.size, 1, none⟩ (.slice Av6 Nv6 cv6) := ⟨_, rfl⟩
              rw [← hWn] at hx1 hx2 hx3 hx5 hx6
              have HBXW11 : Hid (Boxes KB W11 [(W2.heap.size, (.slice Av6 Nv6 cv6)), (W2.heap.size + 1, v15), (W2.heap.size + 1 + 1, v16)]) := Lib.hid hx1
              have HOW11 : Hid (Owns W2.heap.size W11 [(u17, othL m l), ((.slice Av6 Nv6 cv6), LJ ++ [(⟨d0, d1, d2, d3, d4⟩ : Ch)]), (v15, ofL l m), (v16, silL m T 0 l)]) := Lib.hid hx2
              have H19W11 : Hid (W11.heap[w9.heap.size]? = some (chObj (⟨d0, d1, d2, d3, d4⟩ : Ch))) := Lib.hid hx3
              have HOFFW11 : Hid (∀ p ∈ [(u17, othL m l), ((.slice Av6 Nv6 cv6), LJ ++ [(⟨d0, d1, d2, d3, d4⟩ : Ch)]), (v15, ofL l m), (v16, silL m T 0 l)], p.1.ownBlock ≠ some (w9.heap.size)) := Lib.hid hx4
              have HBW11 := Lib.hid hx5
              have HNW11 : Hid (W2.heap.size ≤ W11.heap.size) := Lib.hid (Nat.le_trans HNW7.out hx6)
              have HWN := Lib.hid hWn
              clear kb6 e0 e1 e2 e3 e4 e5 HOa6 Hn6 hO6 hgr6 hv6 hx1 hx2 hx3 hx4 hx5 hx6 hWn HBXW7 HOW7 H19W7 HOFFW7 HBW7
              go_upto_region 23 with (fail)
              rw [← HWN.out]
              clear HWN qa6 qb6
              go_wp2_with fail
              go_roundw
              case measure => simp [intOf]; omega
              case rel =>
                refine ⟨j + 1, _, by omega, by omega, by go_num, HBXW11.out, (show Owns W2.heap.size W11 _ from ?_), HBW11.out⟩
                rw [HTJ.out, othL_snoc, if_neg HOWN.out, ← List.append_assoc, HLJ.out]
                exact HOW11.out
          · have hj10 : j = 10 := by omega
            have hj1' : (j : Int) < (Y.length : Int) := by omega
            have hj2' : ¬ (j : Int) < 10 := by omega
            have HJ10 : Hid (j ≤ 10) := Lib.hid hj2
            clear hj10 hj1 hj2 hlt1 hlt2
            have HOKJ : Hid (okChs (ofL l m ++ othL m ((Y.take j).map Five.one)) = true) := Lib.hid (by
              have h1 := (okChs_facts HOK.out).2
              have h2 : (ofL l m).length ≤ l.length := List.length_filter_le _ _
              have h3 : (othL m ((Y.take j).map Five.one)).length ≤ ((Y.take j).map Five.one).length := List.length_filter_le _ _
              have h4 := HLEN.out
              rw [List.length_map] at h3
              have h5 := List.length_take_le j Y
              have h6 := HJ10.out
              refine okChs_app ?_ ?_ (by omega)
              · exact List.all_eq_true.2 fun c hc => List.all_eq_true.1 h1 c (List.mem_filter.1 hc).1
              · refine List.all_eq_true.2 fun c hc => ?_
                obtain ⟨q, _, rfl⟩ := List.mem_map.1 (List.mem_filter.1 hc).1
                exact oneC_ok q)
            have HOFJ : Hid (ofL (ofL l m ++ othL m ((Y.take j).map Five.one)) m = ofL l m) := Lib.hid (ofL_own_oth _ _ _ fun c hc => by
              have := (List.mem_filter.1 hc).2
              simpa using this)
            generalize ofL l m ++ othL m ((Y.take j).map Five.one) = LJ at *
            have HOKS : Hid (okChs (ofL l m ++ othL m l) = true) := Lib.hid (by
              have h1 := (okChs_facts HOK.out).2
              have h2 : (ofL l m).length ≤ l.length := List.length_filter_le _ _
              have h3 : (othL m l).length ≤ l.length := List.length_filter_le _ _
              have h4 := HLEN.out
              exact okChs_app (List.all_eq_true.2 fun c hc => List.all_eq_true.1 h1 c (List.mem_filter.1 hc).1) (List.all_eq_true.2 fun c hc => List.all_eq_true.1 h1 c (List.mem_filter.1 hc).1) (by omega))
            have HOKT : Hid (okChs (silL m T 0 l) = true) := Lib.hid (by
              have h1 := (okChs_facts HOK.out).2
              have h4 := HLEN.out
              simp only [okChs, Bool.and_eq_true, decide_eq_true_eq, silL_length]
              exact ⟨by omega, silL_ok m T l 0 h1⟩)
            have HKS : Hid (KB.size = 32) := Lib.hid (by have := HVAL.out; simp only [validB, Bool.and_eq_true, decide_eq_true_eq] at this; exact this.1)
            obtain ⟨A17, c17, rfl⟩ := (hO.out.1 (u17, othL m l) (by simp)).slice
            obtain ⟨A14, c14, rfl⟩ := (hO.out.1 (x14, LJ) (by simp)).slice
            obtain ⟨A15, c15, rfl⟩ := (hO.out.1 (v15, ofL l m) (by simp)).slice
            obtain ⟨A16, c16, rfl⟩ := (hO.out.1 (v16, silL m T 0 l) (by simp)).slice
            have HLO : Hid ((othL m l).length ≤ 1000) := Lib.hid (Nat.le_trans (List.length_filter_le _ _) (by have := HLEN.out; omega))
            have HLS : Hid ((ofL l m).length + (othL m l).length ≤ 1000) := Lib.hid (by
              have h2 : (ofL l m).length ≤ l.length := List.length_filter_le _ _
              have h3 : (othL m l).length ≤ l.length := List.length_filter_le _ _
              have h4 := HLEN.out
              omega)
            have HR15 := Lib.hid (hO.out.1 (.slice A15 (ofL l m).length c15, ofL l m) (by simp))
            have HC17 : Hid (Chs wr (.slice A17 (othL m l).length c17) (othL m l)) := Lib.hid ((hO.out.1 (.slice A17 (othL m l).length c17, othL m l) (by simp)).chs (by have := HLO.out; omega))
            have HO3 := Lib.hid hO.out
            have HBX3 := Lib.hid hBx.out
            have HB3 := Lib.hid hB.out
            obtain ⟨_, kb, _⟩ := box_cell (HBX3.out (W2.heap.size + 1, .slice A15 (ofL l m).length c15) (by simp))
            have HNR := Lib.hid hB.out.size
            clear hO hBx hB
            go_wp2_with (at_builtin; refine wpList_app_sl _ rfl (.tmp 125) (.tmp 126) rfl W2.heap.size (L := ofL l m) (M := othL m l) HR15.out HC17.out rfl rfl HLS.out HNR.out ?_)
            intro v15n w28 hR hgr
            obtain ⟨A15n, c15n, rfl⟩ := hR.slice
            have hx1 := HBX3.out.grow HR15.out hgr
            have hg1 := hx1 (W2.heap.size + 1, .slice A15 (ofL l m).length c15) (by simp)
            have hrest := Owns.rest (S := [(.slice A17 (othL m l).length c17, othL m l), (.slice A14 LJ.length c14, LJ)]) (T := [(.slice A16 (silL m T 0 l).length c16, silL m T 0 l)]) HO3.out hgr
            obtain ⟨qa, qb⟩ := (box_cell hg1).2
            obtain ⟨WF, hWF⟩ : ∃ WF, WF = w28.setCell ⟨W2.heap.size + 1, 1, none⟩ (.slice A15n (ofL l m ++ othL m l).length c15n) := ⟨_, rfl⟩
            have hx2 : Boxes KB WF [(W2.heap.size, .slice A14 LJ.length c14), (W2.heap.size + 1, .slice A15n (ofL l m ++ othL m l).length c15n), (W2.heap.size + 1 + 1, .slice A16 (silL m T 0 l).length c16)] := by
              rw [hWF]
              exact Boxes.set (S := [(W2.heap.size, .slice A14 LJ.length c14)]) (T := [(W2.heap.size + 1 + 1, .slice A16 (silL m T 0 l).length c16)]) hx1 (by intro p hp; simp at hp; rcases hp with rfl | rfl <;> simp <;> omega) _
            have hfar : ∀ k, k ≠ W2.heap.size + 1 → WF.heap[k]? = w28.heap[k]? := fun k hk => by rw [hWF]; exact setCell_block _ _ _ _ _ hk
            have hr14 := (hrest (.slice A14 LJ.length c14, LJ) (by simp)).far hg1 (by decide) hfar
            have hr16 := (hrest (.slice A16 (silL m T 0 l).length c16, silL m T 0 l) (by simp)).far hg1 (by decide) hfar
            have hr15 := Row.far hR hg1 (by decide) hfar
            have hBF : Below W2.heap.size W2 WF := by
              rw [hWF]
              exact (HB3.out.grown hgr HNR.out (fun k hk => (ownsRow_lt HR15.out hk).1)).setCell (p := ⟨W2.heap.size + 1, 1, none⟩) (by show W2.heap.size ≤ W2.heap.size + 1; omega) _
            have C0 : Chs WF (.slice A l.length c) l := HC2.out.below hBF
            have C1 : Chs WF (.slice A14 LJ.length c14) LJ := hr14.chs (by have := (okChs_facts HOKJ.out).1; omega)
            have C2 : Chs WF (.slice A15n (ofL l m ++ othL m l).length c15n) (ofL l m ++ othL m l) := hr15.chs (by have := (okChs_facts HOKS.out).1; omega)
            have C3 : Chs WF (.slice A16 (silL m T 0 l).length c16) (silL m T 0 l) := hr16.chs (by have := (okChs_facts HOKT.out).1; omega)
            have hBw : Below w.heap.size w WF := below_then HB2.out hBF
            have hRF := HRD.out.below hBw
            have hvl : ∀ L : List Ch, okChs L = true → validB KB L = true := fun L h => by simp only [validB, h, HKS.out, Bool.and_true, decide_true]
            have hA0 := fun W (h : Below WF.heap.size WF W) => Account_gen KB _ l m W (C0.below h) HVAL.out (by have := HM8.out; omega) (hRF.below h)
            have hA1 := fun W (h : Below WF.heap.size WF W) => Account_gen KB _ LJ m W (C1.below h) (hvl _ HOKJ.out) (by have := HM8.out; omega) (hRF.below h)
            have hA2 := fun W (h : Below WF.heap.size WF W) => Account_gen KB _ (ofL l m ++ othL m l) m W (C2.below h) (hvl _ HOKS.out) (by have := HM8.out; omega) (hRF.below h)
            have hA3 := fun W (h : Below WF.heap.size WF W) => Account_gen KB _ (silL m T 0 l) m W (C3.below h) (hvl _ HOKT.out) (by have := HM8.out; omega) (hRF.below h)
            rw [HOFJ.out] at hA1
            rw [ofL_same l m m, pathL_of KB (fun h => ofL_same l m h)] at hA2
            rw [ofL_sil_own] at hA3
            have HF := Lib.hid (show ∀ W, Below WF.heap.size WF W → (W.cell? ⟨w2.heap.size, 0, none⟩ = some (.string KB) ∧ W.cell? ⟨w2.heap.size, 1, none⟩ = some (.slice A l.length c)) ∧ (W.cell? ⟨W2.heap.size, 0, none⟩ = some (.string KB) ∧ W.cell? ⟨W2.heap.size, 1, none⟩ = some (.slice A14 LJ.length c14)) ∧
                (W.cell? ⟨W2.heap.size + 1, 0, none⟩ = some (.string KB) ∧ W.cell? ⟨W2.heap.size + 1, 1, none⟩ = some (.slice A15n (ofL l m ++ othL m l).length c15n)) ∧ (W.cell? ⟨W2.heap.size + 1 + 1, 0, none⟩ = some (.string KB) ∧ W.cell? ⟨W2.heap.size + 1 + 1, 1, none⟩ = some (.slice A16 (silL m T 0 l).length c16)) from fun W h => by
              have q0 := (h.block _ (by have h1 := HZ2.out; have h2 := hBF.size; omega)).trans ((hBF.block _ (by have := HZ2.out; omega : w2.heap.size < W2.heap.size)).trans HG12.out)
              have q1 := (hx2.below h) (W2.heap.size, .slice A14 LJ.length c14) (by simp)
              have q2 := (hx2.below h) (W2.heap.size + 1, .slice A15n (ofL l m ++ othL m l).length c15n) (by simp)
              have q3 := (hx2.below h) (W2.heap.size + 1 + 1, .slice A16 (silL m T 0 l).length c16) (by simp)
              exact ⟨⟨(box_cell q0).1, (box_cell q0).2.1⟩, ⟨(box_cell q1).1, (box_cell q1).2.1⟩, ⟨(box_cell q2).1, (box_cell q2).2.1⟩, (box_cell q3).1, (box_cell q3).2.1⟩)
            have HSIM := Lib.hid (show ∀ q, q < 6 → ((pathL KB l m 6).getD q ([], ⟨#[]⟩)).1 = ((pathL KB (silL m T 0 l) m 6).getD q ([], ⟨#[]⟩)).1 from fun q hq => pathL_sim KB (SimL.sil m T l 0) m 6 q hq)
            have HP0 := Lib.hid (pathL_length KB l m 6)
            have HP3 := Lib.hid (pathL_length KB (silL m T 0 l) m 6)
            have HA0 := Lib.hid hA0
            have HA1 := Lib.hid hA1
            have HA2 := Lib.hid hA2
            have HA3 := Lib.hid hA3
            have HBw := Lib.hid hBw
            have HWF := Lib.hid hWF
            clear hx1 hg1 hrest hx2 hfar hr14 hr16 hr15 hBF C0 C1 C2 C3 hBw hRF hvl hA0 hA1 hA2 hA3 hWF hR hgr kb HO3 HBX3 HB3 HR15 HC17 HNR HOKJ HOFJ HOKS HOKT HKS HLO HLS HTT HYY HATY HATT HLY HLT
            generalize (ofL l m ++ othL m l).length = N2 at *
            generalize (silL m T 0 l).length = N3 at *
            generalize pathL KB l m 6 = P0 at *
            generalize pathL KB LJ m 6 = P1 at *
            generalize pathL KB (silL m T 0 l) m 6 = P3 at *
            generalize ofL l m = U at *
            generalize saltH KB m = SL at *
            generalize LJ.length = N1 at *
            go_upto_region 28 with (fail)
            rw [← HWF.out]
            clear HWF qa qb
            obtain ⟨⟨k0, k1⟩, _⟩ := HF.out WF (Below.refl _ _)
            go_wp2_with fail
            refine (HA0.out WF (Below.refl _ _)).mono ?_
            rintro e a0 ⟨AA0, ac0, AB0, ad0, rfl, hC0, hP0, hb0⟩
            obtain ⟨V0, hV0⟩ : ∃ V, V = a0.alloc (.cells #[.int .i64 (m : Int), .slice AA0 U.length ac0, .string SL, .slice AB0 6 ad0] 51) := ⟨_, rfl⟩
            have hbx : Below WF.heap.size WF V0 := by rw [hV0]; exact below_alloc hb0 _
            have HX0 : Hid (Below WF.heap.size WF V0) := Lib.hid (hbx)
            have HC0 : Hid (Chs V0 (.slice AA0 U.length ac0) U) := Lib.hid (by rw [hV0]; exact hC0.below (below_one a0 _))
            have HQ0 : Hid (Pth V0 (.slice AB0 6 ad0) P0) := Lib.hid (by rw [hV0]; exact hP0.below (below_one a0 _))
            have HG0 : Hid (V0.heap[a0.heap.size]? = some (.cells #[.int .i64 (m : Int), .slice AA0 U.length ac0, .string SL, .slice AB0 6 ad0] 51 (0, 0))) := Lib.hid (by rw [hV0]; exact heap_new a0 _)
            have HV0 := Lib.hid hV0
            clear k0 k1 hC0 hP0 hb0
            obtain ⟨_, ⟨k0, k1⟩, _⟩ := HF.out V0 HX0.out
            rw [hV0] at k0 k1
            clear hV0 hbx
            go_wp2_with fail
            rw [← HV0.out]
            refine (HA1.out V0 HX0.out).mono ?_
            rintro e a1 ⟨AA1, ac1, AB1, ad1, rfl, hC1, hP1, hb1⟩
            obtain ⟨V1, hV1⟩ : ∃ V, V = a1.alloc (.cells #[.int .i64 (m : Int), .slice AA1 U.length ac1, .string SL, .slice AB1 6 ad1] 51) := ⟨_, rfl⟩
            have hbx : Below V0.heap.size V0 V1 := by rw [hV1]; exact below_alloc hb1 _
            have HX1 : Hid (Below WF.heap.size WF V1) := Lib.hid (below_then HX0.out hbx)
            have HC1 : Hid (Chs V1 (.slice AA1 U.length ac1) U) := Lib.hid (by rw [hV1]; exact hC1.below (below_one a1 _))
            have HQ1 : Hid (Pth V1 (.slice AB1 6 ad1) P1) := Lib.hid (by rw [hV1]; exact hP1.below (below_one a1 _))
            have HG1 : Hid (V1.heap[a1.heap.size]? = some (.cells #[.int .i64 (m : Int), .slice AA1 U.length ac1, .string SL, .slice AB1 6 ad1] 51 (0, 0))) := Lib.hid (by rw [hV1]; exact heap_new a1 _)
            have HV1 := Lib.hid hV1
            have HY1 := Lib.hid hbx
            clear k0 k1 hC1 hP1 hb1
            obtain ⟨_, _, ⟨k0, k1⟩, _⟩ := HF.out V1 HX1.out
            rw [hV1] at k0 k1
            clear hV1 hbx
            go_wp2_with fail
            rw [← HV1.out]
            refine (HA2.out V1 HX1.out).mono ?_
            rintro e a2 ⟨AA2, ac2, AB2, ad2, rfl, hC2, hP2, hb2⟩
            obtain ⟨V2, hV2⟩ : ∃ V, V = a2.alloc (.cells #[.int .i64 (m : Int), .slice AA2 U.length ac2, .string SL, .slice AB2 6 ad2] 51) := ⟨_, rfl⟩
            have hbx : Below V1.heap.size V1 V2 := by rw [hV2]; exact below_alloc hb2 _
            have HX2 : Hid (Below WF.heap.size WF V2) := Lib.hid (below_then HX1.out hbx)
            have HC2 : Hid (Chs V2 (.slice AA2 U.length ac2) U) := Lib.hid (by rw [hV2]; exact hC2.below (below_one a2 _))
            have HQ2 : Hid (Pth V2 (.slice AB2 6 ad2) P0) := Lib.hid (by rw [hV2]; exact hP2.below (below_one a2 _))
            have HG2 : Hid (V2.heap[a2.heap.size]? = some (.cells #[.int .i64 (m : Int), .slice AA2 U.length ac2, .string SL, .slice AB2 6 ad2] 51 (0, 0))) := Lib.hid (by rw [hV2]; exact heap_new a2 _)
            have HV2 := Lib.hid hV2
            have HY2 := Lib.hid hbx
            clear k0 k1 hC2 hP2 hb2
            obtain ⟨_, _, _, k0, k1⟩ := HF.out V2 HX2.out
            rw [hV2] at k0 k1
            clear hV2 hbx
            go_wp2_with fail
            rw [← HV2.out]
            refine (HA3.out V2 HX2.out).mono ?_
            rintro e a3 ⟨AA3, ac3, AB3, ad3, rfl, hC3, hP3, hb3⟩
            obtain ⟨V3, hV3⟩ : ∃ V, V = a3.alloc (.cells #[.int .i64 (m : Int), .slice AA3 U.length ac3, .string SL, .slice AB3 6 ad3] 51) := ⟨_, rfl⟩
            have hbx : Below V2.heap.size V2 V3 := by rw [hV3]; exact below_alloc hb3 _
            have HX3 : Hid (Below WF.heap.size WF V3) := Lib.hid (below_then HX2.out hbx)
            have HC3 : Hid (Chs V3 (.slice AA3 U.length ac3) U) := Lib.hid (by rw [hV3]; exact hC3.below (below_one a3 _))
            have HQ3 : Hid (Pth V3 (.slice AB3 6 ad3) P3) := Lib.hid (by rw [hV3]; exact hP3.below (below_one a3 _))
            have HG3 : Hid (V3.heap[a3.heap.size]? = some (.cells #[.int .i64 (m : Int), .slice AA3 U.length ac3, .string SL, .slice AB3 6 ad3] 51 (0, 0))) := Lib.hid (by rw [hV3]; exact heap_new a3 _)
            have HV3 := Lib.hid hV3
            have HY3 := Lib.hid hbx
            clear k0 k1 hC3 hP3 hb3
            have HZ := Lib.hid (show ∀ W, Below V3.heap.size V3 W → (W.cell? ⟨a0.heap.size, 0, none⟩ = some (.int .i64 (m : Int)) ∧ W.cell? ⟨a0.heap.size, 1, none⟩ = some (.slice AA0 U.length ac0) ∧ W.cell? ⟨a0.heap.size, 2, none⟩ = some (.string SL) ∧ W.cell? ⟨a0.heap.size, 3, none⟩ = some (.slice AB0 6 ad0)) ∧ (W.cell? ⟨a1.heap.size, 0, none⟩ = some (.int .i64 (m : Int)) ∧ W.cell? ⟨a1.heap.size, 1, none⟩ = some (.slice AA1 U.length ac1) ∧ W.cell? ⟨a1.heap.size, 2, none⟩ = some (.string SL) ∧ W.cell? ⟨a1.heap.size, 3, none⟩ = some (.slice AB1 6 ad1)) ∧ (W.cell? ⟨a2.heap.size, 0, none⟩ = some (.int .i64 (m : Int)) ∧ W.cell? ⟨a2.heap.size, 1, none⟩ = some (.slice AA2 U.length ac2) ∧ W.cell? ⟨a2.heap.size, 2, none⟩ = some (.string SL) ∧ W.cell? ⟨a2.heap.size, 3, none⟩ = some (.slice AB2 6 ad2)) ∧ (W.cell? ⟨a3.heap.size, 0, none⟩ = some (.int .i64 (m : Int)) ∧ W.cell? ⟨a3.heap.size, 1, none⟩ = some (.slice AA3 U.length ac3) ∧ W.cell? ⟨a3.heap.size, 2, none⟩ = some (.string SL) ∧ W.cell? ⟨a3.heap.size, 3, none⟩ = some (.slice AB3 6 ad3)) from fun W h => by
              have h2 := h
              have b1 := below_then HY3.out h
              have b0 := below_then HY2.out b1
              have q0 := ((below_then HY1.out b0).block _ (Array.getElem?_eq_some_iff.1 HG0.out).1).trans HG0.out
              have q1 := (b0.block _ (Array.getElem?_eq_some_iff.1 HG1.out).1).trans HG1.out
              have q2 := (b1.block _ (Array.getElem?_eq_some_iff.1 HG2.out).1).trans HG2.out
              have q3 := (h2.block _ (Array.getElem?_eq_some_iff.1 HG3.out).1).trans HG3.out
              refine ⟨⟨?_, ?_, ?_, ?_⟩, ⟨?_, ?_, ?_, ?_⟩, ⟨?_, ?_, ?_, ?_⟩, ?_, ?_, ?_, ?_⟩ <;> (unfold World.cell?; first | (rw [q0]; rfl) | (rw [q1]; rfl) | (rw [q2]; rfl) | (rw [q3]; rfl)))
            have HBV := Lib.hid (below_then HBw.out HX3.out)
            have HS1 := Lib.hid (fun W (h : Below V3.heap.size V3 W) => (SameCharges_calls _ _ U U W (((HC0.out.below HY1.out).below HY2.out |>.below HY3.out).below h) (((HC1.out.below HY2.out).below HY3.out).below h)).mono (R' := fun e w' => e = .returned (.bool true) ∧ Below W.heap.size W w') fun e w' h1 => ⟨by rw [h1.1, (sameL_iff U U).2 rfl], h1.2⟩)
            have HS2 := Lib.hid (fun W (h : Below V3.heap.size V3 W) => (Same_calls m SL _ _ _ _ U U P0 P0 W (((HC0.out.below HY1.out).below HY2.out |>.below HY3.out).below h) ((HC2.out.below HY3.out).below h) (((HQ0.out.below HY1.out).below HY2.out |>.below HY3.out).below h) ((HQ2.out.below HY3.out).below h)).mono (R' := fun e w' => e = .returned (.bool true) ∧ Below W.heap.size W w') fun e w' h1 => ⟨by rw [h1.1, (sameL_iff U U).2 rfl]; simp, h1.2⟩)
            have HS3 := Lib.hid (fun W (h : Below V3.heap.size V3 W) => (SameCharges_calls _ _ U U W (((HC0.out.below HY1.out).below HY2.out |>.below HY3.out).below h) (HC3.out.below h)).mono (R' := fun e w' => e = .returned (.bool true) ∧ Below W.heap.size W w') fun e w' h1 => ⟨by rw [h1.1, (sameL_iff U U).2 rfl], h1.2⟩)
            have HQ0z := Lib.hid (((HQ0.out.below HY1.out).below HY2.out).below HY3.out)
            obtain ⟨⟨z0, z1, z2, z3⟩, ⟨y0, y1, y2, y3⟩, ⟨x0, x1, x2, x3⟩, u0, u1, u2, u3⟩ := HZ.out V3 (Below.refl _ _)
            rw [hV3] at z0 z1 z2 z3 y0 y1 y2 y3 x0 x1 x2 x3 u0 u1 u2 u3
            clear hV3 hbx
            go_wp2_with fail
            rw [← HV3.out]
            refine (HS1.out V3 (Below.refl _ _)).mono ?_
            rintro e b1 ⟨rfl, hb1⟩
            have HD1 := Lib.hid hb1
            clear z0 z1 z2 z3 y0 y1 y2 y3 x0 x1 x2 x3 u0 u1 u2 u3 hb1
            obtain ⟨⟨z0, z1, z2, z3⟩, ⟨y0, y1, y2, y3⟩, ⟨x0, x1, x2, x3⟩, u0, u1, u2, u3⟩ := HZ.out b1 HD1.out
            go_wp2_with fail
            refine (HS2.out b1 HD1.out).mono ?_
            rintro e b2 ⟨rfl, hb2⟩
            have HD2 := Lib.hid (below_then HD1.out hb2)
            clear z0 z1 z2 z3 y0 y1 y2 y3 x0 x1 x2 x3 u0 u1 u2 u3 hb2
            obtain ⟨⟨z0, z1, z2, z3⟩, ⟨y0, y1, y2, y3⟩, ⟨x0, x1, x2, x3⟩, u0, u1, u2, u3⟩ := HZ.out b2 HD2.out
            go_wp2_with fail
            refine (HS3.out b2 HD2.out).mono ?_
            rintro e b3 ⟨rfl, hb3⟩
            have HD3 := Lib.hid (below_then HD2.out hb3)
            clear z0 z1 z2 z3 y0 y1 y2 y3 x0 x1 x2 x3 u0 u1 u2 u3 hb3 HD1 HD2 HS1 HS2 HS3
            obtain ⟨_, A0', c0', e0', _, hat0⟩ := HQ0z.out.openG
            obtain ⟨_, A3', c3', e3', _, hat3⟩ := HQ3.out.openG
            rw [HP0.out] at e0' hat0
            rw [HP3.out] at e3' hat3
            simp only [Value.slice.injEq] at e0' e3'
            obtain ⟨rfl, -, rfl⟩ := e0'
            obtain ⟨rfl, -, rfl⟩ := e3'
            have HAT0 := Lib.hid hat0
            have HAT3 := Lib.hid hat3
            clear hat0 hat3
            obtain ⟨⟨_, _, _, z3⟩, _⟩ := HZ.out b3 HD3.out
            go_wp2_with fail
            clear z3
            go_loopw [30] (fun s30 wr => ∃ q : Nat, q ≤ 6 ∧ s30 = .int .i64 q ∧ Aside (Below V3.heap.size V3 wr)) (fun s30 _ => 6 - (intOf s30).toNat)
            case atStart => exact ⟨0, Nat.zero_le _, rfl, HD3.out⟩
            case round =>
              obtain ⟨q, hq, rfl, hB⟩ := hrel
              obtain ⟨⟨_, _, _, z3⟩, _, _, _, _, _, u3⟩ := HZ.out wr hB.out
              by_cases hlt : q < 6
              · obtain ⟨p0, o0, x0, rfl, hp0, f0, _, hi0⟩ := HAT0.out q hlt
                obtain ⟨p3, o3, x3, rfl, hp3, f3, _, hi3⟩ := HAT3.out q hlt
                have hBb := hB.out
                replace f0 := (hBb.cell (p := ⟨p0, _, none⟩) hp0).trans f0
                replace f3 := (hBb.cell (p := ⟨p3, _, none⟩) hp3).trans f3
                have hsm := HSIM.out q hlt
                rw [hsm] at hi0
                have hC := fun W (h : Below V3.heap.size V3 W) => Ints_calls x0 x3 _ _ W (hi0.below h) (hi3.below h)
                obtain ⟨_, Ax, cx, rfl, _⟩ := hi0.openD
                obtain ⟨_, Ay, cy, rfl, _⟩ := hi3.openD
                clear hi0 hi3 hsm
                generalize (P3.getD q ([], ⟨#[]⟩)).1 = pl at *
                generalize pl.length = nl at *
                have hC0 := hC wr.drew (below_drew hBb)
                rw [show decide (pl = pl) = true by simp] at hC0
                have HC := Lib.hid hC0
                have k0 : (0 : Int) ≤ (q : Int) := by omega
                have hq6 : (q : Int) < 6 := by omega
                have HLB := Lib.hid (show p0 < wr.drew.heap.size from Nat.lt_of_lt_of_le hp0 hBb.size)
                have HLB2 := Lib.hid (show p3 < wr.drew.heap.size from Nat.lt_of_lt_of_le hp3 hBb.size)
                have HLB3 := Lib.hid (show a0.heap.size < wr.drew.heap.size from World.block_lt_of_cell? wr _ z3)
                have HLB4 := Lib.hid (show a3.heap.size < wr.drew.heap.size from World.block_lt_of_cell? wr _ u3)
                clear hC hC0 hBb hp0 hp3
                go_wp2_with fail
                go_region_held3 (fun w' => w'.cell? ⟨a0.heap.size, 3, none⟩ = some (.slice (some ⟨p0, o0, none⟩) 6 ad0) ∧ w'.cell? ⟨a3.heap.size, 3, none⟩ = some (.slice (some ⟨p3, o3, none⟩) 6 ad3) ∧ w'.cell? ⟨p0, o0 + q * 2, none⟩ = some (.slice Ax nl cx) ∧ w'.cell? ⟨p3, o3 + q * 2, none⟩ = some (.slice Ay nl cy))
                  (first | (exact ⟨(hq0.cell (p := ⟨a0.heap.size, _, none⟩) HLB3.out).trans z3, (hq0.cell (p := ⟨a3.heap.size, _, none⟩) HLB4.out).trans u3, (hq0.cell (p := ⟨p0, _, none⟩) HLB.out).trans f0, (hq0.cell (p := ⟨p3, _, none⟩) HLB2.out).trans f3⟩) | go_keep)
                  (first | (go_at_call 24; ((with_reducible refine (HC.out).mono ?_)); rintro e w1 ⟨rfl, hq0⟩; have hqq := below_then (below_drew hB.out) hq0))
                have HQQ := Lib.hid hqq
                clear f0 f3 z3 u3 hqq hq0
                go_wp2
                go_roundw
                case measure => simp [intOf]; omega
                case rel => exact ⟨q + 1, by omega, by go_num, HQQ.out⟩
              · have hq6 : q = 6 := by omega
                subst hq6
                clear u3
                go_wp2_with fail
                go_ret
                exact ⟨rfl, below_then HBV.out hB.out⟩
        · have hj1' : ¬ (j : Int) < (Y.length : Int) := by omega
          have HJ10 : Hid (j ≤ 10) := Lib.hid hj2
          clear hj1 hj2 hlt1
          have HOKJ : Hid (okChs (ofL l m ++ othL m ((Y.take j).map Five.one)) = true) := Lib.hid (by
            have h1 := (okChs_facts HOK.out).2
            have h2 : (ofL l m).length ≤ l.length := List.length_filter_le _ _
            have h3 : (othL m ((Y.take j).map Five.one)).length ≤ ((Y.take j).map Five.one).length := List.length_filter_le _ _
            have h4 := HLEN.out
            rw [List.length_map] at h3
            have h5 := List.length_take_le j Y
            have h6 := HJ10.out
            refine okChs_app ?_ ?_ (by omega)
            · exact List.all_eq_true.2 fun c hc => List.all_eq_true.1 h1 c (List.mem_filter.1 hc).1
            · refine List.all_eq_true.2 fun c hc => ?_
              obtain ⟨q, _, rfl⟩ := List.mem_map.1 (List.mem_filter.1 hc).1
              exact oneC_ok q)
          have HOFJ : Hid (ofL (ofL l m ++ othL m ((Y.take j).map Five.one)) m = ofL l m) := Lib.hid (ofL_own_oth _ _ _ fun c hc => by
            have := (List.mem_filter.1 hc).2
            simpa using this)
          generalize ofL l m ++ othL m ((Y.take j).map Five.one) = LJ at *
          have HOKS : Hid (okChs (ofL l m ++ othL m l) = true) := Lib.hid (by
            have h1 := (okChs_facts HOK.out).2
            have h2 : (ofL l m).length ≤ l.length := List.length_filter_le _ _
            have h3 : (othL m l).length ≤ l.length := List.length_filter_le _ _
            have h4 := HLEN.out
            exact okChs_app (List.all_eq_true.2 fun c hc => List.all_eq_true.1 h1 c (List.mem_filter.1 hc).1) (List.all_eq_true.2 fun c hc => List.all_eq_true.1 h1 c (List.mem_filter.1 hc).1) (by omega))
          have HOKT : Hid (okChs (silL m T 0 l) = true) := Lib.hid (by
            have h1 := (okChs_facts HOK.out).2
            have h4 := HLEN.out
            simp only [okChs, Bool.and_eq_true, decide_eq_true_eq, silL_length]
            exact ⟨by omega, silL_ok m T l 0 h1⟩)
          have HKS : Hid (KB.size = 32) := Lib.hid (by have := HVAL.out; simp only [validB, Bool.and_eq_true, decide_eq_true_eq] at this; exact this.1)
          obtain ⟨A17, c17, rfl⟩ := (hO.out.1 (u17, othL m l) (by simp)).slice
          obtain ⟨A14, c14, rfl⟩ := (hO.out.1 (x14, LJ) (by simp)).slice
          obtain ⟨A15, c15, rfl⟩ := (hO.out.1 (v15, ofL l m) (by simp)).slice
          obtain ⟨A16, c16, rfl⟩ := (hO.out.1 (v16, silL m T 0 l) (by simp)).slice
          have HLO : Hid ((othL m l).length ≤ 1000) := Lib.hid (Nat.le_trans (List.length_filter_le _ _) (by have := HLEN.out; omega))
          have HLS : Hid ((ofL l m).length + (othL m l).length ≤ 1000) := Lib.hid (by
            have h2 : (ofL l m).length ≤ l.length := List.length_filter_le _ _
            have h3 : (othL m l).length ≤ l.length := List.length_filter_le _ _
            have h4 := HLEN.out
            omega)
          have HR15 := Lib.hid (hO.out.1 (.slice A15 (ofL l m).length c15, ofL l m) (by simp))
          have HC17 : Hid (Chs wr (.slice A17 (othL m l).length c17) (othL m l)) := Lib.hid ((hO.out.1 (.slice A17 (othL m l).length c17, othL m l) (by simp)).chs (by have := HLO.out; omega))
          have HO3 := Lib.hid hO.out
          have HBX3 := Lib.hid hBx.out
          have HB3 := Lib.hid hB.out
          obtain ⟨_, kb, _⟩ := box_cell (HBX3.out (W2.heap.size + 1, .slice A15 (ofL l m).length c15) (by simp))
          have HNR := Lib.hid hB.out.size
          clear hO hBx hB
          go_wp2_with (at_builtin; refine wpList_app_sl _ rfl (.tmp 125) (.tmp 126) rfl W2.heap.size (L := ofL l m) (M := othL m l) HR15.out HC17.out rfl rfl HLS.out HNR.out ?_)
          intro v15n w28 hR hgr
          obtain ⟨A15n, c15n, rfl⟩ := hR.slice
          have hx1 := HBX3.out.grow HR15.out hgr
          have hg1 := hx1 (W2.heap.size + 1, .slice A15 (ofL l m).length c15) (by simp)
          have hrest := Owns.rest (S := [(.slice A17 (othL m l).length c17, othL m l), (.slice A14 LJ.length c14, LJ)]) (T := [(.slice A16 (silL m T 0 l).length c16, silL m T 0 l)]) HO3.out hgr
          obtain ⟨qa, qb⟩ := (box_cell hg1).2
          obtain ⟨WF, hWF⟩ : ∃ WF, WF = w28.setCell ⟨W2.heap.size + 1, 1, none⟩ (.slice A15n (ofL l m ++ othL m l).length c15n) := ⟨_, rfl⟩
          have hx2 : Boxes KB WF [(W2.heap.size, .slice A14 LJ.length c14), (W2.heap.size + 1, .slice A15n (ofL l m ++ othL m l).length c15n), (W2.heap.size + 1 + 1, .slice A16 (silL m T 0 l).length c16)] := by
            rw [hWF]
            exact Boxes.set (S := [(W2.heap.size, .slice A14 LJ.length c14)]) (T := [(W2.heap.size + 1 + 1, .slice A16 (silL m T 0 l).length c16)]) hx1 (by intro p hp; simp at hp; rcases hp with rfl | rfl <;> simp <;> omega) _
          have hfar : ∀ k, k ≠ W2.heap.size + 1 → WF.heap[k]? = w28.heap[k]? := fun k hk => by rw [hWF]; exact setCell_block _ _ _ _ _ hk
          have hr14 := (hrest (.slice A14 LJ.length c14, LJ) (by simp)).far hg1 (by decide) hfar
          have hr16 := (hrest (.slice A16 (silL m T 0 l).length c16, silL m T 0 l) (by simp)).far hg1 (by decide) hfar
          have hr15 := Row.far hR hg1 (by decide) hfar
          have hBF : Below W2.heap.size W2 WF := by
            rw [hWF]
            exact (HB3.out.grown hgr HNR.out (fun k hk => (ownsRow_lt HR15.out hk).1)).setCell (p := ⟨W2.heap.size + 1, 1, none⟩) (by show W2.heap.size ≤ W2.heap.size + 1; omega) _
          have C0 : Chs WF (.slice A l.length c) l := HC2.out.below hBF
          have C1 : Chs WF (.slice A14 LJ.length c14) LJ := hr14.chs (by have := (okChs_facts HOKJ.out).1; omega)
          have C2 : Chs WF (.slice A15n (ofL l m ++ othL m l).length c15n) (ofL l m ++ othL m l) := hr15.chs (by have := (okChs_facts HOKS.out).1; omega)
          have C3 : Chs WF (.slice A16 (silL m T 0 l).length c16) (silL m T 0 l) := hr16.chs (by have := (okChs_facts HOKT.out).1; omega)
          have hBw : Below w.heap.size w WF := below_then HB2.out hBF
          have hRF := HRD.out.below hBw
          have hvl : ∀ L : List Ch, okChs L = true → validB KB L = true := fun L h => by simp only [validB, h, HKS.out, Bool.and_true, decide_true]
          have hA0 := fun W (h : Below WF.heap.size WF W) => Account_gen KB _ l m W (C0.below h) HVAL.out (by have := HM8.out; omega) (hRF.below h)
          have hA1 := fun W (h : Below WF.heap.size WF W) => Account_gen KB _ LJ m W (C1.below h) (hvl _ HOKJ.out) (by have := HM8.out; omega) (hRF.below h)
          have hA2 := fun W (h : Below WF.heap.size WF W) => Account_gen KB _ (ofL l m ++ othL m l) m W (C2.below h) (hvl _ HOKS.out) (by have := HM8.out; omega) (hRF.below h)
          have hA3 := fun W (h : Below WF.heap.size WF W) => Account_gen KB _ (silL m T 0 l) m W (C3.below h) (hvl _ HOKT.out) (by have := HM8.out; omega) (hRF.below h)
          rw [HOFJ.out] at hA1
          rw [ofL_same l m m, pathL_of KB (fun h => ofL_same l m h)] at hA2
          rw [ofL_sil_own] at hA3
          have HF := Lib.hid (show ∀ W, Below WF.heap.size WF W → (W.cell? ⟨w2.heap.size, 0, none⟩ = some (.string KB) ∧ W.cell? ⟨w2.heap.size, 1, none⟩ = some (.slice A l.length c)) ∧ (W.cell? ⟨W2.heap.size, 0, none⟩ = some (.string KB) ∧ W.cell? ⟨W2.heap.size, 1, none⟩ = some (.slice A14 LJ.length c14)) ∧
              (W.cell? ⟨W2.heap.size + 1, 0, none⟩ = some (.string KB) ∧ W.cell? ⟨W2.heap.size + 1, 1, none⟩ = some (.slice A15n (ofL l m ++ othL m l).length c15n)) ∧ (W.cell? ⟨W2.heap.size + 1 + 1, 0, none⟩ = some (.string KB) ∧ W.cell? ⟨W2.heap.size + 1 + 1, 1, none⟩ = some (.slice A16 (silL m T 0 l).length c16)) from fun W h => by
            have q0 := (h.block _ (by have h1 := HZ2.out; have h2 := hBF.size; omega)).trans ((hBF.block _ (by have := HZ2.out; omega : w2.heap.size < W2.heap.size)).trans HG12.out)
            have q1 := (hx2.below h) (W2.heap.size, .slice A14 LJ.length c14) (by simp)
            have q2 := (hx2.below h) (W2.heap.size + 1, .slice A15n (ofL l m ++ othL m l).length c15n) (by simp)
            have q3 := (hx2.below h) (W2.heap.size + 1 + 1, .slice A16 (silL m T 0 l).length c16) (by simp)
            exact ⟨⟨(box_cell q0).1, (box_cell q0).2.1⟩, ⟨(box_cell q1).1, (box_cell q1).2.1⟩, ⟨(box_cell q2).1, (box_cell q2).2.1⟩, (box_cell q3).1, (box_cell q3).2.1⟩)
          have HSIM := Lib.hid (show ∀ q, q < 6 → ((pathL KB l m 6).getD q ([], ⟨#[]⟩)).1 = ((pathL KB (silL m T 0 l) m 6).getD q ([], ⟨#[]⟩)).1 from fun q hq => pathL_sim KB (SimL.sil m T l 0) m 6 q hq)
          have HP0 := Lib.hid (pathL_length KB l m 6)
          have HP3 := Lib.hid (pathL_length KB (silL m T 0 l) m 6)
          have HA0 := Lib.hid hA0
          have HA1 := Lib.hid hA1
          have HA2 := Lib.hid hA2
          have HA3 := Lib.hid hA3
          have HBw := Lib.hid hBw
          have HWF := Lib.hid hWF
          clear hx1 hg1 hrest hx2 hfar hr14 hr16 hr15 hBF C0 C1 C2 C3 hBw hRF hvl hA0 hA1 hA2 hA3 hWF hR hgr kb HO3 HBX3 HB3 HR15 HC17 HNR HOKJ HOFJ HOKS HOKT HKS HLO HLS HTT HYY HATY HATT HLY HLT
          generalize (ofL l m ++ othL m l).length = N2 at *
          generalize (silL m T 0 l).length = N3 at *
          generalize pathL KB l m 6 = P0 at *
          generalize pathL KB LJ m 6 = P1 at *
          generalize pathL KB (silL m T 0 l) m 6 = P3 at *
          generalize ofL l m = U at *
          generalize saltH KB m = SL at *
          generalize LJ.length = N1 at *
          go_upto_region 28 with (fail)
          rw [← HWF.out]
          clear HWF qa qb
          obtain ⟨⟨k0, k1⟩, _⟩ := HF.out WF (Below.refl _ _)
          go_wp2_with fail
          refine (HA0.out WF (Below.refl _ _)).mono ?_
          rintro e a0 ⟨AA0, ac0, AB0, ad0, rfl, hC0, hP0, hb0⟩
          obtain ⟨V0, hV0⟩ : ∃ V, V = a0.alloc (.cells #[.int .i64 (m : Int), .slice AA0 U.length ac0, .string SL, .slice AB0 6 ad0] 51) := ⟨_, rfl⟩
          have hbx : Below WF.heap.size WF V0 := by rw [hV0]; exact below_alloc hb0 _
          have HX0 : Hid (Below WF.heap.size WF V0) := Lib.hid (hbx)
          have HC0 : Hid (Chs V0 (.slice AA0 U.length ac0) U) := Lib.hid (by rw [hV0]; exact hC0.below (below_one a0 _))
          have HQ0 : Hid (Pth V0 (.slice AB0 6 ad0) P0) := Lib.hid (by rw [hV0]; exact hP0.below (below_one a0 _))
          have HG0 : Hid (V0.heap[a0.heap.size]? = some (.cells #[.int .i64 (m : Int), .slice AA0 U.length ac0, .string SL, .slice AB0 6 ad0] 51 (0, 0))) := Lib.hid (by rw [hV0]; exact heap_new a0 _)
          have HV0 := Lib.hid hV0
          clear k0 k1 hC0 hP0 hb0
          obtain ⟨_, ⟨k0, k1⟩, _⟩ := HF.out V0 HX0.out
          rw [hV0] at k0 k1
          clear hV0 hbx
          go_wp2_with fail
          rw [← HV0.out]
          refine (HA1.out V0 HX0.out).mono ?_
          rintro e a1 ⟨AA1, ac1, AB1, ad1, rfl, hC1, hP1, hb1⟩
          obtain ⟨V1, hV1⟩ : ∃ V, V = a1.alloc (.cells #[.int .i64 (m : Int), .slice AA1 U.length ac1, .string SL, .slice AB1 6 ad1] 51) := ⟨_, rfl⟩
          have hbx : Below V0.heap.size V0 V1 := by rw [hV1]; exact below_alloc hb1 _
          have HX1 : Hid (Below WF.heap.size WF V1) := Lib.hid (below_then HX0.out hbx)
          have HC1 : Hid (Chs V1 (.slice AA1 U.length ac1) U) := Lib.hid (by rw [hV1]; exact hC1.below (below_one a1 _))
          have HQ1 : Hid (Pth V1 (.slice AB1 6 ad1) P1) := Lib.hid (by rw [hV1]; exact hP1.below (below_one a1 _))
          have HG1 : Hid (V1.heap[a1.heap.size]? = some (.cells #[.int .i64 (m : Int), .slice AA1 U.length ac1, .string SL, .slice AB1 6 ad1] 51 (0, 0))) := Lib.hid (by rw [hV1]; exact heap_new a1 _)
          have HV1 := Lib.hid hV1
          have HY1 := Lib.hid hbx
          clear k0 k1 hC1 hP1 hb1
          obtain ⟨_, _, ⟨k0, k1⟩, _⟩ := HF.out V1 HX1.out
          rw [hV1] at k0 k1
          clear hV1 hbx
          go_wp2_with fail
          rw [← HV1.out]
          refine (HA2.out V1 HX1.out).mono ?_
          rintro e a2 ⟨AA2, ac2, AB2, ad2, rfl, hC2, hP2, hb2⟩
          obtain ⟨V2, hV2⟩ : ∃ V, V = a2.alloc (.cells #[.int .i64 (m : Int), .slice AA2 U.length ac2, .string SL, .slice AB2 6 ad2] 51) := ⟨_, rfl⟩
          have hbx : Below V1.heap.size V1 V2 := by rw [hV2]; exact below_alloc hb2 _
          have HX2 : Hid (Below WF.heap.size WF V2) := Lib.hid (below_then HX1.out hbx)
          have HC2 : Hid (Chs V2 (.slice AA2 U.length ac2) U) := Lib.hid (by rw [hV2]; exact hC2.below (below_one a2 _))
          have HQ2 : Hid (Pth V2 (.slice AB2 6 ad2) P0) := Lib.hid (by rw [hV2]; exact hP2.below (below_one a2 _))
          have HG2 : Hid (V2.heap[a2.heap.size]? = some (.cells #[.int .i64 (m : Int), .slice AA2 U.length ac2, .string SL, .slice AB2 6 ad2] 51 (0, 0))) := Lib.hid (by rw [hV2]; exact heap_new a2 _)
          have HV2 := Lib.hid hV2
          have HY2 := Lib.hid hbx
          clear k0 k1 hC2 hP2 hb2
          obtain ⟨_, _, _, k0, k1⟩ := HF.out V2 HX2.out
          rw [hV2] at k0 k1
          clear hV2 hbx
          go_wp2_with fail
          rw [← HV2.out]
          refine (HA3.out V2 HX2.out).mono ?_
          rintro e a3 ⟨AA3, ac3, AB3, ad3, rfl, hC3, hP3, hb3⟩
          obtain ⟨V3, hV3⟩ : ∃ V, V = a3.alloc (.cells #[.int .i64 (m : Int), .slice AA3 U.length ac3, .string SL, .slice AB3 6 ad3] 51) := ⟨_, rfl⟩
          have hbx : Below V2.heap.size V2 V3 := by rw [hV3]; exact below_alloc hb3 _
          have HX3 : Hid (Below WF.heap.size WF V3) := Lib.hid (below_then HX2.out hbx)
          have HC3 : Hid (Chs V3 (.slice AA3 U.length ac3) U) := Lib.hid (by rw [hV3]; exact hC3.below (below_one a3 _))
          have HQ3 : Hid (Pth V3 (.slice AB3 6 ad3) P3) := Lib.hid (by rw [hV3]; exact hP3.below (below_one a3 _))
          have HG3 : Hid (V3.heap[a3.heap.size]? = some (.cells #[.int .i64 (m : Int), .slice AA3 U.length ac3, .string SL, .slice AB3 6 ad3] 51 (0, 0))) := Lib.hid (by rw [hV3]; exact heap_new a3 _)
          have HV3 := Lib.hid hV3
          have HY3 := Lib.hid hbx
          clear k0 k1 hC3 hP3 hb3
          have HZ := Lib.hid (show ∀ W, Below V3.heap.size V3 W → (W.cell? ⟨a0.heap.size, 0, none⟩ = some (.int .i64 (m : Int)) ∧ W.cell? ⟨a0.heap.size, 1, none⟩ = some (.slice AA0 U.length ac0) ∧ W.cell? ⟨a0.heap.size, 2, none⟩ = some (.string SL) ∧ W.cell? ⟨a0.heap.size, 3, none⟩ = some (.slice AB0 6 ad0)) ∧ (W.cell? ⟨a1.heap.size, 0, none⟩ = some (.int .i64 (m : Int)) ∧ W.cell? ⟨a1.heap.size, 1, none⟩ = some (.slice AA1 U.length ac1) ∧ W.cell? ⟨a1.heap.size, 2, none⟩ = some (.string SL) ∧ W.cell? ⟨a1.heap.size, 3, none⟩ = some (.slice AB1 6 ad1)) ∧ (W.cell? ⟨a2.heap.size, 0, none⟩ = some (.int .i64 (m : Int)) ∧ W.cell? ⟨a2.heap.size, 1, none⟩ = some (.slice AA2 U.length ac2) ∧ W.cell? ⟨a2.heap.size, 2, none⟩ = some (.string SL) ∧ W.cell? ⟨a2.heap.size, 3, none⟩ = some (.slice AB2 6 ad2)) ∧ (W.cell? ⟨a3.heap.size, 0, none⟩ = some (.int .i64 (m : Int)) ∧ W.cell? ⟨a3.heap.size, 1, none⟩ = some (.slice AA3 U.length ac3) ∧ W.cell? ⟨a3.heap.size, 2, none⟩ = some (.string SL) ∧ W.cell? ⟨a3.heap.size, 3, none⟩ = some (.slice AB3 6 ad3)) from fun W h => by
            have h2 := h
            have b1 := below_then HY3.out h
            have b0 := below_then HY2.out b1
            have q0 := ((below_then HY1.out b0).block _ (Array.getElem?_eq_some_iff.1 HG0.out).1).trans HG0.out
            have q1 := (b0.block _ (Array.getElem?_eq_some_iff.1 HG1.out).1).trans HG1.out
            have q2 := (b1.block _ (Array.getElem?_eq_some_iff.1 HG2.out).1).trans HG2.out
            have q3 := (h2.block _ (Array.getElem?_eq_some_iff.1 HG3.out).1).trans HG3.out
            refine ⟨⟨?_, ?_, ?_, ?_⟩, ⟨?_, ?_, ?_, ?_⟩, ⟨?_, ?_, ?_, ?_⟩, ?_, ?_, ?_, ?_⟩ <;> (unfold World.cell?; first | (rw [q0]; rfl) | (rw [q1]; rfl) | (rw [q2]; rfl) | (rw [q3]; rfl)))
          have HBV := Lib.hid (below_then HBw.out HX3.out)
          have HS1 := Lib.hid (fun W (h : Below V3.heap.size V3 W) => (SameCharges_calls _ _ U U W (((HC0.out.below HY1.out).below HY2.out |>.below HY3.out).below h) (((HC1.out.below HY2.out).below HY3.out).below h)).mono (R' := fun e w' => e = .returned (.bool true) ∧ Below W.heap.size W w') fun e w' h1 => ⟨by rw [h1.1, (sameL_iff U U).2 rfl], h1.2⟩)
          have HS2 := Lib.hid (fun W (h : Below V3.heap.size V3 W) => (Same_calls m SL _ _ _ _ U U P0 P0 W (((HC0.out.below HY1.out).below HY2.out |>.below HY3.out).below h) ((HC2.out.below HY3.out).below h) (((HQ0.out.below HY1.out).below HY2.out |>.below HY3.out).below h) ((HQ2.out.below HY3.out).below h)).mono (R' := fun e w' => e = .returned (.bool true) ∧ Below W.heap.size W w') fun e w' h1 => ⟨by rw [h1.1, (sameL_iff U U).2 rfl]; simp, h1.2⟩)
          have HS3 := Lib.hid (fun W (h : Below V3.heap.size V3 W) => (SameCharges_calls _ _ U U W (((HC0.out.below HY1.out).below HY2.out |>.below HY3.out).below h) (HC3.out.below h)).mono (R' := fun e w' => e = .returned (.bool true) ∧ Below W.heap.size W w') fun e w' h1 => ⟨by rw [h1.1, (sameL_iff U U).2 rfl], h1.2⟩)
          have HQ0z := Lib.hid (((HQ0.out.below HY1.out).below HY2.out).below HY3.out)
          obtain ⟨⟨z0, z1, z2, z3⟩, ⟨y0, y1, y2, y3⟩, ⟨x0, x1, x2, x3⟩, u0, u1, u2, u3⟩ := HZ.out V3 (Below.refl _ _)
          rw [hV3] at z0 z1 z2 z3 y0 y1 y2 y3 x0 x1 x2 x3 u0 u1 u2 u3
          clear hV3 hbx
          go_wp2_with fail
          rw [← HV3.out]
          refine (HS1.out V3 (Below.refl _ _)).mono ?_
          rintro e b1 ⟨rfl, hb1⟩
          have HD1 := Lib.hid hb1
          clear z0 z1 z2 z3 y0 y1 y2 y3 x0 x1 x2 x3 u0 u1 u2 u3 hb1
          obtain ⟨⟨z0, z1, z2, z3⟩, ⟨y0, y1, y2, y3⟩, ⟨x0, x1, x2, x3⟩, u0, u1, u2, u3⟩ := HZ.out b1 HD1.out
          go_wp2_with fail
          refine (HS2.out b1 HD1.out).mono ?_
          rintro e b2 ⟨rfl, hb2⟩
          have HD2 := Lib.hid (below_then HD1.out hb2)
          clear z0 z1 z2 z3 y0 y1 y2 y3 x0 x1 x2 x3 u0 u1 u2 u3 hb2
          obtain ⟨⟨z0, z1, z2, z3⟩, ⟨y0, y1, y2, y3⟩, ⟨x0, x1, x2, x3⟩, u0, u1, u2, u3⟩ := HZ.out b2 HD2.out
          go_wp2_with fail
          refine (HS3.out b2 HD2.out).mono ?_
          rintro e b3 ⟨rfl, hb3⟩
          have HD3 := Lib.hid (below_then HD2.out hb3)
          clear z0 z1 z2 z3 y0 y1 y2 y3 x0 x1 x2 x3 u0 u1 u2 u3 hb3 HD1 HD2 HS1 HS2 HS3
          obtain ⟨_, A0', c0', e0', _, hat0⟩ := HQ0z.out.openG
          obtain ⟨_, A3', c3', e3', _, hat3⟩ := HQ3.out.openG
          rw [HP0.out] at e0' hat0
          rw [HP3.out] at e3' hat3
          simp only [Value.slice.injEq] at e0' e3'
          obtain ⟨rfl, -, rfl⟩ := e0'
          obtain ⟨rfl, -, rfl⟩ := e3'
          have HAT0 := Lib.hid hat0
          have HAT3 := Lib.hid hat3
          clear hat0 hat3
          obtain ⟨⟨_, _, _, z3⟩, _⟩ := HZ.out b3 HD3.out
          go_wp2_with fail
          clear z3
          go_loopw [30] (fun s30 wr => ∃ q : Nat, q ≤ 6 ∧ s30 = .int .i64 q ∧ Aside (Below V3.heap.size V3 wr)) (fun s30 _ => 6 - (intOf s30).toNat)
          case atStart => exact ⟨0, Nat.zero_le _, rfl, HD3.out⟩
          case round =>
            obtain ⟨q, hq, rfl, hB⟩ := hrel
            obtain ⟨⟨_, _, _, z3⟩, _, _, _, _, _, u3⟩ := HZ.out wr hB.out
            by_cases hlt : q < 6
            · obtain ⟨p0, o0, x0, rfl, hp0, f0, _, hi0⟩ := HAT0.out q hlt
              obtain ⟨p3, o3, x3, rfl, hp3, f3, _, hi3⟩ := HAT3.out q hlt
              have hBb := hB.out
              replace f0 := (hBb.cell (p := ⟨p0, _, none⟩) hp0).trans f0
              replace f3 := (hBb.cell (p := ⟨p3, _, none⟩) hp3).trans f3
              have hsm := HSIM.out q hlt
              rw [hsm] at hi0
              have hC := fun W (h : Below V3.heap.size V3 W) => Ints_calls x0 x3 _ _ W (hi0.below h) (hi3.below h)
              obtain ⟨_, Ax, cx, rfl, _⟩ := hi0.openD
              obtain ⟨_, Ay, cy, rfl, _⟩ := hi3.openD
              clear hi0 hi3 hsm
              generalize (P3.getD q ([], ⟨#[]⟩)).1 = pl at *
              generalize pl.length = nl at *
              have hC0 := hC wr.drew (below_drew hBb)
              rw [show decide (pl = pl) = true by simp] at hC0
              have HC := Lib.hid hC0
              have k0 : (0 : Int) ≤ (q : Int) := by omega
              have hq6 : (q : Int) < 6 := by omega
              have HLB := Lib.hid (show p0 < wr.drew.heap.size from Nat.lt_of_lt_of_le hp0 hBb.size)
              have HLB2 := Lib.hid (show p3 < wr.drew.heap.size from Nat.lt_of_lt_of_le hp3 hBb.size)
              have HLB3 := Lib.hid (show a0.heap.size < wr.drew.heap.size from World.block_lt_of_cell? wr _ z3)
              have HLB4 := Lib.hid (show a3.heap.size < wr.drew.heap.size from World.block_lt_of_cell? wr _ u3)
              clear hC hC0 hBb hp0 hp3
              go_wp2_with fail
              go_region_held3 (fun w' => w'.cell? ⟨a0.heap.size, 3, none⟩ = some (.slice (some ⟨p0, o0, none⟩) 6 ad0) ∧ w'.cell? ⟨a3.heap.size, 3, none⟩ = some (.slice (some ⟨p3, o3, none⟩) 6 ad3) ∧ w'.cell? ⟨p0, o0 + q * 2, none⟩ = some (.slice Ax nl cx) ∧ w'.cell? ⟨p3, o3 + q * 2, none⟩ = some (.slice Ay nl cy))
                (first | (exact ⟨(hq0.cell (p := ⟨a0.heap.size, _, none⟩) HLB3.out).trans z3, (hq0.cell (p := ⟨a3.heap.size, _, none⟩) HLB4.out).trans u3, (hq0.cell (p := ⟨p0, _, none⟩) HLB.out).trans f0, (hq0.cell (p := ⟨p3, _, none⟩) HLB2.out).trans f3⟩) | go_keep)
                (first | (go_at_call 24; ((with_reducible refine (HC.out).mono ?_)); rintro e w1 ⟨rfl, hq0⟩; have hqq := below_then (below_drew hB.out) hq0))
              have HQQ := Lib.hid hqq
              clear f0 f3 z3 u3 hqq hq0
              go_wp2
              go_roundw
              case measure => simp [intOf]; omega
              case rel => exact ⟨q + 1, by omega, by go_num, HQQ.out⟩
            · have hq6 : q = 6 := by omega
              subst hq6
              clear u3
              go_wp2_with fail
              go_ret
              exact ⟨rfl, below_then HBV.out hB.out⟩
end Go.Proofs.YthohfbeelepkmaaDoor

