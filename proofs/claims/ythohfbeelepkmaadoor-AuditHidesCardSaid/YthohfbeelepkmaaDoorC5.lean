/- audit.rows$1: a round of the outer loop: a row is handed over, and the next one is made. -/
import Derived.Test.YthohfbeelepkmaaDoorC3
namespace Go.Proofs.YthohfbeelepkmaaDoor
open Go.RowKit Go.Shelf
attribute [local go_sem] Oper.semAt_some

def mark (r : Nat) : Deferred := { target := .collected r, args := #[] }
/-- Marks that lie as they were laid. -/
def Marks (n : Nat) (rs : List Nat) (W : World) : Prop := rs.Nodup ∧ ∀ r ∈ rs, n ≤ r ∧ W.heap[r]? = some (.deferred (some []))
theorem levelT_totC (key : ByteArray) {l : List Ch} (h : okChs l = true) (k : Nat) : ∀ x ∈ (levelT key l k).map (fun t => totC t.1 t.2), x.length = 9 := by
  intro x hx
  simp only [List.mem_map] at hx
  obtain ⟨t, ht, rfl⟩ := hx
  obtain ⟨j, _, rfl⟩ := List.mem_map.1 ht
  simp [totC, (nodeT_ok key h k j).1]
theorem ownsRow_NR {key : ByteArray} {l : List Ch} {pre : List Value} {g c n : Nat} {W : World} (hok : okChs l = true) (h : W.ownsRow n 81 9 (.slice (some ⟨g, 0, none⟩) (2 ^ (6 - pre.length)) c) (2 ^ (6 - pre.length)) (totV (levelT key l pre.length))) :
    NR key l pre (.slice (some ⟨g, 0, none⟩) (2 ^ (6 - pre.length)) c) W :=
  ⟨g, c, rfl, ownsRow_sl h (by simp [levelT]) (levelT_totC key hok _) (Nat.le_trans (Nat.pow_le_pow_right (by decide) (Nat.sub_le 6 _)) (by decide))⟩
theorem ownsRow_kp {n : Nat} {bs : List Nat} {A B : World} {v : Value} {k : Nat} {xs : List Value} (h : A.ownsRow n 81 9 v k xs) (hk : KpR n bs A B) : B.ownsRow n 81 9 v k xs := by
  refine ⟨h.1, ?_⟩
  rcases h.2 with h2 | ⟨g, cap, cur, rfl, hn, hg, h3⟩
  · exact .inl h2
  · exact .inr ⟨g, cap, cur, rfl, hn, hk.2.1 g _ hn hg (by rfl), h3⟩
theorem Marks.kp {n : Nat} {bs : List Nat} {A B : World} {rs : List Nat} (h : Marks n rs A) (hk : KpR n bs A B) : Marks n rs B :=
  ⟨h.1, fun r hr => ⟨(h.2 r hr).1, hk.2.1 r _ (h.2 r hr).1 (h.2 r hr).2 rfl⟩⟩
theorem Marks.below {n : Nat} {A B : World} {rs : List Nat} (h : Marks n rs A) (hk : Below A.heap.size A B) : Marks n rs B :=
  ⟨h.1, fun r hr => ⟨(h.2 r hr).1, (hk.block r (Array.getElem?_eq_some_iff.1 (h.2 r hr).2).1).trans (h.2 r hr).2⟩⟩
theorem Rd.kp {n : Nat} {bs : List Nat} {A B : World} (h : Rd A) (hk : KpR n bs A B) (h0 : 0 ∈ bs) : Rd B := h.of_block (hk.1 0 h0)

set_option maxHeartbeats 4000000 in
set_option maxRecDepth 100000 in
theorem rows2_round (l0 n : Nat) (bs : List Nat) (key : ByteArray) (l : List Ch) (J : List Value → World → Prop) (k : Nat) (pre : List Value) (g c : Nat) (W : World) (p1 p2 p4 p5 p6 p7 p8 p9 p10 p11 p12 p13 p14 p15 p16 p17 p18 p19 p20 p21 p22 p23 p24 p25 p26 p27 p28 p29 p30 p31 p32 p33 p34 p35 p36 p37 p38 p39 p40 p41 p42 p43 p44 : Value) (rs : List Nat) (Q : Exit → Act → World → Prop)
    (hJ : ∀ s A B, StR n A B → J s A → J s B)
    (hY : ∀ pre x W1, J pre W1 → NR key l pre x W1 → YieldAt Fence.wide 3 Tryd.prog l0 #[x] W1 fun e W' => e = .returned (.bool true) ∧ J (pre ++ [x]) W' ∧ KpR n bs W1 W')
    (hok : okChs l = true) (h0bs : 0 ∈ bs) (hk : k ≤ 6) (hpre : pre.length = k) (hj : J pre W) (hown : W.ownsRow n 81 9 (.slice (some ⟨g, 0, none⟩) (2 ^ (6 - k)) c) (2 ^ (6 - k)) (totV (levelT key l k))) (hRd : Rd W) (hn : n ≤ W.heap.size) (hM : Marks n rs W)
    (hQ1 : k = 6 → ∀ W' a', a'.defers = rs.map mark → J (pre ++ [.slice (some ⟨g, 0, none⟩) (2 ^ (6 - k)) c]) W' → Marks n rs W' → Q (.exit 2) a' W')
    (hQ2 : k < 6 → ∀ W' g' c' r (q1 q2 q4 q5 q6 q7 q8 q9 q10 q11 q12 q13 q14 q15 q16 q17 q18 q19 q20 q21 q22 q23 q24 q25 q26 q27 q28 q29 q30 q31 q32 q33 q34 q35 q36 q37 q38 q39 q40 q41 q42 q43 q44 : Value), J (pre ++ [.slice (some ⟨g, 0, none⟩) (2 ^ (6 - k)) c]) W' → W'.ownsRow n 81 9 (.slice (some ⟨g', 0, none⟩) (2 ^ (6 - (k + 1))) c') (2 ^ (6 - (k + 1))) (totV (levelT key l (k + 1))) → Rd W' → n ≤ W'.heap.size → Marks n (r :: rs) W' →
      Q .normal { tmps := #[.func (.yield l0) #[] #[], q1, q2, .slice (some ⟨g', 0, none⟩) (2 ^ (6 - (k + 1))) c', q4, q5, q6, q7, q8, q9, q10, q11, q12, q13, q14, q15, q16, q17, q18, q19, q20, q21, q22, q23, q24, q25, q26, q27, q28, q29, q30, q31, q32, q33, q34, q35, q36, q37, q38, q39, q40, q41, q42, q43, q44], defers := (r :: rs).map mark } W') :
    (rows2 (Tryd.f75.body.getD .skip)).wp Tryd.prog Q { tmps := #[.func (.yield l0) #[] #[], p1, p2, .slice (some ⟨g, 0, none⟩) (2 ^ (6 - k)) c, p4, p5, p6, p7, p8, p9, p10, p11, p12, p13, p14, p15, p16, p17, p18, p19, p20, p21, p22, p23, p24, p25, p26, p27, p28, p29, p30, p31, p32, p33, p34, p35, p36, p37, p38, p39, p40, p41, p42, p43, p44], defers := rs.map mark } W := by
  subst hpre
  have hNR := ownsRow_NR hok hown
  obtain ⟨fn, tmps, assign, body, hy, hR⟩ := hY _ _ W hj hNR
  have HOWN := Lib.hid hown
  have HRD := Lib.hid hRd
  have HM := Lib.hid hM
  have HQ1 := Lib.hid hQ1
  have HQ2 := Lib.hid hQ2
  have HJ := Lib.hid hJ
  have HOK := Lib.hid hok
  clear hY hNR hown hRd hM hQ1 hQ2 hJ hok hj
  generalize hD : rs.map mark = DS at *
  have HD := Lib.hid hD
  clear hD
  simp only [Tryd.f75, rows2, Option.getD]
  generalize hrow : pre ++ [.slice (some ⟨g, 0, none⟩) (2 ^ (6 - pre.length)) c] = pre2 at *
  have HROW := Lib.hid hrow
  clear hrow
  obtain ⟨N, hN⟩ : ∃ N, N = 2 ^ (6 - pre.length) := ⟨_, rfl⟩
  rw [← hN] at hy ⊢
  have HN := Lib.hid hN
  clear hN
  rcases Nat.lt_or_ge pre.length 6 with hk6 | hk6
  · obtain ⟨m, hm⟩ : ∃ m, m = 2 ^ (6 - (pre.length + 1)) := ⟨_, rfl⟩
    have hNm : N = 2 * m := by
      rw [HN.out, hm, show 6 - pre.length = 6 - (pre.length + 1) + 1 by omega, Nat.pow_succ]; omega
    have hm1 : 1 ≤ m := by rw [hm]; exact Nat.one_le_two_pow
    have hm32 : m ≤ 64 := by rw [hm]; exact Nat.le_trans (Nat.pow_le_pow_right (by decide) (Nat.sub_le 6 _)) (by decide)
    have hN1 : (1 : Int) < (N : Int) := by omega
    have hN128 : N ≤ 128 := by omega
    have HM2 := Lib.hid hm
    have HNm := Lib.hid hNm
    clear hm hNm
    refine (wpIn_wide (n := 4)).1 ?_
    gi_wp2
    refine hR.mono ?_
    rintro e W3 ⟨rfl, hJ3, hkp⟩
    clear hy hR
    gi_wp2
    refine ⟨trivial, callsIn_wide.2 ((ChunkT_calls _ _ _ _).mono ?_)⟩
    rintro e w' ⟨rfl, rfl⟩
    gi_wp2
    refine wpIn_wide.2 ?_
    rename_i Kq
    have HKQ : True := trivial
    have hown3 := ownsRow_kp (by have := HOWN.out; rw [← HN.out] at this; exact this) hkp
    have hRd3 := HRD.out.kp hkp h0bs
    have hM3 := HM.out.kp hkp
    have hn3 : n ≤ W3.heap.size := Nat.le_trans hn hkp.2.2
    have hSl := ownsRow_sl hown3 (by simp [levelT, HN.out]) (levelT_totC key HOK.out _) (by omega)
    have hcap : N ≤ c := by
      rcases hown3.2 with ⟨e, _⟩ | ⟨_, _, _, e, _, _, h, _⟩
      · cases e
      · cases e; exact h
    have hgl : g < W3.heap.size := (hown3.lt g rfl).2
    have hRng : ∀ j, j < m → W3.rangeAt g (0 + 2 * j * 9) (totC (nodeT key l pre.length (2 * j)).1 (nodeT key l pre.length (2 * j)).2) ∧ W3.rangeAt g (0 + 2 * j * 9 + 9) (totC (nodeT key l pre.length (2 * j + 1)).1 (nodeT key l pre.length (2 * j + 1)).2) := by
      intro j hj
      obtain ⟨_, _, A, cap, e, _, h⟩ := hSl
      simp only [Value.slice.injEq] at e
      obtain ⟨hA, _, _⟩ := e
      subst hA
      obtain ⟨b', off, e, _, hc⟩ := h (by simp only [List.length_map, levelT, List.length_range]; exact Nat.pos_of_ne_zero (by simp))
      simp only [Option.some.injEq, Addr.mk.injEq] at e
      obtain ⟨rfl, rfl, _⟩ := e
      have hlv : ∀ q, q < N → ((levelT key l pre.length).map fun t => totC t.1 t.2)[q]? = some (totC (nodeT key l pre.length q).1 (nodeT key l pre.length q).2) := by
        intro q hq
        simp only [levelT, List.getElem?_map]
        rw [List.getElem?_range (by rw [← HN.out]; exact hq)]
        rfl
      refine ⟨fun i x hx => ?_, fun i x hx => ?_⟩
      · exact hc (2 * j) i _ x (hlv _ (by have := HNm.out; omega)) hx
      · have := hc (2 * j + 1) i _ x (hlv _ (by have := HNm.out; omega)) hx
        rwa [show 0 + (2 * j + 1) * 9 + i = 0 + 2 * j * 9 + 9 + i by omega] at this
    obtain ⟨n1, hn1⟩ : ∃ n1, n1 = W3.heap.size := ⟨_, rfl⟩
    have hB0 : Boxed (((W3.alloc (.cells #[.slice none 0 0] 85)).alloc (.cells #[.slice (some ⟨g, 0, none⟩) N c] 85)).alloc (.cells #[.int .i64 2] 3)) n1 85 (.slice none 0 0) := by
      rw [hn1]; exact ((Boxed.new W3 _ _).alloc _).alloc _
    have hB1 : Boxed (((W3.alloc (.cells #[.slice none 0 0] 85)).alloc (.cells #[.slice (some ⟨g, 0, none⟩) N c] 85)).alloc (.cells #[.int .i64 2] 3)) (n1 + 1) 85 (.slice (some ⟨g, 0, none⟩) N c) := by
      have := (Boxed.new (W3.alloc (.cells #[.slice none 0 0] 85)) 85 (.slice (some ⟨g, 0, none⟩) N c)).alloc (.cells #[.int .i64 2] 3)
      rw [World.size_alloc, ← hn1] at this; exact this
    have hB2 : Boxed (((W3.alloc (.cells #[.slice none 0 0] 85)).alloc (.cells #[.slice (some ⟨g, 0, none⟩) N c] 85)).alloc (.cells #[.int .i64 2] 3)) (n1 + 1 + 1) 3 (.int .i64 2) := by
      have := Boxed.new ((W3.alloc (.cells #[.slice none 0 0] 85)).alloc (.cells #[.slice (some ⟨g, 0, none⟩) N c] 85)) 3 (.int .i64 2)
      rw [World.size_alloc, World.size_alloc, ← hn1] at this; exact this
    have hb2 : Below n1 W3 (((W3.alloc (.cells #[.slice none 0 0] 85)).alloc (.cells #[.slice (some ⟨g, 0, none⟩) N c] 85)).alloc (.cells #[.int .i64 2] 3)) := by
      rw [hn1]; exact below_alloc (below_alloc (below_one W3 _) _) _
    have hs2 : (((W3.alloc (.cells #[.slice none 0 0] 85)).alloc (.cells #[.slice (some ⟨g, 0, none⟩) N c] 85)).alloc (.cells #[.int .i64 2] 3)).heap.size = n1 + 3 := by simp [← hn1]
    generalize (((W3.alloc (.cells #[.slice none 0 0] 85)).alloc (.cells #[.slice (some ⟨g, 0, none⟩) N c] 85)).alloc (.cells #[.int .i64 2] 3)) = w2 at *
    rw [← hn1]
    have hseq : ∀ o, SeqG Tryd.prog 103 #[.pointer (some ⟨n1 + 1, 0, none⟩), .pointer (some ⟨n1 + 1 + 1, 0, none⟩)] (fun x : Value => #[x])
        (fun A B => B.cell? ⟨n1 + 1, 0, none⟩ = A.cell? ⟨n1 + 1, 0, none⟩ ∧ B.cell? ⟨n1 + 1 + 1, 0, none⟩ = A.cell? ⟨n1 + 1 + 1, 0, none⟩) (fun A B => ∃ n, B = A.drewN n) (fun xs => xs = chunksT g 0 m) (fun pre x => ∃ r, chunksT g 0 m = pre ++ x :: r)
        ((w2.alloc (.deferred (some []))).alloc (.loop o)) := fun o => chunkT_seq (n1 + 1) (n1 + 1 + 1) g 0 m c N HNm.out (by omega) hcap _ ((hB1.alloc _).alloc _).cell ((hB2.alloc _).alloc _).cell
    refine wp_rangeFunc (gf := 103) (lb := #[.pointer (some ⟨n1 + 1, 0, none⟩), .pointer (some ⟨n1 + 1 + 1, 0, none⟩)]) rfl (enters_of Tryd.func103 (by kernel_rfl) rfl) hseq (fun h k => ⟨k.1.trans h.1, k.2.trans h.2⟩) ?hkb ?hst (fun _ => rfl)
      (fun xs W => ∃ v, Boxed W n1 85 v ∧ W.ownsRow n1 81 9 v xs.length (totV ((List.range xs.length).map (nodeT key l (pre.length + 1)))) ∧ (Boxed W (n1 + 1) 85 (.slice (some ⟨g, 0, none⟩) N c) ∧ Boxed W (n1 + 1 + 1) 3 (.int .i64 2)) ∧ Below n1 W3 W) ?his ?hip ?h0 ?a₁ ?assign ?body ?done
    case assign =>
      intro l x W K hK
      gi_wp2
      exact hK
    case hkb =>
      intro W o o' h
      rw [hs2] at h ⊢
      refine ⟨?_, ?_⟩ <;> simp only [World.cell?, World.putObj_heap_other (show n1 + 1 ≠ n1 + 3 + 1 by omega), World.putObj_heap_other (show n1 + 1 + 1 ≠ n1 + 3 + 1 by omega)]
    case hst =>
      rintro A B k o ⟨v, rfl⟩ _ h _
      exact h
    case his =>
      rintro s A B ⟨v', rfl⟩ ⟨v, b1, r1, b2, hb⟩
      exact ⟨v, b1, r1, b2, hb.trans ⟨rfl, rfl, rfl, Nat.le_refl _, fun _ _ => rfl⟩⟩
    case hip =>
      rintro s W o o' h ⟨v, b1, r1, ⟨b2, b3⟩, hb⟩
      have kt : KeepT [85, 81, 3] W (W.putObj (w2.heap.size + 1) (.loop o')) := KeepT.putObj h
      exact ⟨v, boxed_keep b1 kt (by decide), ownsRow_keep r1 kt (by decide), ⟨boxed_keep b2 kt (by decide), boxed_keep b3 kt (by decide)⟩, hb.trans (below_putLoop (by omega) h)⟩
    case h0 =>
      intro o
      exact ⟨_, (hB0.alloc _).alloc _, World.ownsRow_nil _ _ _ _, ⟨(hB1.alloc _).alloc _, (hB2.alloc _).alloc _⟩, (hb2.alloc (by omega) _).alloc (by simp; omega) _⟩
    case body =>
      rintro lp xs x W ⟨v, b1, r1, ⟨b2, b3⟩, hb⟩ ⟨r, hr⟩ hW
      subst hn1
      have hlx : xs.length < m := by
        have := congrArg List.length hr
        simp [chunksT] at this; omega
      have hx : x = .slice (some ⟨g, 0 + 2 * xs.length * 9, none⟩) 2 2 := by
        have h1 : (chunksT g 0 m)[xs.length]? = some x := by rw [hr]; simp
        simp [chunksT, hlx] at h1
        simp [← h1]
      subst hx
      obtain ⟨q1, q2⟩ := hRng _ hlx
      have hre : ∀ o cs, W3.rangeAt g o cs → W.rangeAt g o cs := fun o cs h j v hj => (hb.cell (p := ⟨g, o + j, none⟩) (by show g < W3.heap.size; omega)).trans (h j v hj)
      obtain ⟨e1, _, y1, z1⟩ := nodeT_ok key HOK.out pre.length (2 * xs.length)
      obtain ⟨e2, _, y2, z2⟩ := nodeT_ok key HOK.out pre.length (2 * xs.length + 1)
      gi_wp2
      refine rows2_body W W3.heap.size g _ xs.length v _ _ _ _ _ _ _ _ _ _ _ _ _ _ _ _ _ _ _ _ _ _ _ _ _ _ _ _ _ _ _ _ _ _ _ _ _ _ _ _ _ _ _ _ _ _ _ _ lp _ b1 r1 (hre _ _ q1) (hre _ _ q2) e1 e2 y1 y2 (by omega) (by omega) (hRd3.below hb) (by omega) ?_
      · intro a' w' g' p' hb1 hr1 hb' hoth
        refine ⟨hoth.nc b1, ⟨?_, ?_⟩, _, hb1, ?_, ⟨hoth _ _ (by omega) b2 rfl, hoth _ _ (by omega) b3 rfl⟩, hb.trans hb'⟩
        · simp only [World.cell?, show w'.heap[W3.heap.size + 1]? = _ from hoth _ _ (by omega) b2 rfl, show W.heap[W3.heap.size + 1]? = _ from b2]
        · simp only [World.cell?, show w'.heap[W3.heap.size + 1 + 1]? = _ from hoth _ _ (by omega) b3 rfl, show W.heap[W3.heap.size + 1 + 1]? = _ from b3]
        · rw [List.length_append, List.length_singleton, List.range_succ, List.map_append, List.map_singleton, totV_snoc]
          exact hr1
    case done =>
      rintro xs W rfl ⟨v, b1, r1, _, hb⟩ hd
      subst hn1
      have hl : (chunksT g 0 m).length = m := by simp [chunksT]
      rw [hl] at r1
      obtain ⟨m', rfl⟩ : ∃ m', m = m' + 1 := ⟨m - 1, by omega⟩
      obtain ⟨g', c', rfl⟩ := ownsRow_succ r1
      have c1 := b1.cell
      have hq := HQ2.out hk6 W g' c' w2.heap.size
      rw [← HM2.out] at hq
      have hr2 : W.ownsRow n 81 9 (.slice (some ⟨g', 0, none⟩) (m' + 1) c') (m' + 1) (totV (levelT key l (pre.length + 1))) := by
        have : levelT key l (pre.length + 1) = (List.range (m' + 1)).map (nodeT key l (pre.length + 1)) := by simp only [levelT]; rw [HM2.out]
        rw [this]
        refine ⟨r1.1, ?_⟩
        rcases r1.2 with h | ⟨x1, x2, x3, h1, h2, h3⟩
        · exact .inl h
        · exact .inr ⟨x1, x2, x3, h1, by omega, h3⟩
      have hbW : Below W3.heap.size W3 W := hb
      have hfin : Marks n (w2.heap.size :: rs) W := by
        have h1 := hM3.below hbW
        refine ⟨List.nodup_cons.2 ⟨fun hmem => ?_, h1.1⟩, fun r hr => ?_⟩
        · have := (Array.getElem?_eq_some_iff.1 (hM3.2 _ hmem).2).1
          omega
        · rcases List.mem_cons.1 hr with rfl | hr
          · exact ⟨by omega, hd⟩
          · exact h1.2 r hr
      have hJ4 : J pre2 W := HJ.out _ _ _ ⟨hbW.mono hn3, .of_below hbW⟩ hJ3
      have hRd4 := hRd3.below hbW
      have hn4 : n ≤ W.heap.size := Nat.le_trans hn3 hbW.size
      have HQ := Lib.hid (fun q1 q2 q4 q5 q6 q7 q8 q9 q10 q11 q12 q13 q14 q15 q16 q17 q18 q19 q20 q21 q22 q23 q24 q25 q26 q27 q28 q29 q30 q31 q32 q33 q34 q35 q36 q37 q38 q39 q40 q41 q42 q43 q44 => hq q1 q2 q4 q5 q6 q7 q8 q9 q10 q11 q12 q13 q14 q15 q16 q17 q18 q19 q20 q21 q22 q23 q24 q25 q26 q27 q28 q29 q30 q31 q32 q33 q34 q35 q36 q37 q38 q39 q40 q41 q42 q43 q44 hJ4 hr2 hRd4 hn4 hfin)
      clear hq hr2 hfin hJ4 hRd4 hbW hd b1 r1 hb hl hRng hseq
      gi_wp2
      rw [← HD.out]
      exact HQ.out _ _ _ _ _ _ _ _ _ _ _ _ _ _ _ _ _ _ _ _ _ _ _ _ _ _ _ _ _ _ _ _ _ _ _ _ _ _ _ _ _ _ _
  · have hk6' : pre.length = 6 := by omega
    have hN1 : N = 1 := by rw [HN.out, hk6']
    have HN1 := Lib.hid hN1
    rw [hN1] at hy ⊢
    clear hN1
    refine (wpIn_wide (n := 4)).1 ?_
    gi_wp2
    refine hR.mono ?_
    rintro e W3 ⟨rfl, hJ3, hkp⟩
    clear hy hR
    gi_wp2
    exact HQ1.out hk6' _ _ rfl hJ3 (HM.out.kp hkp)

end Go.Proofs.YthohfbeelepkmaaDoor


/- audit.rows$1: the rows of the tree, the leaves first. -/
namespace Go.Proofs.YthohfbeelepkmaaDoor
open Go.RowKit Go.Shelf

theorem leaves_marks {fn : Func} {v : Value} {n : Nat} {tmps : Array Value} {R : Ending → World → Prop} (hv : ∀ w, (results fn tmps).run Tryd.prog w = .ok v w) : ∀ (rs : List Nat) (W : World), Marks n rs W → (∀ W', StR n W W' → R (.returned v) W') →
    LeavesInM Fence.wide 3 Tryd.prog fn tmps R (rs.map mark) .returning W := by
  intro rs
  induction rs with
  | nil => intro W _ h; exact ⟨v, hv W, h W (StR.refl _ _)⟩
  | cons r rs ih =>
    rintro W ⟨h1, h2⟩ h
    obtain ⟨hn, hr⟩ := h2 r (by simp)
    refine ⟨by simp, .inl ⟨r, _, rfl, run_takeDeferred hr, ih _ ⟨(List.nodup_cons.1 h1).2, fun q hq => ⟨(h2 q (by simp [hq])).1, ?_⟩⟩ ?_⟩⟩
    · rw [World.putObj_heap_other (show q ≠ r by rintro rfl; exact (List.nodup_cons.1 h1).1 hq)]; exact (h2 q (by simp [hq])).2
    · intro W' hS
      refine h W' (StR.trans (B := W.putObj r (.deferred none)) ⟨⟨rfl, rfl, rfl, by simp, fun k hk => World.putObj_heap_other (by omega)⟩, fun k cs t f _ ho => ?_⟩ hS)
      rw [World.putObj_heap_other (show k ≠ r by rintro rfl; rw [hr] at ho; cases ho)]; exact ho

set_option maxHeartbeats 2000000 in
set_option maxRecDepth 100000 in
theorem rows1_seq (b : Nat) (key : ByteArray) (A : Option Addr) (n cap : Nat) (l : List Ch) (w : World) (c0 : w.cell? ⟨b, 0, none⟩ = some (.string key)) (c1 : w.cell? ⟨b, 1, none⟩ = some (.slice A n cap))
    (hv : Chs w (.slice A n cap) l) (hok : okChs l = true) (hk : key.size ≤ 1000) (hRd : Rd w) :
    SeqW Tryd.prog 75 #[.pointer (some ⟨b, 0, none⟩)] (fun x : Value => #[x]) (KpR w.heap.size [0]) (StR w.heap.size) (fun xs => xs.length = 7) (NR key l) w := by
  intro l0 J hJ hY h0
  obtain ⟨i0, hi, hz0, hz1, hz2⟩ := info_parts (show (Tryd.prog.info? 81).map (fun i => (i.zero, i.size, i.bytes)) = some (some (.agg #[.int .i64 0, .int .i64 0, .int .i64 0, .int .i64 0, .int .i64 0, .int .i64 0, .int .i64 0, .int .i64 0, .string ⟨#[]⟩]), 9, 80) by kernel_rfl)
  have HY := Lib.hid hY
  have HJ := Lib.hid hJ
  have HV := Lib.hid hv
  have HRD := Lib.hid hRd
  have HOK := Lib.hid hok
  have HKS := Lib.hid hk
  have hbw := World.block_lt_of_cell? w _ c0
  dsimp only at hbw
  clear hY hJ hv hRd hok hk
  refine calls_of_wp_marks Tryd.func75 rfl ?_
  simp only [Tryd.ntmps75, List.size_toArray, List.length_cons, List.length_nil, Nat.reduceAdd, Nat.reduceSub, Array.replicate_succ, Array.replicate_zero, List.push_toArray, List.append_toArray, List.nil_append, List.cons_append]
  go_wp2
  go_loopw [3, 7] (fun z3 z7 wr => ∃ (k : Nat) (v : Value), k ≤ 64 ∧ z3 = v ∧ z7 = .int .i64 k ∧ Aside (wr.ownsRow w.heap.size 81 9 v k (totV (leafRow key l k))) ∧ Aside (StR w.heap.size w wr)) (fun _ z7 _ => 64 - (intOf z7).toNat)
  case atStart => exact ⟨0, _, Nat.zero_le _, rfl, rfl, World.ownsRow_nil _ _ _ _, StR.refl _ _⟩
  case round =>
    obtain ⟨k, v, hk, rfl, rfl, hR, hB⟩ := hrel
    by_cases hlt : k < 64
    · have HS : ∀ w', StR w.heap.size w w' → w'.cell? ⟨b, 0, none⟩ = some (.string key) ∧ w'.cell? ⟨b, 1, none⟩ = some (.slice A n cap) := fun w' h =>
        ⟨(h.1.cell (p := ⟨b, 0, none⟩) hbw).trans c0, (h.1.cell (p := ⟨b, 1, none⟩) hbw).trans c1⟩
      obtain ⟨q0, q1⟩ := HS wr hB.out
      have hP0 : StR w.heap.size w wr.drew ∧ Below wr.heap.size wr wr.drew := ⟨hB.out.drew, below_drew (Below.refl _ _)⟩
      obtain ⟨q2, q3⟩ := HS _ hP0.1
      have hstep : ∀ W W', (StR w.heap.size w W ∧ Below wr.heap.size wr W) → Below W.heap.size W W' → StR w.heap.size w W' ∧ Below wr.heap.size wr W' := fun W W' h hb => ⟨h.1.trans (.of_below hb h.1.1.size), below_then h.2 hb⟩
      have hC1 : ∀ W, (StR w.heap.size w W ∧ Below wr.heap.size wr W) → Calls Tryd.prog 51 #[.string key, .int .i64 k] W fun e w' => e = .returned (.string (saltH key k)) ∧ StR w.heap.size w w' ∧ Below wr.heap.size wr w' := fun W h =>
        (saltOf_calls key k W HKS.out (by omega) (by omega) (HRD.out.below h.1.1)).mono fun e w' hp => ⟨hp.1, hstep _ _ h hp.2⟩
      have hC2 : ∀ W, (StR w.heap.size w W ∧ Below wr.heap.size wr W) → Calls Tryd.prog 50 #[.slice A n cap, .int .i64 k] W fun e w' => ∃ v', e = .returned v' ∧ Chs w' v' (ofL l k) ∧ (∃ A n c, v' = .slice A n c) ∧ StR w.heap.size w w' ∧ Below wr.heap.size wr w' := fun W h =>
        (of_calls _ l k W (HV.out.below h.1.1) (by have := (okChs_facts HOK.out).1; omega)).mono fun e w' ⟨v', h1, h2, h3, h4⟩ => ⟨v', h1, h2, h3, hstep _ _ h h4⟩
      have hof := okChs_facts (okChs_filter HOK.out fun c => c.cu == (k : Int))
      have hC3 : ∀ W v', Chs W v' (ofL l k) → (StR w.heap.size w W ∧ Below wr.heap.size wr W) → Calls Tryd.prog 58 #[.string (saltH key k), v'] W fun e w' => e = .returned (.agg (totC (sumsL (ofL l k)) (leafDig (saltH key k) (ofL l k))).toArray) ∧ StR w.heap.size w w' ∧ Below wr.heap.size wr w' := fun W v' hv h =>
        (leaf_calls _ v' _ W hv hof.1 hof.2 (by have : (saltH key k).size = 32 := nodeH_size _ _; omega) (HRD.out.below h.1.1)).mono fun e w' hp => ⟨hp.1, hstep _ _ h hp.2⟩
      have HN := Lib.hid (leafRow_succ key l k)
      have h8 := sumsL_length (ofL l k)
      generalize leafDig (saltH key k) (ofL l k) = D at *
      generalize sumsL (ofL l k) = S at *
      generalize saltH key k = salt at *
      generalize ofL l k = O at *
      obtain ⟨s0, s1, s2, s3, s4, s5, s6, s7, rfl⟩ := len8 h8
      simp only [totC, List.map_cons, List.map_nil, List.cons_append, List.nil_append] at hC3
      have hlen : (leafRow key l k).length = k := by simp [leafRow]
      have hRO := hR.out
      generalize leafRow key l k = LR at *
      clear hof h8 hstep hR
      have HBB := hB.out
      have hApp := fun (W : World) (h : StR w.heap.size w W ∧ Below wr.heap.size wr W) => (ownsRow_keep (ts := [81]) hRO (KeepT.of_below h.2) (by decide)).alloc (.cells #[.int .i64 s0, .int .i64 s1, .int .i64 s2, .int .i64 s3, .int .i64 s4, .int .i64 s5, .int .i64 s6, .int .i64 s7, .string D] 81)
      have hnew := fun (W : World) => cells_new_add W [.int .i64 s0, .int .i64 s1, .int .i64 s2, .int .i64 s3, .int .i64 s4, .int .i64 s5, .int .i64 s6, .int .i64 s7, .string D] 81
      go_wp2_with fail
      go_region_held3 (fun w' => w'.cell? ⟨b, 0, none⟩ = some (.string key) ∧ w'.cell? ⟨b, 1, none⟩ = some (.slice A n cap))
        (first | (go_split_ands; refine HS _ ?_; first | with_reducible assumption | exact hP0.1 | exact hP1.1 | exact hP2.1 | exact hP3.1 | exact hSA | exact hS4.out))
        (first
          | (go_at_call 51; ((with_reducible refine (hC1 _ hP0).mono ?_)); rintro e w1 ⟨rfl, hP1⟩)
          | (go_at_call 50; ((with_reducible refine (hC2 _ hP1).mono ?_)); rintro e w2 ⟨v2, rfl, hV2, ⟨A2, n2, p2, rfl⟩, hP2⟩)
          | (go_at_call 58; ((with_reducible refine (hC3 _ _ hV2 hP2).mono ?_)); rintro e w3 ⟨rfl, hP3⟩; have hSA := (hP3.1.trans (StR.of_below (below_one w3 (.cells #[.int .i64 s0, .int .i64 s1, .int .i64 s2, .int .i64 s3, .int .i64 s4, .int .i64 s5, .int .i64 s6, .int .i64 s7, .string D] 81)) hP3.1.1.size)))
          | (rw [if_pos (by rfl)]; refine wp_append_lies _ (.tmp 10) (.tmp 20) 85 rfl w.heap.size 81 i0 _ 9 80 (by kernel_rfl) hi hz0 hz1 hz2 rfl (by decide) _ k (totV LR) rfl (hApp _ hP3) ⟨w3.heap.size, 0, none⟩ 1 1 [.int .i64 s0, .int .i64 s1, .int .i64 s2, .int .i64 s3, .int .i64 s4, .int .i64 s5, .int .i64 s6, .int .i64 s7, .string D] rfl rfl (hnew _) (by simp [Value.oneCell']) (by decide) (by unfold maxLen; omega) (by omega) (by have := hSA.1.size; exact this) _ rfl ?_; intro g4 p4 w4 hown hgrow _ _; have HOWN := Lib.hid hown; have hS4 := Lib.hid (hSA.grown81 hgrow (hApp _ hP3) (by have := hSA.1.size; exact this)); clear hown hgrow))
      clear hP0 hP1 hP2 hP3 hSA hC1 hC2 hC3 hApp hnew hV2 q0 q1 q2 q3 hRO HBB HS
      go_wp2
      go_roundw
      case measure => simp [intOf]; omega
      case rel =>
        refine ⟨k + 1, _, by omega, rfl, by go_num, (show World.ownsRow _ _ _ _ _ _ _ from ?_), hS4.out⟩
        rw [HN.out, totV_snoc]
        exact HOWN.out
    · have hk64 : k = 64 := by omega
      subst hk64
      obtain ⟨g, c, rfl⟩ := ownsRow_succ (k := 63) hR.out
      have hSl : Sl wr (.slice (some ⟨g, 0, none⟩) 64 c) 9 ((levelT key l 0).map fun t => totC t.1 t.2) := ownsRow_sl (B := w.heap.size) (e := 81) (n := 64) hR.out (by simp [levelT]) (by
        intro x hx
        simp only [List.mem_map] at hx
        obtain ⟨t, ht, rfl⟩ := hx
        obtain ⟨j, _, rfl⟩ := List.mem_map.1 ht
        simp [totC, (nodeT_ok key HOK.out 0 j).1]) (by omega)
      have HSL := Lib.hid hSl
      have HR64 := Lib.hid hR.out
      clear hSl hR hlt
      have hn0 : 0 < w.heap.size := by omega
      have hJ1 := HJ.out _ _ _ hB.out h0
      have hR1 : Rd wr := HRD.out.below hB.out.1
      have hn1 := hB.out.1.size
      clear HSL hB h0
      go_wp2
      refine wp_loop_ghost (fun N a W => ∃ (rs : List Nat) (pre : List Value) (g c : Nat) (p1 p2 p4 p5 p6 p7 p8 p9 p10 p11 p12 p13 p14 p15 p16 p17 p18 p19 p20 p21 p22 p23 p24 p25 p26 p27 p28 p29 p30 p31 p32 p33 p34 p35 p36 p37 p38 p39 p40 p41 p42 p43 p44 : Value), N = 6 - pre.length ∧ pre.length ≤ 6 ∧ a = { tmps := #[.func (.yield l0) #[] #[], p1, p2, .slice (some ⟨g, 0, none⟩) (2 ^ (6 - pre.length)) c, p4, p5, p6, p7, p8, p9, p10, p11, p12, p13, p14, p15, p16, p17, p18, p19, p20, p21, p22, p23, p24, p25, p26, p27, p28, p29, p30, p31, p32, p33, p34, p35, p36, p37, p38, p39, p40, p41, p42, p43, p44], defers := rs.map mark } ∧ J pre W ∧
        W.ownsRow w.heap.size 81 9 (.slice (some ⟨g, 0, none⟩) (2 ^ (6 - pre.length)) c) (2 ^ (6 - pre.length)) (totV (levelT key l pre.length)) ∧ Rd W ∧ w.heap.size ≤ W.heap.size ∧ Marks w.heap.size rs W) 6
        ⟨[], [], g, c, _, _, _, _, _, _, _, _, _, _, _, _, _, _, _, _, _, _, _, _, _, _, _, _, _, _, _, _, _, _, _, _, _, _, _, _, _, _, _, _, _, _, _, rfl, by decide, rfl, hJ1, HR64.out, hR1, hn1, ⟨List.nodup_nil, by simp⟩⟩ ?_
      rintro N a W ⟨rs, pre, g, c, p1, p2, p4, p5, p6, p7, p8, p9, p10, p11, p12, p13, p14, p15, p16, p17, p18, p19, p20, p21, p22, p23, p24, p25, p26, p27, p28, p29, p30, p31, p32, p33, p34, p35, p36, p37, p38, p39, p40, p41, p42, p43, p44, rfl, hle, rfl, hj, hown, hRd, hn, hM⟩
      refine rows2_round l0 w.heap.size _ key l J pre.length pre g c W _ _ _ _ _ _ _ _ _ _ _ _ _ _ _ _ _ _ _ _ _ _ _ _ _ _ _ _ _ _ _ _ _ _ _ _ _ _ _ _ _ _ _ rs _ HJ.out HY.out HOK.out (by simp) hle rfl hj hown hRd hn hM ?_ ?_
      · intro h6 W' a' hd hj' hM'
        show LeavesInM Fence.wide 3 Tryd.prog Tryd.f75 a'.tmps _ a'.defers .returning W'
        rw [hd]
        refine leaves_marks (v := .tuple #[]) (fun w => results_none rfl _ _ w) rs W' hM' ?_
        intro W2 hS
        exact ⟨⟨_, rfl⟩, _, by simp [h6], HJ.out _ _ _ hS hj'⟩
      · intro h6 W' g' c' r q1 q2 q4 q5 q6 q7 q8 q9 q10 q11 q12 q13 q14 q15 q16 q17 q18 q19 q20 q21 q22 q23 q24 q25 q26 q27 q28 q29 q30 q31 q32 q33 q34 q35 q36 q37 q38 q39 q40 q41 q42 q43 q44 hj' hown' hRd' hn' hM'
        refine ⟨6 - (pre.length + 1), by omega, r :: rs, pre ++ [_], g', c', q1, q2, q4, q5, q6, q7, q8, q9, q10, q11, q12, q13, q14, q15, q16, q17, q18, q19, q20, q21, q22, q23, q24, q25, q26, q27, q28, q29, q30, q31, q32, q33, q34, q35, q36, q37, q38, q39, q40, q41, q42, q43, q44, by simp, by simp; omega, ?_, hj', ?_, hRd', hn', hM'⟩
        · rw [List.length_append, List.length_singleton]
        · simpa only [List.length_append, List.length_singleton] using hown'

end Go.Proofs.YthohfbeelepkmaaDoor
