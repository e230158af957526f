/- Accounts and seals: their plain law. -/
import Derived.Test.YthohfbeelepkmaaDoorD6
import Derived.Test.YthohfbeelepkmaaDoorB1
import Derived.Test.YthohfbeelepkmaaDoorD7
namespace Go.Proofs.YthohfbeelepkmaaDoor
open Go.RowKit Go.Shelf

theorem flip_val : ∀ j : Nat, j < 64 → j ^^^ 1 = if j % 2 = 1 then j - 1 else j + 1 := by decide

theorem pathL_getD (key : ByteArray) (l : List Ch) (cu n j : Nat) (h : j < n) : (pathL key l cu n).getD j ([], ⟨#[]⟩) = nodeT key l j ((cu / 2 ^ j) ^^^ 1) := by
  simp [pathL, List.getD_eq_getElem?_getD, h]
/-- The account of a customer leads to the root. -/
theorem walkN_path (key : ByteArray) (l : List Ch) (cu : Nat) (hcu : cu < 64) : ∀ k, k ≤ 6 → walkN cu (nodeT key l 0 cu) (pathL key l cu 6) k = nodeT key l k (cu / 2 ^ k) := by
  obtain ⟨t0, ht0⟩ : ∃ t0, t0 = nodeT key l 0 cu := ⟨_, rfl⟩
  rw [← ht0]
  intro k
  induction k with
  | zero => intro _; simp [walkN, ht0]
  | succ k ih =>
    intro hk
    have hd : cu / 2 ^ (k + 1) = cu / 2 ^ k / 2 := by rw [Nat.div_div_eq_div_mul, Nat.pow_succ]
    have hj : cu / 2 ^ k < 64 := Nat.lt_of_le_of_lt (Nat.div_le_self _ _) hcu
    have ih := ih (by omega)
    unfold walkN
    rw [ih, pathL_getD key l cu 6 k (by omega), hd]
    show _ = joinT (nodeT key l k (2 * (cu / 2 ^ k / 2))) (nodeT key l k (2 * (cu / 2 ^ k / 2) + 1))
    generalize cu / 2 ^ k = j at *
    rw [flip_val j hj]
    split
    · rw [show 2 * (j / 2) = j - 1 by omega, show j - 1 + 1 = j by omega]
    · rw [show 2 * (j / 2) = j by omega]
theorem nodeT_okTT (key : ByteArray) {l : List Ch} (h : okChs l = true) (k j : Nat) : okTT (nodeT key l k j) = true := by
  obtain ⟨h1, h2, _, h4⟩ := nodeT_ok key h k j
  simp only [okTT, okT, h1, h4, decide_true, Bool.true_and, Bool.not_eq_true', List.any_eq_false]
  intro n hn
  have := h2 n hn
  simp [isLargeB, within]
  omega
theorem pathL_ok (key : ByteArray) {l : List Ch} (h : okChs l = true) (cu n : Nat) : (pathL key l cu n).all okTT = true := by
  rw [List.all_eq_true]
  intro x hx
  obtain ⟨j, _, rfl⟩ := List.mem_map.1 hx
  exact nodeT_okTT key h _ _
theorem ofL_cu (l : List Ch) (h : Int) : ((ofL l h).any fun c => c.cu != h) = false := by
  rw [List.any_eq_false]
  intro c hc
  simp [ofL] at hc
  simp [hc.2]
theorem saltH_size (key : ByteArray) (h : Int) : (saltH key h).size = 32 := nodeH_size _ _
theorem pathL_length (key : ByteArray) (l : List Ch) (cu n : Nat) : (pathL key l cu n).length = n := by simp [pathL]
theorem formed_account (key : ByteArray) {l : List Ch} (h : okChs l = true) {cu : Nat} (hcu : cu < 64) : formedB cu (saltH key cu) (ofL l cu) (pathL key l cu 6) = true := by
  have hw : within (cu : Int) 0 63 = true := by simp [within]; omega
  simp only [formedB, hw, okChs_filter h (fun c => c.cu == (cu : Int)) |> (show okChs (ofL l cu) = true from ·), ofL_cu, saltH_size, pathL_length, pathL_ok key h, decide_true, Bool.and_true, Bool.not_false]
theorem check_account (key : ByteArray) {l : List Ch} (h : okChs l = true) {cu : Nat} (hcu : cu < 64) : checkB (rootT key l).1 (rootT key l).2 cu (saltH key cu) (ofL l cu) (pathL key l cu 6) = true := by
  unfold checkB
  rw [formed_account key h hcu]
  have := walkN_path key l cu hcu 6 (by omega)
  rw [Nat.div_eq_of_lt (show cu < 2 ^ 6 from hcu)] at this
  simp only [Int.toNat_natCast, Bool.true_and, decide_eq_true_eq]
  exact this

theorem addT_inj_left {a b u : List Int} (ha : a.length = 8) (hb : b.length = 8) (hu : u.length = 8) (h : addT a u = addT b u) : a = b := by
  refine ext8 ha hb fun i _ => ?_
  have := congrArg (fun l => l.getD i 0) h
  simp only [addT_getD (show a.length = u.length by omega), addT_getD (show b.length = u.length by omega)] at this
  omega
/-- Other sums at the leaf come to other sums at the root. -/
theorem walkN_inj {cu : Nat} {t t' : TT} {L : List TT} (h1 : t.1.length = 8) (h2 : t'.1.length = 8) : ∀ k, (∀ j, j < k → (L.getD j ([], ⟨#[]⟩)).1.length = 8) →
    (walkN cu t L k).1.length = 8 ∧ (walkN cu t' L k).1.length = 8 ∧ ((walkN cu t L k).1 = (walkN cu t' L k).1 → t.1 = t'.1) := by
  intro k
  induction k with
  | zero => intro _; exact ⟨h1, h2, fun h => h⟩
  | succ k ih =>
    intro hL
    obtain ⟨a1, a2, a3⟩ := ih fun j hj => hL j (by omega)
    have hu := hL k (by omega)
    unfold walkN
    have hl : ∀ a b : List Int, a.length = 8 → b.length = 8 → (addT a b).length = 8 := fun a b ha hb => by simp [addT, ha, hb]
    split
    · exact ⟨hl _ _ hu a1, hl _ _ hu a2, fun h => a3 (addT_inj_left a1 a2 hu (by rw [addT_comm, addT_comm (walkN cu t' L k).1]; exact h))⟩
    · exact ⟨hl _ _ a1 hu, hl _ _ a2 hu, fun h => a3 (addT_inj_left a1 a2 hu h)⟩

/-- An account with other sums is not accepted. -/
theorem check_sums (key : ByteArray) {l C : List Ch} {salt : ByteArray} (h : okChs l = true) {cu : Nat} (hcu : cu < 64) (hne : sumsL C ≠ sumsL (ofL l cu)) : checkB (rootT key l).1 (rootT key l).2 cu salt C (pathL key l cu 6) = false := by
  unfold checkB
  rw [Bool.and_eq_false_iff]
  right
  rw [decide_eq_false_iff_not]
  intro he
  have hw := walkN_path key l cu hcu 6 (by omega)
  rw [Nat.div_eq_of_lt (show cu < 2 ^ 6 from hcu)] at hw
  have := (walkN_inj (cu := cu) (t := (sumsL C, leafDig salt C)) (t' := nodeT key l 0 cu) (L := pathL key l cu 6) (sumsL_length _) (sumsL_length _) 6 (fun j hj => by rw [pathL_getD _ _ _ _ _ hj]; exact (nodeT_ok key h _ _).1)).2.2
  rw [hw] at this
  rw [Int.toNat_natCast] at he
  rw [he] at this
  exact hne (this rfl)

end Go.Proofs.YthohfbeelepkmaaDoor

/- sane: the chapter's examples. -/
namespace Go.Proofs.YthohfbeelepkmaaDoor
open Go.RowKit Go.Shelf

theorem exOk : okChs exL = true := by decide
theorem exKey_size : exKey.size = 32 := by decide +kernel
theorem exValid : validB exKey exL = true := by simp [validB, exKey_size, exOk]

/-- The cells behind a slice, as an append takes them. -/
theorem Sl.news {W : World} {A : Option Addr} {n c k : Nat} {L : List (List Value)} (h : Sl W (.slice A n c) k L) (hk : 0 < k) (hp : 0 < L.length) :
    ∃ b o, A = some ⟨b, o, none⟩ ∧ b < W.heap.size ∧ ∀ j u, L.flatten[j]? = some u → W.cell? ((⟨b, o, none⟩ : Addr).add j) = some u := by
  obtain ⟨h1, _, A', cap, e, _, h3⟩ := h
  simp only [Value.slice.injEq] at e
  obtain ⟨rfl, _, _⟩ := e
  obtain ⟨b, o, rfl, hb, hc⟩ := h3 hp
  refine ⟨b, o, rfl, hb, fun j u hj => ?_⟩
  rw [Addr.add_mid]
  have hlen : L.flatten.length = L.length * k := by
    rw [List.length_flatten]
    have : L.map List.length = List.replicate L.length k := by
      apply List.eq_replicate_iff.2
      exact ⟨by simp, fun x hx => by obtain ⟨y, hy, rfl⟩ := List.mem_map.1 hx; exact h1 y hy⟩
    rw [this]; simp
  have hjl : j < L.length * k := by rw [← hlen]; exact (List.getElem?_eq_some_iff.1 hj).1
  have hq : j / k < L.length := by rw [Nat.div_lt_iff_lt_mul hk]; exact hjl
  have hr : j % k < (L[j / k]).length := by rw [h1 _ (List.getElem_mem _)]; exact Nat.mod_lt _ hk
  have hf := flat_at L h1 (j / k) (j % k) L[j / k] (L[j / k])[j % k] (by simp [hq]) (by simp [hr])
  have hjj : j / k * k + j % k = j := by rw [Nat.mul_comm]; exact Nat.div_add_mod j k
  rw [hjj, hj] at hf
  have := hc (j / k) (j % k) L[j / k] (L[j / k])[j % k] (by simp [hq]) (by simp [hr])
  rw [Nat.add_assoc, hjj] at this
  rw [this, Option.some.inj hf]

/-- An account that lies in a block of its own. -/
def AccAt (W : World) (g : Nat) (cu : Int) (vC vP : Value) : Prop :=
  W.heap[g]? = some (.cells #[.int .i64 cu, vC, .string (saltH exKey cu), vP] 51 (0, 0)) ∧ Chs W vC (ofL exL cu) ∧ Pth W vP (pathL exKey exL cu.toNat 6)
theorem AccAt.below {W W' : World} {g : Nat} {cu : Int} {vC vP : Value} (h : AccAt W g cu vC vP) (hb : Below W.heap.size W W') : AccAt W' g cu vC vP :=
  ⟨(hb.block _ (Array.getElem?_eq_some_iff.1 h.1).1).trans h.1, h.2.1.below hb, h.2.2.below hb⟩
theorem AccAt.new {W : World} {cu : Int} {vC vP : Value} (h1 : Chs W vC (ofL exL cu)) (h2 : Pth W vP (pathL exKey exL cu.toNat 6)) : AccAt (W.alloc (.cells #[.int .i64 cu, vC, .string (saltH exKey cu), vP] 51)) W.heap.size cu vC vP :=
  ⟨heap_new W _, h1.below (below_one W _), h2.below (below_one W _)⟩
theorem Chs.slice {W : World} {v : Value} {l : List Ch} (h : Chs W v l) : ∃ A c, v = .slice A l.length c := by
  obtain ⟨_, _, A, c, e, _⟩ := h
  exact ⟨A, c, by rw [e]; simp⟩
theorem Pth.slice {W : World} {v : Value} {l : List TT} (h : Pth W v l) : ∃ A c, v = .slice A l.length c := by
  obtain ⟨L', hL, ⟨_, _, A, c, e, _⟩, _⟩ := h
  exact ⟨A, c, by rw [e, ← hL]; simp⟩
/-- What Account answers, as the walk of sane reads it. -/
theorem Account_ex (v : Value) (cu : Int) (n : Nat) (w : World) (hv : Chs w v exL) (hcu : 0 ≤ cu ∧ cu < 64) (hn : (ofL exL cu).length = n) (hRd : Rd w) :
    Calls Tryd.prog 26 #[.agg #[.string exKey, v], .int .i64 cu] w fun e w' => ∃ A a B c, e = .returned (.tuple #[.agg #[.int .i64 cu, .slice A n a, .string (saltH exKey cu), .slice B 6 c], .int .i64 0]) ∧ Chs w' (.slice A n a) (ofL exL cu) ∧ Pth w' (.slice B 6 c) (pathL exKey exL cu.toNat 6) ∧ Below w.heap.size w w' := by
  obtain ⟨m, rfl⟩ := Int.eq_ofNat_of_zero_le hcu.1
  obtain ⟨_, _, A, cap, rfl, _⟩ := id hv
  refine (Account_calls exKey A _ cap exL m w hv exValid (by omega) hRd).mono ?_
  rintro e w' ⟨vC, vP, L', rfl, ho, hT, hL, hb⟩
  have hC := ownsRow_chs ho (Nat.le_trans (List.length_filter_le _ _) (by decide))
  have hP := hT.pth (fun p hp => by
    have : p.2 ∈ pathL exKey exL m 6 := by rw [← hL]; exact List.mem_map.2 ⟨p, hp, rfl⟩
    obtain ⟨j, _, e⟩ := List.mem_map.1 this
    rw [← e]; exact (nodeT_ok exKey exOk _ _).1) (by have := congrArg List.length hL; simp [pathL] at this; omega)
  rw [hL] at hP
  obtain ⟨A1, c1, rfl⟩ := hC.slice
  obtain ⟨A2, c2, rfl⟩ := hP.slice
  rw [hn] at hC ⊢
  rw [pathL_length] at hP ⊢
  exact ⟨A1, c1, A2, c2, rfl, hC, hP, hb⟩

def badC : List Ch := [⟨5, 1, 2, 301, ⟨#[97]⟩⟩, ⟨5, 1, 0, 7, ⟨#[]⟩⟩]
def want57 : List Int := [57, -307, 250, 0, 0, 0, 0, 0]
def want7 : List Int := [7, -307, 300, 0, 0, 0, 0, 0]
def want50 : List Int := [50, 0, -50, 0, 0, 0, 0, 0]
theorem ex_sums : sumsL exL = want57 := by decide
theorem ex_root : (rootT exKey exL).1 = want57 := by
  unfold rootT
  rw [nodeT_sums exKey exL (okChs_ends exOk) 6 0]; decide
theorem ex_four : ((pathL exKey exL 4 6).getD 0 ([], ⟨#[]⟩)).1 = want7 := by
  rw [pathL_getD _ _ _ _ _ (by decide), nodeT_sums exKey exL (okChs_ends exOk)]; decide
theorem ex_eight : ((pathL exKey exL 8 6).getD 0 ([], ⟨#[]⟩)).1 = want50 := by
  rw [pathL_getD _ _ _ _ _ (by decide), nodeT_sums exKey exL (okChs_ends exOk)]; decide
theorem ex_digest : (rootT exKey exL).2.size = 32 := (nodeT_ok exKey exOk 6 0).2.2.2
theorem ex_check (cu : Int) (h : 0 ≤ cu ∧ cu < 64) : (decide ((rootT exKey exL).1.length = 8) && checkB (rootT exKey exL).1 (rootT exKey exL).2 cu (saltH exKey cu) (ofL exL cu) (pathL exKey exL cu.toNat 6)) = true := by
  obtain ⟨m, rfl⟩ := Int.eq_ofNat_of_zero_le h.1
  rw [(nodeT_ok exKey exOk 6 0).1 |> (show (rootT exKey exL).1.length = 8 from ·)]
  simpa using check_account exKey exOk (cu := m) (by omega)
theorem ex_bad : (decide ((rootT exKey exL).1.length = 8) && checkB (rootT exKey exL).1 (rootT exKey exL).2 5 (saltH exKey 5) badC (pathL exKey exL 5 6)) = false := by
  rw [show checkB (rootT exKey exL).1 (rootT exKey exL).2 5 (saltH exKey 5) badC (pathL exKey exL 5 6) = false from check_sums exKey exOk (cu := 5) (by decide) (by decide)]
  simp
theorem ex_debts : debtsL exL = [⟨1, 2, 300⟩, ⟨2, 0, 50⟩, ⟨1, 0, 7⟩] := by simp [debtsL, exL]
/-- The first total of a path. -/
theorem Pth.first {W : World} {A : Option Addr} {c : Nat} {L : List TT} (h : Pth W (.slice A 6 c) L) : ∃ b o v, A = some ⟨b, o, none⟩ ∧ b < W.heap.size ∧ W.cell? ⟨b, o, none⟩ = some v ∧ Ints W v .i64 (L.getD 0 ([], ⟨#[]⟩)).1 := by
  obtain ⟨L', hL, ⟨_, _, A', c', e, _, h3⟩, hi⟩ := h
  simp only [Value.slice.injEq, List.length_map] at e
  obtain ⟨rfl, e, _⟩ := e
  obtain ⟨b, o, rfl, hb, hc⟩ := h3 (by simp; omega)
  match L', e with
  | p :: L2, _ =>
    refine ⟨b, o, p.1, rfl, hb, by simpa using hc 0 0 _ _ rfl rfl, ?_⟩
    rw [← hL]
    exact hi p (by simp)

set_option maxHeartbeats 4000000 in
set_option maxRecDepth 100000 in
theorem sane_calls (w : World) (hRd : Rd w) : Calls Tryd.prog 11 #[] w fun e w' => e = .returned (.bool true) ∧ Below w.heap.size w w' := by
  have I26 := Lib.hid (show (Tryd.prog.info? 26).map (·.size) = some 2 by kernel_rfl)
  go_enter Tryd.func11, Tryd.ntmps11
  go_wp2_with fail
  refine (example_calls w).mono ?_
  rintro e w1 ⟨v, rfl, hv1, ⟨ge, ce, rfl⟩, hb1⟩
  obtain ⟨W1, hW1⟩ : ∃ W1, W1 = w1.alloc (.cells #[.string exKey, .slice (some ⟨ge, 0, none⟩) 3 ce] 26) := ⟨_, rfl⟩
  have hg1 : W1.heap[w1.heap.size]? = some (.cells #[.string exKey, .slice (some ⟨ge, 0, none⟩) 3 ce] 26 (0, 0)) := by rw [hW1]; exact heap_new w1 _
  have hbW1 : Below w.heap.size w W1 := by rw [hW1]; exact below_alloc hb1 _
  have hvW1 : Chs W1 (.slice (some ⟨ge, 0, none⟩) 3 ce) exL := by rw [hW1]; exact hv1.below (below_one w1 _)
  have HF : ∀ W, Below W1.heap.size W1 W → W.cell? ⟨w1.heap.size, 0, none⟩ = some (.string exKey) ∧ W.cell? ⟨w1.heap.size, 1, none⟩ = some (.slice (some ⟨ge, 0, none⟩) 3 ce) := fun W h => by
    have q := (h.block _ (Array.getElem?_eq_some_iff.1 hg1).1).trans hg1
    exact ⟨by unfold World.cell?; rw [q]; rfl, by unfold World.cell?; rw [q]; rfl⟩
  have hS1 := fun W (h : Below W1.heap.size W1 W) => Sums_calls (.slice (some ⟨ge, 0, none⟩) 3 ce) exL W (hvW1.below h) exOk
  have hS2 := fun W (h : Below W1.heap.size W1 W) => Seal_calls exKey (some ⟨ge, 0, none⟩) 3 ce exL W (hvW1.below h) exValid (hRd.below (hbW1.trans (h.mono hbW1.size)))
  have hS3 := fun W (h : Below W1.heap.size W1 W) (cu : Int) (n : Nat) (hcu : 0 ≤ cu ∧ cu < 64) (hn : (ofL exL cu).length = n) => Account_ex (.slice (some ⟨ge, 0, none⟩) 3 ce) cu n W (hvW1.below h) hcu hn (hRd.below (hbW1.trans (h.mono hbW1.size)))
  have hS4 := fun W (h : Below W1.heap.size W1 W) => Debts_calls (.slice (some ⟨ge, 0, none⟩) 3 ce) exL W (hvW1.below h) exOk
  have hS5 := fun W (h : Below W1.heap.size W1 W) => Valid_calls exKey (.slice (some ⟨ge, 0, none⟩) 3 ce) exL W (hvW1.below h)
  have HW1 := Lib.hid hW1
  have HBW1 := Lib.hid hbW1
  obtain ⟨k0, k1⟩ := HF W1 (Below.refl _ _)
  have HRD := Lib.hid hRd
  clear hW1 hbW1 hg1 hv1 hb1 hRd
  rw [HW1.out] at k0 k1
  go_wp2_with fail
  rw [← HW1.out] at *
  refine (hS1 W1 (Below.refl _ _)).mono ?_
  rintro e w2 ⟨va, rfl, hIa, hb2⟩
  have HIA := Lib.hid hIa
  have HB2 := Lib.hid hb2
  clear hIa k0 k1 hS1
  obtain ⟨k0, k1⟩ := HF w2 hb2
  clear hb2
  go_wp2_with fail
  refine (hS2 w2 HB2.out).mono ?_
  rintro e w3 ⟨vs, rfl, hIs, ⟨gs, cs, rfl⟩, hb3⟩
  obtain ⟨W3, hW3⟩ : ∃ W3, W3 = w3.alloc (.cells #[.slice (some ⟨gs, 0, none⟩) 8 cs, .string (rootT exKey exL).2] 35) := ⟨_, rfl⟩
  have hg4 : W3.heap[w3.heap.size]? = some (.cells #[.slice (some ⟨gs, 0, none⟩) 8 cs, .string (rootT exKey exL).2] 35 (0, 0)) := by rw [hW3]; exact heap_new w3 _
  have hbx : Below w2.heap.size w2 W3 := by rw [hW3]; exact below_alloc hb3 _
  have hIs3 : Ints W3 (.slice (some ⟨gs, 0, none⟩) 8 cs) .i64 (rootT exKey exL).1 := by rw [hW3]; exact hIs.alloc _
  have HIS := Lib.hid hIs3
  have HG4 := Lib.hid hg4
  have HIA3 := Lib.hid (HIA.out.below hbx)
  have HB3 := Lib.hid (below_then HB2.out hbx)
  have HW3 := Lib.hid hW3
  clear hIs hIs3 hg4 hbx k0 k1 hS2 hb3
  obtain ⟨k0, k1⟩ := HF W3 HB3.out
  rw [hW3] at k0 k1
  clear hW3
  go_wp2_with fail
  rw [← HW3.out] at *
  refine (hS3 W3 HB3.out 5 2 (by decide) (by decide)).mono ?_
  rintro e w4 ⟨A5, a5, B5, c5, rfl, hC5, hP5, hb4⟩
  obtain ⟨W4, hW4⟩ : ∃ W4, W4 = w4.alloc (.cells #[.int .i64 5, .slice A5 2 a5, .string (saltH exKey 5), .slice B5 6 c5] 51) := ⟨_, rfl⟩
  have HA5 : Hid (AccAt W4 w4.heap.size 5 (.slice A5 2 a5) (.slice B5 6 c5)) := Lib.hid (by rw [hW4]; exact AccAt.new hC5 hP5)
  have hbx : Below W3.heap.size W3 W4 := by rw [hW4]; exact below_alloc hb4 _
  have HX4 := Lib.hid hbx
  have HB4 := Lib.hid (below_then HB3.out hbx)
  have HW4 := Lib.hid hW4
  clear hbx hb4 hC5 hP5 k0 k1
  obtain ⟨k0, k1⟩ := HF W4 HB4.out
  rw [hW4] at k0 k1
  clear hW4
  go_wp2_with fail
  rw [← HW4.out] at *
  refine (hS3 W4 HB4.out 6 0 (by decide) (by decide)).mono ?_
  rintro e w5 ⟨A6, a6, B6, c6, rfl, hC6, hP6, hb5⟩
  obtain ⟨W5, hW5⟩ : ∃ W5, W5 = w5.alloc (.cells #[.int .i64 6, .slice A6 0 a6, .string (saltH exKey 6), .slice B6 6 c6] 51) := ⟨_, rfl⟩
  have HA6 : Hid (AccAt W5 w5.heap.size 6 (.slice A6 0 a6) (.slice B6 6 c6)) := Lib.hid (by rw [hW5]; exact AccAt.new hC6 hP6)
  have hbx : Below W4.heap.size W4 W5 := by rw [hW5]; exact below_alloc hb5 _
  have HX5 := Lib.hid hbx
  have HB5 := Lib.hid (below_then HB4.out hbx)
  have HW5 := Lib.hid hW5
  clear hbx hb5 hC6 hP6 k0 k1
  obtain ⟨k0, k1⟩ := HF W5 HB5.out
  rw [hW5] at k0 k1
  clear hW5
  go_wp2_with fail
  rw [← HW5.out] at *
  refine (hS3 W5 HB5.out 4 0 (by decide) (by decide)).mono ?_
  rintro e w6 ⟨A4, a4, B4, c4, rfl, hC4, hP4, hb6⟩
  obtain ⟨W6, hW6⟩ : ∃ W6, W6 = w6.alloc (.cells #[.int .i64 4, .slice A4 0 a4, .string (saltH exKey 4), .slice B4 6 c4] 51) := ⟨_, rfl⟩
  have HA4 : Hid (AccAt W6 w6.heap.size 4 (.slice A4 0 a4) (.slice B4 6 c4)) := Lib.hid (by rw [hW6]; exact AccAt.new hC4 hP4)
  have hbx : Below W5.heap.size W5 W6 := by rw [hW6]; exact below_alloc hb6 _
  have HX6 := Lib.hid hbx
  have HB6 := Lib.hid (below_then HB5.out hbx)
  have HW6 := Lib.hid hW6
  clear hbx hb6 hC4 hP4 k0 k1
  obtain ⟨k0, k1⟩ := HF W6 HB6.out
  rw [hW6] at k0 k1
  clear hW6
  go_wp2_with fail
  rw [← HW6.out] at *
  refine (hS3 W6 HB6.out 8 0 (by decide) (by decide)).mono ?_
  rintro e w7 ⟨A8, a8, B8, c8, rfl, hC8, hP8, hb7⟩
  obtain ⟨W7, hW7⟩ : ∃ W7, W7 = w7.alloc (.cells #[.int .i64 8, .slice A8 0 a8, .string (saltH exKey 8), .slice B8 6 c8] 51) := ⟨_, rfl⟩
  have HA8 : Hid (AccAt W7 w7.heap.size 8 (.slice A8 0 a8) (.slice B8 6 c8)) := Lib.hid (by rw [hW7]; exact AccAt.new hC8 hP8)
  have hbx : Below W6.heap.size W6 W7 := by rw [hW7]; exact below_alloc hb7 _
  have HX7 := Lib.hid hbx
  have HB7 := Lib.hid (below_then HB6.out hbx)
  have HW7 := Lib.hid hW7
  clear hbx hb7 hC8 hP8 k0 k1
  obtain ⟨k0, k1⟩ := HF W7 HB7.out
  rw [hW7] at k0 k1
  clear hW7
  go_wp2_with fail
  rw [← HW7.out] at *
  refine (hS4 W7 HB7.out).mono ?_
  rintro e w8 ⟨vd, rfl, hDb, hb8⟩
  have h78 := hb8
  have h68 := below_then HX7.out h78
  have h58 := below_then HX6.out h68
  have h48 := below_then HX5.out h58
  have h38 := below_then HX4.out h48
  have hb18 := below_then HB7.out hb8
  have A5' := HA5.out.below h48
  have A6' := HA6.out.below h58
  have A4' := HA4.out.below h68
  have A8' := HA8.out.below h78
  have G4' := (h38.block _ (Array.getElem?_eq_some_iff.1 HG4.out).1).trans HG4.out
  have IS' := HIS.out.below h38
  have IA' := HIA3.out.below h38
  have n4 := (Array.getElem?_eq_some_iff.1 A5'.1).1
  have HA5' := Lib.hid A5'
  have HA6' := Lib.hid A6'
  have HA4' := Lib.hid A4'
  have HA8' := Lib.hid A8'
  have HG4' := Lib.hid G4'
  have HIS' := Lib.hid IS'
  have HIA' := Lib.hid IA'
  have HDB' := Lib.hid hDb
  have HB8 := Lib.hid hb18
  clear HA5 HA6 HA4 HA8 HG4 HIS HIA3 HIA h78 h68 h58 h48 h38 hb8 hb18 hDb IS' IA' G4' HX4 HX5 HX6 HX7 HW1 HW3 HW4 HW5 HW6 HW7 HB2 HB3 HB4 HB5 HB6 HB7 k0 k1 hS3 hS4
  have HF8 : ∀ W, Below w8.heap.size w8 W → (W.cell? ⟨w4.heap.size, 0, none⟩ = some (.int .i64 5) ∧ W.cell? ⟨w4.heap.size, 1, none⟩ = some (.slice A5 2 a5) ∧ W.cell? ⟨w4.heap.size, 2, none⟩ = some (.string (saltH exKey 5)) ∧ W.cell? ⟨w4.heap.size, 3, none⟩ = some (.slice B5 6 c5)) ∧
      (W.cell? ⟨w5.heap.size, 0, none⟩ = some (.int .i64 6) ∧ W.cell? ⟨w5.heap.size, 1, none⟩ = some (.slice A6 0 a6) ∧ W.cell? ⟨w5.heap.size, 2, none⟩ = some (.string (saltH exKey 6)) ∧ W.cell? ⟨w5.heap.size, 3, none⟩ = some (.slice B6 6 c6)) ∧
      W.cell? ⟨w6.heap.size, 3, none⟩ = some (.slice B4 6 c4) ∧ W.cell? ⟨w7.heap.size, 3, none⟩ = some (.slice B8 6 c8) ∧
      (W.cell? ⟨w3.heap.size, 0, none⟩ = some (.slice (some ⟨gs, 0, none⟩) 8 cs) ∧ W.cell? ⟨w3.heap.size, 1, none⟩ = some (.string (rootT exKey exL).2)) := fun W h => by
    have q5 := (HA5'.out.below h).1
    have q6 := (HA6'.out.below h).1
    have q4 := (HA4'.out.below h).1
    have q8 := (HA8'.out.below h).1
    have qs := (h.block _ (Array.getElem?_eq_some_iff.1 HG4'.out).1).trans HG4'.out
    refine ⟨⟨?_, ?_, ?_, ?_⟩, ⟨?_, ?_, ?_, ?_⟩, ?_, ?_, ?_, ?_⟩ <;> (unfold World.cell?; first | (rw [q5]; rfl) | (rw [q6]; rfl) | (rw [q4]; rfl) | (rw [q8]; rfl) | (rw [qs]; rfl))
  clear A5' A6' A4' A8'
  obtain ⟨⟨x50, x51, x52, x53⟩, ⟨x60, x61, x62, x63⟩, x43, x83, xs0, xs1⟩ := HF8 w8 (Below.refl _ _)
  have hT3 := below_alloc (below_alloc (below_one w8 (.cells #[.int .i64 57, .int .i64 (-307), .int .i64 250, .int .i64 0, .int .i64 0, .int .i64 0, .int .i64 0, .int .i64 0] 3)) (.cells #[.int .i64 5, .slice A5 2 a5, .string (saltH exKey 5), .slice B5 6 c5] 51)) (.cells #[] 30)
  obtain ⟨b5, o5, rfl, hlt5, hnews⟩ := (HA5'.out.below hT3).2.1.news (by decide) (by decide)
  have y51 := (HF8 _ hT3).1.2.1
  have HN5 := Lib.hid hnews
  have HT3 := Lib.hid hT3
  obtain ⟨i0, hi, hz0, hz1, hz2⟩ := info_parts (show (Tryd.prog.info? 30).map (fun i => (i.zero, i.size, i.bytes)) = some (some (.agg #[.int .i64 0, .int .i64 0, .int .i64 0, .int .i64 0, .string ⟨#[]⟩]), 5, 48) by kernel_rfl)
  have hown0 : World.ownsRow (((w8.alloc (.cells #[.int .i64 57, .int .i64 (-307), .int .i64 250, .int .i64 0, .int .i64 0, .int .i64 0, .int .i64 0, .int .i64 0] 3)).alloc (.cells #[.int .i64 5, .slice (some ⟨b5, o5, none⟩) 2 a5, .string (saltH exKey 5), .slice B5 6 c5] 51)).alloc (.cells #[] 30)) (w8.heap.size + 2) 30 5 (.slice (some ⟨w8.heap.size + 1 + 1, 0, none⟩) 0 0) 0 [] := by
    refine ⟨rfl, .inr ⟨w8.heap.size + 1 + 1, 0, #[], rfl, by omega, ?_, Nat.le_refl _, by decide, rfl, rfl⟩⟩
    have := heap_new ((w8.alloc (.cells #[.int .i64 57, .int .i64 (-307), .int .i64 250, .int .i64 0, .int .i64 0, .int .i64 0, .int .i64 0, .int .i64 0] 3)).alloc (.cells #[.int .i64 5, .slice (some ⟨b5, o5, none⟩) 2 a5, .string (saltH exKey 5), .slice B5 6 c5] 51)) (.cells #[] 30)
    rwa [World.size_alloc, World.size_alloc] at this
  have HOWN0 := Lib.hid hown0
  clear hT3 hnews hown0
  go_wp2_with (at_builtin; refine wpList_append_own _ rfl _ _ 24 rfl (w8.heap.size + 2) 30 i0 _ 5 48 (by kernel_rfl) hi hz0 hz1 hz2 rfl (by decide) _ 0 [] rfl HOWN0.out ⟨b5, o5, none⟩ 2 a5 (chCells (ofL exL 5)) rfl rfl HN5.out ?h1c ?c1 ?c2 ?c3 ?_)
  case h1c => decide
  case c1 => unfold maxLen; omega
  case c2 => omega
  case c3 => simp
  intro v' w9 hown hgrow _
  obtain ⟨g9, p9, rfl⟩ := ownsRow_succ (k := 1) hown
  obtain ⟨hge9, hlt9⟩ := hown.lt g9 rfl
  have hTs : (((w8.alloc (.cells #[.int .i64 57, .int .i64 (-307), .int .i64 250, .int .i64 0, .int .i64 0, .int .i64 0, .int .i64 0, .int .i64 0] 3)).alloc (.cells #[.int .i64 5, .slice (some ⟨b5, o5, none⟩) 2 a5, .string (saltH exKey 5), .slice B5 6 c5] 51)).alloc (.cells #[] 30)).heap.size = w8.heap.size + 3 := by simp
  have r17 : w9.heap[w8.heap.size + 1]? = some (.cells #[.int .i64 5, .slice (some ⟨b5, o5, none⟩) 2 a5, .string (saltH exKey 5), .slice B5 6 c5] 51 (0, 0)) := by
    rw [hgrow.block _ (by omega) (by simp [Value.ownBlock])]
    rw [Below.heap_alloc _ _ _ (by simp)]
    have := heap_new (w8.alloc (.cells #[.int .i64 57, .int .i64 (-307), .int .i64 250, .int .i64 0, .int .i64 0, .int .i64 0, .int .i64 0, .int .i64 0] 3)) (.cells #[.int .i64 5, .slice (some ⟨b5, o5, none⟩) 2 a5, .string (saltH exKey 5), .slice B5 6 c5] 51)
    rwa [World.size_alloc] at this
  have r16 : w9.heap[w8.heap.size]? = some (.cells #[.int .i64 57, .int .i64 (-307), .int .i64 250, .int .i64 0, .int .i64 0, .int .i64 0, .int .i64 0, .int .i64 0] 3 (0, 0)) := by
    rw [hgrow.block _ (by omega) (by simp [Value.ownBlock]; omega)]
    rw [Below.heap_alloc _ _ _ (by simp; omega), Below.heap_alloc _ _ _ (by simp)]
    exact heap_new w8 _
  have hb9 : Below w8.heap.size w8 w9 := HT3.out.grown hgrow (by omega) (fun k hk => by simp only [Value.ownBlock, Option.some.injEq] at hk; omega)
  have hc9 : ∀ j u, (chCells (ofL exL 5))[j]? = some u → w9.cell? ⟨g9, j, none⟩ = some u := by
    rcases hown.2 with ⟨e, _⟩ | ⟨g, c, cur, e, _, hg, _, _, hcs, htk⟩
    · cases e
    · simp only [Value.slice.injEq, Option.some.injEq, Addr.mk.injEq] at e
      obtain ⟨⟨rfl, _⟩, _, rfl⟩ := e
      intro j u hj
      unfold World.cell?
      rw [hg]
      rw [← htk, List.getElem?_take] at hj
      split at hj
      · simpa using hj
      · cases hj
  have hf9 : w9.frozen? ⟨g9, 3, none⟩ = false := by
    rcases hown.2 with ⟨e, _⟩ | ⟨g, c, cur, e, _, hg, _, _, hcs, htk⟩
    · cases e
    · simp only [Value.slice.injEq, Option.some.injEq, Addr.mk.injEq] at e
      obtain ⟨⟨rfl, _⟩, _, rfl⟩ := e
      unfold World.frozen?; rw [hg]; simp
  have z0 : w9.cell? ⟨w8.heap.size + 1, 1, none⟩ = some (.slice (some ⟨b5, o5, none⟩) 2 a5) := by unfold World.cell?; rw [r17]; rfl
  have z1 : w9.frozen? ⟨w8.heap.size + 1, 1, none⟩ = false := by unfold World.frozen?; rw [r17]; simp
  have hne : w8.heap.size + 1 ≠ g9 := by omega
  have z2 : (w9.setCell ⟨w8.heap.size + 1, 1, none⟩ (.slice (some ⟨g9, 0, none⟩) (0 + 2) p9)).cell? ⟨g9, 3, none⟩ = some (.int .i64 300) := cellF hne (hc9 3 _ rfl) _
  have z3 : (w9.setCell ⟨w8.heap.size + 1, 1, none⟩ (.slice (some ⟨g9, 0, none⟩) (0 + 2) p9)).frozen? ⟨g9, 3, none⟩ = false := by
    have := hf9
    unfold World.frozen? at this ⊢
    rw [Below.heap_setCell _ _ _ _ (Ne.symm hne)]; exact this
  have HC9 := Lib.hid hc9
  have HB9 := Lib.hid hb9
  have HR17 := Lib.hid r17
  have HR16 := Lib.hid r16
  have hcap9 : 2 ≤ p9 := by
    rcases hown.2 with ⟨e, _⟩ | ⟨g, c, cur, e, _, _, h, _⟩
    · cases e
    · simp only [Value.slice.injEq] at e
      obtain ⟨_, _, rfl⟩ := e
      exact h
  have HCAP := Lib.hid (And.intro hcap9 hlt9)
  have HZ2 := Lib.hid z2
  have HNE := Lib.hid (And.intro hne hge9)
  clear hcap9
  clear hc9 hb9 r17 r16 hge9 hlt9 hown hgrow hTs HOWN0 HT3 hlt5 HN5 y51 hf9 hne
  go_wp2_with fail
  have hbE : Below w8.heap.size w8 ((w9.setCell ⟨w8.heap.size + 1, 1, none⟩ (.slice (some ⟨g9, 0, none⟩) 2 p9)).setCell ⟨g9, 3, none⟩ (.int .i64 301)) := (HB9.out.setCell (p := ⟨w8.heap.size + 1, 1, none⟩) (by show w8.heap.size ≤ w8.heap.size + 1; omega) _).setCell (p := ⟨g9, 3, none⟩) (by show w8.heap.size ≤ g9; have := HNE.out; omega) _
  have e17 : ((w9.setCell ⟨w8.heap.size + 1, 1, none⟩ (.slice (some ⟨g9, 0, none⟩) 2 p9)).setCell ⟨g9, 3, none⟩ (.int .i64 301)).heap[w8.heap.size + 1]? = some (.cells #[.int .i64 5, .slice (some ⟨g9, 0, none⟩) 2 p9, .string (saltH exKey 5), .slice B5 6 c5] 51 (0, 0)) := by
    rw [Below.heap_setCell _ _ _ _ (by exact HNE.out.1)]
    simp only [World.setCell, Array.getElem?_modify, HR17.out, Option.map_some, if_true]; rfl
  have e16 : ((w9.setCell ⟨w8.heap.size + 1, 1, none⟩ (.slice (some ⟨g9, 0, none⟩) 2 p9)).setCell ⟨g9, 3, none⟩ (.int .i64 301)).heap[w8.heap.size]? = some (.cells #[.int .i64 57, .int .i64 (-307), .int .i64 250, .int .i64 0, .int .i64 0, .int .i64 0, .int .i64 0, .int .i64 0] 3 (0, 0)) := by
    rw [Below.heap_setCell _ _ _ _ (by show w8.heap.size ≠ g9; have := HNE.out; omega), Below.heap_setCell _ _ _ _ (by show w8.heap.size ≠ w8.heap.size + 1; omega)]
    exact HR16.out
  have ebad : Chs ((w9.setCell ⟨w8.heap.size + 1, 1, none⟩ (.slice (some ⟨g9, 0, none⟩) 2 p9)).setCell ⟨g9, 3, none⟩ (.int .i64 301)) (.slice (some ⟨g9, 0, none⟩) 2 p9) badC := by
    refine Sl.of_cells (L := badC.map Ch.cells) (k := 5) (by decide) rfl (by decide) ?_ ?_ fun j i x y hx hy => ?_
    · exact HCAP.out.1
    · rw [World.size_setCell, World.size_setCell]; exact HCAP.out.2
    · have h2 := flat_at (k := 5) (badC.map Ch.cells) (by decide) j i x y hx hy
      rw [Nat.zero_add]
      generalize j * 5 + i = m at *
      by_cases hm : m = 3
      · subst hm
        have e3 : y = .int .i64 301 := (Option.some.inj h2).symm
        rw [e3]
        exact World.cell?_setCell_same _ _ _ HZ2.out
      · refine cellS (Ne.symm hm) (cellF HNE.out.1 (HC9.out m y ?_) _) _
        rw [← h2]
        match m, hm with
        | 0, _ => rfl
        | 1, _ => rfl
        | 2, _ => rfl
        | 4, _ => rfl
        | 5, _ => rfl
        | 6, _ => rfl
        | 7, _ => rfl
        | 8, _ => rfl
        | 9, _ => rfl
        | m + 10, _ => rfl
  generalize (w9.setCell ⟨w8.heap.size + 1, 1, none⟩ (.slice (some ⟨g9, 0, none⟩) 2 p9)).setCell ⟨g9, 3, none⟩ (.int .i64 301) = W10 at *
  have IW : Ints W10 (.slice (some ⟨w8.heap.size, 0, none⟩) 8 8) .i64 want57 := by
    refine Ints.of_cells rfl (by decide) (by decide) (Array.getElem?_eq_some_iff.1 e16).1 fun j hj => ?_
    unfold World.cell?
    rw [e16, Nat.zero_add]
    match j, hj with
    | 0, _ => rfl
    | 1, _ => rfl
    | 2, _ => rfl
    | 3, _ => rfl
    | 4, _ => rfl
    | 5, _ => rfl
    | 6, _ => rfl
    | 7, _ => rfl
  have hA5 := HA5'.out.below hbE
  have hA6 := HA6'.out.below hbE
  have hA4 := HA4'.out.below hbE
  have hA8 := HA8'.out.below hbE
  have hIS := HIS'.out.below hbE
  have hIA := HIA'.out.below hbE
  have hDB := HDB'.out.below hbE
  have hB10 := below_then HB8.out hbE
  obtain ⟨b4, o4, v4, rfl, hb4, hv4, hi4⟩ := hA4.2.2.first
  obtain ⟨b8, o8, v8, rfl, hb8, hv8, hi8⟩ := hA8.2.2.first
  rw [show (4 : Int).toNat = 4 from rfl, ex_four] at hi4
  rw [show (8 : Int).toNat = 8 from rfl, ex_eight] at hi8
  rw [ex_root] at hIS
  rw [ex_sums] at hIA
  have q17 : ∀ W, Below W10.heap.size W10 W → W.heap[w8.heap.size + 1]? = some (.cells #[.int .i64 5, .slice (some ⟨g9, 0, none⟩) 2 p9, .string (saltH exKey 5), .slice B5 6 c5] 51 (0, 0)) := fun W h => (h.block _ (Array.getElem?_eq_some_iff.1 e17).1).trans e17
  have h57 : ∃ x, W10.cell? ⟨b5, o5 + 5 + 3, none⟩ = some x ∧ x = .int .i64 7 ∧ b5 < W10.heap.size := by
    obtain ⟨_, A, c, e, _, hat⟩ := hA5.2.1.open_
    simp only [Value.slice.injEq] at e
    obtain ⟨rfl, _, _⟩ := e
    obtain ⟨b, o, e, hb, _, _, _, h3, _⟩ := hat 1 (by decide)
    simp only [Option.some.injEq, Addr.mk.injEq] at e
    obtain ⟨rfl, rfl, _⟩ := e
    exact ⟨_, (show W10.cell? ⟨b5, o5 + 5 + 3, none⟩ = _ from h3), rfl, hb⟩
  obtain ⟨_, x57, rfl, hb57⟩ := h57
  have HM : ∀ W, Below W10.heap.size W10 W → (W.cell? ⟨w1.heap.size, 0, none⟩ = some (.string exKey) ∧ W.cell? ⟨w1.heap.size, 1, none⟩ = some (.slice (some ⟨ge, 0, none⟩) 3 ce)) ∧
      (W.cell? ⟨w4.heap.size, 0, none⟩ = some (.int .i64 5) ∧ W.cell? ⟨w4.heap.size, 1, none⟩ = some (.slice (some ⟨b5, o5, none⟩) 2 a5) ∧ W.cell? ⟨w4.heap.size, 2, none⟩ = some (.string (saltH exKey 5)) ∧ W.cell? ⟨w4.heap.size, 3, none⟩ = some (.slice B5 6 c5)) ∧
      (W.cell? ⟨w5.heap.size, 0, none⟩ = some (.int .i64 6) ∧ W.cell? ⟨w5.heap.size, 1, none⟩ = some (.slice A6 0 a6) ∧ W.cell? ⟨w5.heap.size, 2, none⟩ = some (.string (saltH exKey 6)) ∧ W.cell? ⟨w5.heap.size, 3, none⟩ = some (.slice B6 6 c6)) ∧
      (W.cell? ⟨w8.heap.size + 1, 0, none⟩ = some (.int .i64 5) ∧ W.cell? ⟨w8.heap.size + 1, 1, none⟩ = some (.slice (some ⟨g9, 0, none⟩) 2 p9) ∧ W.cell? ⟨w8.heap.size + 1, 2, none⟩ = some (.string (saltH exKey 5)) ∧ W.cell? ⟨w8.heap.size + 1, 3, none⟩ = some (.slice B5 6 c5)) ∧
      W.cell? ⟨w6.heap.size, 3, none⟩ = some (.slice (some ⟨b4, o4, none⟩) 6 c4) ∧ W.cell? ⟨w7.heap.size, 3, none⟩ = some (.slice (some ⟨b8, o8, none⟩) 6 c8) ∧
      (W.cell? ⟨w3.heap.size, 0, none⟩ = some (.slice (some ⟨gs, 0, none⟩) 8 cs) ∧ W.cell? ⟨w3.heap.size, 1, none⟩ = some (.string (rootT exKey exL).2)) ∧
      W.cell? ⟨b4, o4, none⟩ = some v4 ∧ W.cell? ⟨b8, o8, none⟩ = some v8 ∧ W.cell? ⟨b5, o5 + 5 + 3, none⟩ = some (.int .i64 7) := fun W h => by
    obtain ⟨q5, q6, q43, q83, qs⟩ := HF8 W (below_then hbE h)
    have q := q17 W h
    refine ⟨HF W (below_then hB10 h), q5, q6, ⟨?_, ?_, ?_, ?_⟩, q43, q83, qs, (h.cell (p := ⟨b4, o4, none⟩) hb4).trans hv4, (h.cell (p := ⟨b8, o8, none⟩) hb8).trans hv8, (h.cell (p := ⟨b5, _, none⟩) hb57).trans x57⟩ <;> (unfold World.cell?; rw [q]; rfl)
  have hlit : ∀ (W : World) (L : List Int), L.length = 8 → Ints (W.alloc (.cells (L.map fun n => Value.int .i64 n).toArray 3)) (.slice (some ⟨W.heap.size, 0, none⟩) 8 8) .i64 L := fun W L h => by
    have := Ints.lit' W W.heap.size .i64 3 L rfl (by omega); rwa [h] at this
  have hK1 : ∀ W, Below W10.heap.size W10 W → Calls Tryd.prog 24 #[va, .slice (some ⟨w8.heap.size, 0, none⟩) 8 8] W fun e w' => e = .returned (.bool true) ∧ Below W.heap.size W w' := fun W h => Ints_calls _ _ want57 want57 W (hIA.below h) (IW.below h)
  have hK2 : ∀ W, Below W10.heap.size W10 W → Calls Tryd.prog 24 #[.slice (some ⟨gs, 0, none⟩) 8 cs, .slice (some ⟨w8.heap.size, 0, none⟩) 8 8] W fun e w' => e = .returned (.bool true) ∧ Below W.heap.size W w' := fun W h => Ints_calls _ _ want57 want57 W (hIS.below h) (IW.below h)
  have hK3 : ∀ W, Below W10.heap.size W10 W → Calls Tryd.prog 24 #[v4, .slice (some ⟨W.heap.size, 0, none⟩) 8 8] (W.alloc (.cells #[.int .i64 7, .int .i64 (-307), .int .i64 300, .int .i64 0, .int .i64 0, .int .i64 0, .int .i64 0, .int .i64 0] 3)) fun e w' => e = .returned (.bool true) ∧ Below W.heap.size W w' := fun W h => (Ints_calls _ _ want7 want7 _ ((hi4.below h).alloc _) (hlit W want7 rfl)).mono fun e w' hp => ⟨hp.1, below_then (below_one W _) hp.2⟩
  have hK4 : ∀ W, Below W10.heap.size W10 W → Calls Tryd.prog 24 #[v8, .slice (some ⟨W.heap.size, 0, none⟩) 8 8] (W.alloc (.cells #[.int .i64 50, .int .i64 0, .int .i64 (-50), .int .i64 0, .int .i64 0, .int .i64 0, .int .i64 0, .int .i64 0] 3)) fun e w' => e = .returned (.bool true) ∧ Below W.heap.size W w' := fun W h => (Ints_calls _ _ want50 want50 _ ((hi8.below h).alloc _) (hlit W want50 rfl)).mono fun e w' hp => ⟨hp.1, below_then (below_one W _) hp.2⟩
  have hRdW : ∀ W, Below W10.heap.size W10 W → Rd W := fun W h => HRD.out.below (HBW1.out.trans ((below_then hB10 h).mono HBW1.out.size))
  rw [← ex_root] at hIS
  have hK5 : ∀ W, Below W10.heap.size W10 W → Calls Tryd.prog 30 #[.agg #[.slice (some ⟨gs, 0, none⟩) 8 cs, .string (rootT exKey exL).2], .agg #[.int .i64 5, .slice (some ⟨b5, o5, none⟩) 2 a5, .string (saltH exKey 5), .slice B5 6 c5]] W fun e w' => e = .returned (.bool true) ∧ Below W.heap.size W w' := fun W h => by
    have := Check_calls _ _ (rootT exKey exL).2 5 _ _ (saltH exKey 5) _ _ W (hIS.below h) (hA5.2.1.below h) (hA5.2.2.below h) (hRdW W h)
    rwa [ex_check 5 (by decide)] at this
  have hK6 : ∀ W, Below W10.heap.size W10 W → Calls Tryd.prog 30 #[.agg #[.slice (some ⟨gs, 0, none⟩) 8 cs, .string (rootT exKey exL).2], .agg #[.int .i64 6, .slice A6 0 a6, .string (saltH exKey 6), .slice B6 6 c6]] W fun e w' => e = .returned (.bool true) ∧ Below W.heap.size W w' := fun W h => by
    have := Check_calls _ _ (rootT exKey exL).2 6 _ _ (saltH exKey 6) _ _ W (hIS.below h) (hA6.2.1.below h) (hA6.2.2.below h) (hRdW W h)
    rwa [ex_check 6 (by decide)] at this
  have hK7 : ∀ W, Below W10.heap.size W10 W → Calls Tryd.prog 30 #[.agg #[.slice (some ⟨gs, 0, none⟩) 8 cs, .string (rootT exKey exL).2], .agg #[.int .i64 5, .slice (some ⟨g9, 0, none⟩) 2 p9, .string (saltH exKey 5), .slice B5 6 c5]] W fun e w' => e = .returned (.bool false) ∧ Below W.heap.size W w' := fun W h => by
    have := Check_calls _ _ (rootT exKey exL).2 5 _ _ (saltH exKey 5) _ _ W (hIS.below h) (ebad.below h) (hA5.2.2.below h) (hRdW W h)
    rwa [show (5 : Int).toNat = 5 from rfl, ex_bad] at this
  have hK8 : ∀ W, Below W10.heap.size W10 W → Calls Tryd.prog 21 #[.agg #[.string exKey, .slice (some ⟨ge, 0, none⟩) 3 ce]] W fun e w' => e = .returned (.bool true) ∧ Below W.heap.size W w' := fun W h => by
    have := hS5 W (below_then hB10 h)
    rwa [show (decide (exKey.size = 32) && okChs exL) = true from exValid] at this
  have hK9 : ∀ W, Calls Tryd.prog 21 #[.agg #[.string ⟨#[]⟩, .slice none 0 0]] W fun e w' => e = .returned (.bool false) ∧ Below W.heap.size W w' := fun W => Valid_calls ⟨#[]⟩ (.slice none 0 0) [] W (Sl.nil W 5)
  have hD : ∀ W, Below W10.heap.size W10 W → Calls Tryd.prog 25 #[vd, .slice (some ⟨W.heap.size, 0, none⟩) 3 3] (W.alloc (.cells #[.int .i64 1, .int .i64 2, .int .i64 300, .int .i64 2, .int .i64 0, .int .i64 50, .int .i64 1, .int .i64 0, .int .i64 7] 77)) fun e w' => e = .returned (.bool true) ∧ Below W.heap.size W w' := fun W h => by
    rw [ex_debts] at hDB
    refine (SameDebts_calls _ _ [⟨1, 2, 300⟩, ⟨2, 0, 50⟩, ⟨1, 0, 7⟩] _ ((hDB.below h).below (below_one W _)) ?_).mono fun e w' hp => ⟨hp.1, below_then (below_one W _) hp.2⟩
    refine Sl.of_cells (L := ([⟨1, 2, 300⟩, ⟨2, 0, 50⟩, ⟨1, 0, 7⟩] : List Db).map Db.cells) (k := 3) (by decide) rfl (by decide) (Nat.le_refl _) (by simp) fun j i x y hx hy => ?_
    have h2 := flat_at (k := 3) (([⟨1, 2, 300⟩, ⟨2, 0, 50⟩, ⟨1, 0, 7⟩] : List Db).map Db.cells) (by decide) j i x y hx hy
    unfold World.cell?
    rw [heap_new, Nat.zero_add]
    simpa [Db.cells] using h2
  have hB10' := Lib.hid (HBW1.out.trans (hB10.mono HBW1.out.size))
  have hDBs := Lib.hid hDB
  have hsz32 := ex_digest
  clear HA5' HA6' HA4' HA8' HIS' HIA' HDB' HG4' hA5 hA6 hA4 hA8 hIS hIA hDB hi4 hi8 hB10 hbE e17 e16 ebad IW hv4 hv8 hb4 hb8 x57 hb57 q17 hlit hRdW hS5 HF8 HC9 HB9 HR17 HR16 HNE HB8 HF hvW1 z0 z1 z2 z3 x50 x51 x52 x53 x60 x61 x62 x63 x43 x83 xs0 xs1
  obtain ⟨⟨m0, m1⟩, ⟨x50, x51, x52, x53⟩, ⟨x60, x61, x62, x63⟩, ⟨x70, x71, x72, x73⟩, x43, x83, ⟨xs0, xs1⟩, y4, y8, y5⟩ := HM W10 (Below.refl _ _)
  refine (hK1 W10 (Below.refl _ _)).mono ?_
  rintro e u1 ⟨rfl, B1⟩
  have C1 := Lib.hid B1
  clear B1
  clear m0 m1 x50 x51 x52 x53 x60 x61 x62 x63 x70 x71 x72 x73 x43 x83 xs0 xs1 y4 y8 y5
  obtain ⟨⟨m0, m1⟩, ⟨x50, x51, x52, x53⟩, ⟨x60, x61, x62, x63⟩, ⟨x70, x71, x72, x73⟩, x43, x83, ⟨xs0, xs1⟩, y4, y8, y5⟩ := HM u1 C1.out
  go_wp2_with fail
  refine (hK2 u1 C1.out).mono ?_
  rintro e u2 ⟨rfl, C2⟩
  replace C2 := Lib.hid (below_then C1.out C2)
  clear m0 m1 x50 x51 x52 x53 x60 x61 x62 x63 x70 x71 x72 x73 x43 x83 xs0 xs1 y4 y8 y5
  obtain ⟨⟨m0, m1⟩, ⟨x50, x51, x52, x53⟩, ⟨x60, x61, x62, x63⟩, ⟨x70, x71, x72, x73⟩, x43, x83, ⟨xs0, xs1⟩, y4, y8, y5⟩ := HM u2 C2.out
  go_wp2_with fail
  refine (hK3 u2 C2.out).mono ?_
  rintro e u3 ⟨rfl, C3⟩
  replace C3 := Lib.hid (below_then C2.out C3)
  clear m0 m1 x50 x51 x52 x53 x60 x61 x62 x63 x70 x71 x72 x73 x43 x83 xs0 xs1 y4 y8 y5
  obtain ⟨⟨m0, m1⟩, ⟨x50, x51, x52, x53⟩, ⟨x60, x61, x62, x63⟩, ⟨x70, x71, x72, x73⟩, x43, x83, ⟨xs0, xs1⟩, y4, y8, y5⟩ := HM u3 C3.out
  go_wp2_with fail
  refine (hK4 u3 C3.out).mono ?_
  rintro e u4 ⟨rfl, C4⟩
  replace C4 := Lib.hid (below_then C3.out C4)
  clear m0 m1 x50 x51 x52 x53 x60 x61 x62 x63 x70 x71 x72 x73 x43 x83 xs0 xs1 y4 y8 y5
  obtain ⟨⟨m0, m1⟩, ⟨x50, x51, x52, x53⟩, ⟨x60, x61, x62, x63⟩, ⟨x70, x71, x72, x73⟩, x43, x83, ⟨xs0, xs1⟩, y4, y8, y5⟩ := HM u4 C4.out
  go_wp2_with fail
  refine (hK5 u4 C4.out).mono ?_
  rintro e u5 ⟨rfl, C5⟩
  replace C5 := Lib.hid (below_then C4.out C5)
  clear m0 m1 x50 x51 x52 x53 x60 x61 x62 x63 x70 x71 x72 x73 x43 x83 xs0 xs1 y4 y8 y5
  obtain ⟨⟨m0, m1⟩, ⟨x50, x51, x52, x53⟩, ⟨x60, x61, x62, x63⟩, ⟨x70, x71, x72, x73⟩, x43, x83, ⟨xs0, xs1⟩, y4, y8, y5⟩ := HM u5 C5.out
  go_wp2_with fail
  refine (hK6 u5 C5.out).mono ?_
  rintro e u6 ⟨rfl, C6⟩
  replace C6 := Lib.hid (below_then C5.out C6)
  clear m0 m1 x50 x51 x52 x53 x60 x61 x62 x63 x70 x71 x72 x73 x43 x83 xs0 xs1 y4 y8 y5
  obtain ⟨⟨m0, m1⟩, ⟨x50, x51, x52, x53⟩, ⟨x60, x61, x62, x63⟩, ⟨x70, x71, x72, x73⟩, x43, x83, ⟨xs0, xs1⟩, y4, y8, y5⟩ := HM u6 C6.out
  go_wp2_with fail
  refine (hK7 u6 C6.out).mono ?_
  rintro e u7 ⟨rfl, C7⟩
  replace C7 := Lib.hid (below_then C6.out C7)
  clear m0 m1 x50 x51 x52 x53 x60 x61 x62 x63 x70 x71 x72 x73 x43 x83 xs0 xs1 y4 y8 y5
  obtain ⟨⟨m0, m1⟩, ⟨x50, x51, x52, x53⟩, ⟨x60, x61, x62, x63⟩, ⟨x70, x71, x72, x73⟩, x43, x83, ⟨xs0, xs1⟩, y4, y8, y5⟩ := HM u7 C7.out
  go_wp2_with fail
  refine (hD u7 C7.out).mono ?_
  rintro e u8 ⟨rfl, C8⟩
  replace C8 := Lib.hid (below_then C7.out C8)
  clear m0 m1 x50 x51 x52 x53 x60 x61 x62 x63 x70 x71 x72 x73 x43 x83 xs0 xs1 y4 y8 y5
  obtain ⟨⟨m0, m1⟩, ⟨x50, x51, x52, x53⟩, ⟨x60, x61, x62, x63⟩, ⟨x70, x71, x72, x73⟩, x43, x83, ⟨xs0, xs1⟩, y4, y8, y5⟩ := HM u8 C8.out
  go_wp2_with fail
  refine (hK8 u8 C8.out).mono ?_
  rintro e u9 ⟨rfl, C9⟩
  replace C9 := Lib.hid (below_then C8.out C9)
  clear m0 m1 x50 x51 x52 x53 x60 x61 x62 x63 x70 x71 x72 x73 x43 x83 xs0 xs1 y4 y8 y5
  obtain ⟨⟨m0, m1⟩, ⟨x50, x51, x52, x53⟩, ⟨x60, x61, x62, x63⟩, ⟨x70, x71, x72, x73⟩, x43, x83, ⟨xs0, xs1⟩, y4, y8, y5⟩ := HM u9 C9.out
  go_wp2_with fail
  refine (hK9 u9).mono ?_
  rintro e u10 ⟨rfl, C10⟩
  replace C10 := Lib.hid (below_then C9.out C10)
  clear m0 m1 x50 x51 x52 x53 x60 x61 x62 x63 x70 x71 x72 x73 x43 x83 xs0 xs1 y4 y8 y5 HM
  go_wp2_with fail
  go_ret
  exact ⟨rfl, hB10'.out.trans (C10.out.mono hB10'.out.size)⟩

end Go.Proofs.YthohfbeelepkmaaDoor
