/- dialtonelaw40: pick; Account over any ledger; the first charges; the sums with one charge more. -/
import Derived.Test.YthohfbeelepkmaaDoorM2
import Derived.Test.YthohfbeelepkmaaDoorK1
namespace Go.Proofs.YthohfbeelepkmaaDoor
open Go.RowKit Go.Shelf

theorem pickLaw_calls (c : Int) (n : Nat) (w : World) (h1 : -9223372036854775808 ≤ c) (h2 : c ≤ 9223372036854775807) (hn : 0 < n) (hn2 : n ≤ 4000000000) :
    Calls Tryd.prog 13 #[.int .i64 c, .int .i64 n] w fun e w' => e = .returned (.int .i64 (pickI c n)) ∧ w = w' := by
  by_cases hc : c < 0
  · have e1 : pickI c n = (-(c + 1)) % (n : Int) := by simp [pickI, hc]
    have hm : (-(c + 1)).tmod (n : Int) = (-(c + 1)) % (n : Int) := Int.tmod_eq_emod_of_nonneg (by omega)
    rw [e1]
    have hne : (n : Int) ≠ 0 := by omega
    go_enter Tryd.func13, Tryd.ntmps13
    go_wp2
    go_ret
    exact ⟨rfl, rfl⟩
  · have e1 : pickI c n = c % (n : Int) := by simp [pickI, hc]
    have hm : c.tmod (n : Int) = c % (n : Int) := Int.tmod_eq_emod_of_nonneg (by omega)
    rw [e1]
    have hne : (n : Int) ≠ 0 := by omega
    go_enter Tryd.func13, Tryd.ntmps13
    go_wp2
    go_ret
    exact ⟨rfl, rfl⟩

/-- What Account answers of a valid ledger and a customer. -/
theorem Account_gen (key : ByteArray) (v : Value) (l : List Ch) (m : Nat) (w : World) (hv : Chs w v l) (hok : validB key l = true) (hm : m < 64) (hRd : Rd w) :
    Calls Tryd.prog 26 #[.agg #[.string key, v], .int .i64 m] w fun e w' => ∃ A a B b, e = .returned (.tuple #[.agg #[.int .i64 m, .slice A (ofL l m).length a, .string (saltH key m), .slice B 6 b], .int .i64 0]) ∧ Chs w' (.slice A (ofL l m).length a) (ofL l m) ∧ Pth w' (.slice B 6 b) (pathL key l m 6) ∧ Below w.heap.size w w' := by
  obtain ⟨_, _, A, cap, rfl, _⟩ := id hv
  have hok2 : okChs l = true := by simp only [validB, Bool.and_eq_true] at hok; exact hok.2
  refine (Account_calls key A _ cap l m w hv hok hm hRd).mono ?_
  rintro e w' ⟨vC, vP, L', rfl, ho, hT, hL, hb⟩
  have hC := ownsRow_chs ho (Nat.le_trans (List.length_filter_le _ _) (by have := (okChs_facts hok2).1; omega))
  have hP := hT.pth (fun p hp => by
    have : p.2 ∈ pathL key l m 6 := by rw [← hL]; exact List.mem_map.2 ⟨p, hp, rfl⟩
    obtain ⟨j, _, e⟩ := List.mem_map.1 this
    rw [← e]; exact (nodeT_ok key hok2 _ _).1) (by have := congrArg List.length hL; simp [pathL] at this; omega)
  rw [hL] at hP
  obtain ⟨A1, c1, rfl⟩ := hC.slice
  obtain ⟨A2, c2, rfl⟩ := hP.slice
  rw [pathL_length] at hP ⊢
  exact ⟨A1, c1, A2, c2, rfl, hC, hP, hb⟩

theorem Sl.take {w : World} {A : Option Addr} {n c k : Nat} {L : List (List Value)} (h : Sl w (.slice A n c) k L) (m : Nat) (hm : m ≤ L.length) : Sl w (.slice A m c) k (L.take m) := by
  obtain ⟨h1, h2, A', c', e, h3, h4⟩ := h
  simp only [Value.slice.injEq] at e
  obtain ⟨rfl, rfl, rfl⟩ := e
  have hl : (L.take m).length = m := by simp; omega
  refine ⟨fun x hx => h1 x (List.mem_of_mem_take hx), by omega, A, c, by rw [hl], by omega, fun hp => ?_⟩
  obtain ⟨b, off, e, hb, hat⟩ := h4 (by omega)
  refine ⟨b, off, e, hb, fun j i x y hx hy => hat j i x y ?_ hy⟩
  rw [List.getElem?_take] at hx
  split at hx
  · exact hx
  · cases hx
theorem Chs.take {w : World} {A : Option Addr} {n c : Nat} {l : List Ch} (h : Chs w (.slice A n c) l) (m : Nat) (hm : m ≤ l.length) : Chs w (.slice A m c) (l.take m) := by
  have := Sl.take h m (by simpa using hm)
  rw [← List.map_take] at this
  exact this

theorem sumsL_snoc' (l : List Ch) (c : Ch) : sumsL (l ++ [c]) = addC (sumsL l) c := by simp [sumsL]
theorem grow_sums (l : List Ch) (c : Ch) (h1 : c.pa.toNat < 8) (h2 : c.pe.toNat < 8) (k : Nat) :
    (sumsL (l ++ [c])).getD k 0 = if c.pe.toNat = k then (if c.pa.toNat = c.pe.toNat then (sumsL l).getD c.pa.toNat 0 - c.am else (sumsL l).getD c.pe.toNat 0) + c.am else if c.pa.toNat = k then (sumsL l).getD k 0 - c.am else (sumsL l).getD k 0 := by
  rw [sumsL_snoc', addC_getD c (sumsL_length l) h1 h2]
  by_cases h : c.pa.toNat = k
  · rw [if_pos h, if_pos h, h]
  · rw [if_neg h, if_neg h]

end Go.Proofs.YthohfbeelepkmaaDoor
