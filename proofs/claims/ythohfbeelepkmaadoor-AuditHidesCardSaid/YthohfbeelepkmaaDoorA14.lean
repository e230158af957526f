/- digest.Sum. -/
import Derived.Test.YthohfbeelepkmaaDoorA4
import Derived.Test.YthohfbeelepkmaaDoorA11
import Derived.Shelf.Strings.OnBuilder
import Derived.Ground.Names2Prog
import Derived.Shelf.Slices.Clone
import Derived.Shelf.Slices.Equal
import Derived.Test.YthohfbeelepkmaaDoorProg
namespace Go.Proofs.YthohfbeelepkmaaDoor
open Go.RowKit Go.Shelf
attribute [local go_sem] Oper.semAt_some

def sha0 : List Int := [1779033703, 3144134277, 1013904242, 2773480762, 1359893119, 2600822924, 528734635, 1541459225]
def lenB (L j : Nat) : Int := ((8 * L / 2 ^ (8 * (7 - j)) % 256 : Nat) : Int)
def padZ (L : Nat) : Nat := (119 - L % 64) % 64
/-- What is hashed of a string: its bytes, a one, zeros, its length. -/
def padded (s : ByteArray) : List Int := numsOf s ++ [128] ++ List.replicate (padZ s.size) 0 ++ (List.range 8).map (lenB s.size)
def chunkI (l : List Int) (j : Nat) : List Int := (l.drop (64 * j)).take 64
def shaW (l : List Int) : Nat → List Int
  | 0 => sha0
  | j + 1 => addW (shaW l j) (chunkI l j)
/-- The digest. -/
def sha (s : ByteArray) : ByteArray := strOfNums (outB (shaW (padded s) ((padded s).length / 64)) 32)

theorem padded_bytes (s : ByteArray) : Bytes (padded s) := by
  intro x hx
  unfold padded at hx
  simp only [List.mem_append, List.mem_map, List.mem_singleton, List.mem_replicate, numsOf] at hx
  rcases hx with ((⟨b, _, rfl⟩ | rfl) | ⟨_, rfl⟩) | ⟨j, _, rfl⟩
  · have := b.toNat_lt; omega
  · omega
  · omega
  · unfold lenB; omega
theorem chunksB_at (g off M : Nat) (pre : List Value) (x : Value) (r : List Value) (h : chunksB g off M = pre ++ x :: r) : pre.length < M ∧ ∃ o, o = off + 64 * pre.length ∧ x = .slice (some ⟨g, o, none⟩) 64 64 := by
  have h1 : (chunksB g off M)[pre.length]? = some x := by rw [h]; simp
  unfold chunksB at h1
  simp only [List.getElem?_map, Option.map_eq_some_iff] at h1
  obtain ⟨a, ha, rfl⟩ := h1
  obtain ⟨hlt, hv⟩ := List.getElem?_eq_some_iff.1 ha
  simp at hlt hv
  exact ⟨hlt, _, rfl, by rw [hv]⟩
theorem RowM.chunk {W : World} {B g n cap k : Nat} {l : List Int} (h : RowM W B (.slice (some ⟨g, 0, none⟩) n cap) l) (hk : 64 * k + 64 ≤ l.length) : Ints W (.slice (some ⟨g, 0 + 64 * k, none⟩) 64 64) .u8 (chunkI l k) := by
  have hl : (chunkI l k).length = 64 := by simp [chunkI]; omega
  refine Ints.of_cells hl (by omega) (Nat.le_refl _) ?_ fun j hj => ?_
  · obtain ⟨g', cap', cur, fz, e, hb, hg, r⟩ := h
    cases e
    exact (Array.getElem?_eq_some_iff.1 hg).1
  · have := h.cell (64 * k + j) (by omega)
    rw [Nat.zero_add, this]
    simp [chunkI]
theorem KeepNC.but {g : Nat} {W W' : World} {q : IntKind} {t : TypeId} {l : List Int} (h : BelowBut g W W') (hA : Arr W g q t l) : KeepNC W W' := fun k o hk ho => by
  refine (h.block k (Array.getElem?_eq_some_iff.1 hk).1 (fun e => ?_)).trans hk
  subst e
  rw [hA] at hk; cases hk; cases ho
theorem KeepT.but {ts : List TypeId} {g : Nat} {W W' : World} {q : IntKind} {t : TypeId} {l : List Int} (h : BelowBut g W W') (hA : Arr W g q t l) (ht : t ∉ ts) : KeepT ts W W' := fun k cs t' f hm hk => by
  refine (h.block k (Array.getElem?_eq_some_iff.1 hk).1 (fun e => ?_)).trans hk
  subst e
  rw [hA] at hk; cases hk; exact absurd hm ht

theorem shaW_length (l : List Int) : ∀ j, (shaW l j).length = 8 := by
  intro j
  induction j with
  | zero => rfl
  | succ j ih =>
    have hr : ∀ ws k, (rounds (shaW l j) ws k).length = 8 := by
      intro ws k
      cases k with
      | zero => exact ih
      | succ k => rfl
    simp [shaW, addW, ih, hr]

def slLen : Value → Nat
  | .slice _ n _ => n
  | _ => 0

theorem padZ_spec (L : Nat) : (L + 1 + padZ L) % 64 = 56 ∧ ∀ k, k < padZ L → (L + 1 + k) % 64 ≠ 56 := by
  unfold padZ
  constructor
  · omega
  · intro k hk; omega

set_option maxHeartbeats 1000000 in
set_option maxRecDepth 100000 in
theorem Sum_calls (s : ByteArray) (w : World) (hs : s.size ≤ 1099511627776) (hR : Rd w) :
    Calls Tryd.prog 114 #[.string s] w fun e w' => e = .returned (.string (sha s)) ∧ Below w.heap.size w w' := by
  obtain ⟨wA, hwA⟩ : ∃ wA, wA = w.alloc (.cells (sha0.map fun n => Value.int .u32 n).toArray 168) := ⟨_, rfl⟩
  have hA0 : Arr wA w.heap.size .u32 168 sha0 := by rw [hwA]; exact Arr.new w .u32 168 sha0
  have hbA : Below w.heap.size w wA := by rw [hwA]; exact below_one w _
  have hn1 : wA.heap.size = w.heap.size + 1 := by rw [hwA]; simp
  have hRA := hR.below hbA
  obtain ⟨v0, w1, hr0, hrow, hb1⟩ := convert_row (P := Tryd.prog) wA 9 66 s (by kernel_rfl) (by kernel_rfl) (by kernel_rfl) (by omega)
  rw [hwA] at hr0
  have HN := Lib.hid hn1
  clear hn1 hwA
  have hl0 := numsOf_length s
  have HL := Lib.hid hl0
  refine calls_of_wp_marks Tryd.func114 rfl ?_
  simp only [Tryd.ntmps114, List.size_toArray, List.length_cons, List.length_nil, Nat.reduceAdd, Nat.reduceSub, Array.replicate_succ, Array.replicate_zero, List.push_toArray, List.append_toArray, List.nil_append, List.cons_append]
  go_wp2_with fail
  simp only [sha0, List.map_cons, List.map_nil] at hr0
  rw [hr0]
  simp only [Result.andThen]
  rw [Oper.upon_value]
  clear hr0
  have HS := Lib.hid hs
  go_wp2_with (at_builtin; refine wpList_append_byte _ rfl _ _ rfl wA.heap.size _ _ rfl (hrow.keep (ts := [5]) (KeepT.of_below (below_one _ _)) (by decide)) ⟨w1.heap.size, 0, none⟩ 1 128 rfl (cell_one_new w1 _ _ 0 _ rfl) ?c1 ?c2 ?_)
  case c1 => rw [hl0]; omega
  case c2 => have := hb1.size; simp; omega
  intro v2 w2 hr2 hb2
  replace hb2 := hb1.trans ((below_one w1 _).mono hb1.size |>.trans hb2)
  clear hb1 hrow hl0 hs
  obtain ⟨g2, cap2, cur2, fz2, hv2, _⟩ := id hr2
  have e2 : (numsOf s ++ [128]).length = s.size + 1 := by simp [HL.out]
  rw [e2] at hv2
  subst hv2
  clear e2
  have HR2 := Lib.hid hr2
  clear hr2
  go_wp2
  go_loopw [4] (fun s4 wr => ∃ (k m g cap : Nat), s4 = .slice (some ⟨g, 0, none⟩) m cap ∧ Aside (m = s.size + 1 + k) ∧ Aside (k ≤ padZ s.size) ∧ Aside (RowM wr wA.heap.size s4 (numsOf s ++ [128] ++ List.replicate k 0)) ∧ Aside (Below wA.heap.size wA wr)) (fun s4 _ => s.size + 1 + padZ s.size - slLen s4)
  case atStart =>
    exact ⟨0, s.size + 1, g2, cap2, rfl, rfl, Nat.zero_le _, (show RowM _ _ _ _ by simpa using HR2.out), hb2⟩
  case round =>
    obtain ⟨k, m, g, cap, rfl, hm, hk, hrow, hb⟩ := hrel
    have HP := Lib.hid (padZ_spec s.size)
    have hl2 : (numsOf s ++ [128] ++ List.replicate k 0).length = m := by rw [hm.out]; simp [HL.out]; omega
    have hm2 : m < 1099511627776 + 70 := by have hpz : padZ s.size < 64 := by unfold padZ; omega
                                            have := hk.out; have := hm.out; have := HS.out; omega
    by_cases hlt : k < padZ s.size
    · have hne : (m : Int) % 64 ≠ 56 := by have := HP.out.2 k hlt; have := hm.out; omega
      have hne2 : m % 64 ≠ 56 := by omega
      have HK := Lib.hid hlt
      obtain ⟨L1, hL1⟩ : ∃ L1, L1 = numsOf s ++ [128] ++ List.replicate k 0 := ⟨_, rfl⟩
      rw [← hL1] at hl2 hrow
      have hr3 := hrow.out
      have hb3 := hb.out.size
      have HL1 := Lib.hid hL1
      clear hlt hL1 hrow
      go_wp2_with (at_builtin; refine wpList_append_byte _ rfl _ _ rfl wA.heap.size _ _ rfl (hr3.keep (ts := [5]) (KeepT.of_below (below_one _ _)) (by decide)) ⟨wr.heap.size, 0, none⟩ 1 0 rfl (cell_one_new wr _ _ 0 _ rfl) ?c1 ?c2 ?_)
      case c1 => rw [hl2]; omega
      case c2 => simp; omega
      intro v' w3 hr4 hb4
      obtain ⟨g', cap', cur', fz', hv', _⟩ := id hr4
      rw [List.length_append, hl2] at hv'
      simp only [List.length_cons, List.length_nil, Nat.zero_add] at hv'
      have hr5 := Lib.hid hr4
      rw [hv'] at hr5 ⊢
      clear hr3 hr4 hv'
      go_wp2
      go_roundw
      case measure => simp only [slLen]; have := HK.out; have := hm.out; omega
      case rel =>
        refine ⟨k + 1, m + 1, g', cap', rfl, ?_, HK.out, ?_, hb.out.trans (((below_one wr _).mono hb3).trans hb4)⟩
        · show m + 1 = _
          have := hm.out; omega
        · show RowM _ _ _ _
          rw [List.replicate_succ', ← List.append_assoc, ← HL1.out]; exact hr5.out
    · have he : (m : Int) % 64 = 56 := by have := HP.out.1; have := hk.out; have := hm.out; have : k = padZ s.size := by omega
                                          subst this; omega
      have he2 : m % 64 = 56 := by omega
      have hkk : k = padZ s.size := by have := hk.out; omega
      have HK := Lib.hid hkk
      clear hlt hkk
      obtain ⟨L1, hL1⟩ : ∃ L1, L1 = numsOf s ++ [128] ++ List.replicate k 0 := ⟨_, rfl⟩
      rw [← hL1] at hl2 hrow
      have HL1 := Lib.hid hL1
      have HL2 := Lib.hid hl2
      have HM2 := Lib.hid hm2
      clear hL1 hl2 hm2
      obtain ⟨wo, rfl⟩ : ∃ wo : World, wo = wr := ⟨_, rfl⟩
      go_wp2
      rw [he]
      have HE := Lib.hid he2
      clear he he2
      go_loopw [4, 5] (fun s4 s5 wr => ∃ (j n g cap : Nat), s4 = .slice (some ⟨g, 0, none⟩) n cap ∧ s5 = .int .i64 (7 - (j : Int)) ∧ j ≤ 8 ∧ Aside (n = m + j) ∧ Aside (RowM wr wA.heap.size s4 (L1 ++ (List.range j).map (lenB s.size))) ∧ Aside (Below wA.heap.size wA wr)) (fun _ s5 _ => (intOf s5 + 1).toNat)
      case atStart =>
        exact ⟨0, m, g, cap, rfl, rfl, by omega, rfl, (show RowM _ _ _ _ by simpa using hrow.out), hb⟩
      case round =>
        obtain ⟨j, n, g, cap, rfl, rfl, hj, hn, hrow, hb⟩ := hrel
        by_cases hlt : j < 8
        · obtain ⟨i, hi⟩ : ∃ i : Nat, i = 7 - j := ⟨_, rfl⟩
          have hij : 7 - (j : Int) = i := by omega
          have hi7 : i ≤ 7 := by omega
          rw [hij]
          have HI := Lib.hid hi
          have HJ := Lib.hid hlt
          clear hij hlt hj hi
          have h8s : (0 : Int) ≤ 8 * (s.size : Int) := by omega
          have hss : (s.size : Int) ≤ 1099511627776 := by have := HS.out; omega
          have hx : 8 * (s.size : Int) / 2 ^ (8 * i) % 256 = lenB s.size j := by
            unfold lenB; rw [← HI.out]; push_cast; rfl
          have hr3 := hrow.out
          have hb3 := hb.out.size
          have hl3 : (L1 ++ (List.range j).map (lenB s.size)).length = n := by simp [HL2.out]; exact hn.out.symm
          obtain ⟨L2, hL2⟩ : ∃ L2, L2 = L1 ++ (List.range j).map (lenB s.size) := ⟨_, rfl⟩
          rw [← hL2] at hr3 hl3
          have HLL := Lib.hid hL2
          have HX := Lib.hid hx
          have hn2 : n ≤ 1099511627776 + 100 := by have := hn.out; have := HM2.out; have := HJ.out; omega
          clear hL2 hx hrow
          go_wp2_with (at_builtin; refine wpList_append_byte _ rfl _ _ rfl wA.heap.size _ _ rfl (hr3.keep (ts := [5]) (KeepT.of_below (below_one _ _)) (by decide)) ⟨wr.heap.size, 0, none⟩ 1 _ rfl (cell_one_new wr _ _ 0 _ rfl) ?c1 ?c2 ?_)
          case c1 => rw [hl3]; omega
          case c2 => simp; omega
          intro v' w3 hr4 hb4
          obtain ⟨g', cap', cur', fz', hv', _⟩ := id hr4
          rw [List.length_append, hl3] at hv'
          simp only [List.length_cons, List.length_nil, Nat.zero_add] at hv'
          have hr5 := Lib.hid hr4
          rw [hv'] at hr5 ⊢
          clear hr3 hr4 hv'
          go_wp2
          go_roundw
          case measure => simp [intOf]
          case rel =>
            refine ⟨j + 1, n + 1, g', cap', rfl, ?_, HJ.out, ?_, ?_, hb.out.trans (((below_one wr _).mono hb3).trans hb4)⟩
            · have h1 := HI.out; have h2 := HJ.out; rw [show (7 : Int) - ((j + 1 : Nat) : Int) = (i : Int) - 1 by omega]
            · show n + 1 = _
              have := hn.out; omega
            · show RowM _ _ _ _
              rw [List.range_succ, List.map_append, ← List.append_assoc, ← HLL.out]
              have := hr5.out
              rw [HX.out] at this
              exact this
        · have hj8 : j = 8 := by omega
          subst hj8
          obtain ⟨M, hM⟩ : ∃ M, n = 64 * M := ⟨n / 64, by have := HE.out; have := hn.out; omega⟩
          have hpad : L1 ++ (List.range 8).map (lenB s.size) = padded s := by rw [HL1.out, HK.out]; rfl
          have hr3 := hrow.out
          rw [hpad] at hr3
          have hlen : (padded s).length = n := by rw [← hpad]; simp [HL2.out]; exact hn.out.symm
          have hn2 : n ≤ 1099511627776 + 100 := by have := hn.out; have := HM2.out; omega
          have hsha : sha s = strOfNums (outB (shaW (padded s) M) 32) := by unfold sha; rw [hlen, hM]; congr 3; omega
          have hby := padded_bytes s
          generalize padded s = pad at hr3 hlen hsha hby
          have HSH := Lib.hid hsha
          have HMM := Lib.hid hM
          have HN2 := Lib.hid hn2
          have HPL := Lib.hid hlen
          have HBY := Lib.hid hby
          have hbA2 : Below w.heap.size w wr := hbA.trans (hb.out.mono (by have := HN.out; omega))
          have hAr : Arr wr w.heap.size .u32 168 sha0 := (hb.out.block _ (by have := HN.out; omega)).trans hA0
          have hRr := hR.below hbA2
          have HPOS : 0 < w.heap.size := hR.lt
          have hcap : n ≤ cap := by obtain ⟨_, _, _, _, e, _, _, _, h4, _⟩ := hr3; cases e; omega
          have HAr := Lib.hid hAr
          have HR3 := Lib.hid hr3
          have HBB := Lib.hid hbA2
          have HRR := Lib.hid hR
          clear hsha hM hn2 hlen hby hpad hrow hb hj hlt hA0 hRA hbA hRr hR hAr hr3 hbA2
          go_wp2_with fail
          refine (ChunkB_calls _ _ _ _).mono ?_
          rintro e w3 ⟨rfl, rfl⟩
          go_wp2
          have hbs : Boxed ((wr.alloc (.cells #[.slice (some ⟨g, 0, none⟩) n cap] 66)).alloc (.cells #[.int .i64 64] 3)) wr.heap.size 66 (.slice (some ⟨g, 0, none⟩) n cap) := (Boxed.new wr 66 _).alloc _
          have hbn : Boxed ((wr.alloc (.cells #[.slice (some ⟨g, 0, none⟩) n cap] 66)).alloc (.cells #[.int .i64 64] 3)) (wr.heap.size + 1) 3 (.int .i64 64) := by
            have := Boxed.new (wr.alloc (.cells #[.slice (some ⟨g, 0, none⟩) n cap] 66)) 3 (.int .i64 64); rwa [World.size_alloc] at this
          have hbw : Below wr.heap.size wr ((wr.alloc (.cells #[.slice (some ⟨g, 0, none⟩) n cap] 66)).alloc (.cells #[.int .i64 64] 3)) := below_alloc (below_one wr _) _
          have hsz : ((wr.alloc (.cells #[.slice (some ⟨g, 0, none⟩) n cap] 66)).alloc (.cells #[.int .i64 64] 3)).heap.size = wr.heap.size + 2 := by simp
          generalize (wr.alloc (.cells #[.slice (some ⟨g, 0, none⟩) n cap] 66)).alloc (.cells #[.int .i64 64] 3) = w4 at *
          have hwr := HAr.out.lt
          have hA4 := HAr.out.below hbw
          have hR4 := HR3.out.keep (ts := [5]) (KeepT.of_below hbw) (by decide)
          have hb4 := HBB.out.trans (hbw.mono HBB.out.size)
          refine wp_rangeFunc (gf := 123) (lb := #[.pointer (some ⟨wr.heap.size, 0, none⟩), .pointer (some ⟨wr.heap.size + 1, 0, none⟩)]) rfl (enters_of Tryd.func123 (by kernel_rfl) rfl)
            (fun o => chunkB_seq wr.heap.size (wr.heap.size + 1) g 0 M cap n HMM.out (by have := HN2.out; omega) hcap _ ((hbs.alloc _).alloc _).cell ((hbn.alloc _).alloc _).cell) (fun h k => ⟨k.1.trans h.1, k.2.trans h.2⟩) ?hkb ?hst (fun _ => rfl)
            (fun pre W => Arr W w.heap.size .u32 168 (shaW pad pre.length) ∧ RowM W wA.heap.size (.slice (some ⟨g, 0, none⟩) n cap) pad ∧ (∃ v, Boxed W wr.heap.size 66 v) ∧ (∃ v, Boxed W (wr.heap.size + 1) 3 v) ∧ Below w.heap.size w W) ?his ?hip ?h0 ?a₁ ?assign ?body ?done
          case assign =>
            intro l x W K hK
            gi_wp2
            exact hK
          case hkb =>
            intro W o o' h
            rw [hsz] at h ⊢
            have hne : wr.heap.size ≠ wr.heap.size + 2 + 1 := by omega
            have hne' : wr.heap.size + 1 ≠ wr.heap.size + 2 + 1 := by omega
            refine ⟨?_, ?_⟩ <;> simp only [World.cell?, World.putObj_heap_other hne, World.putObj_heap_other hne']
          case hst =>
            rintro A B k o ⟨_, rfl⟩ _ h ho
            exact h
          case his =>
            rintro s A B ⟨m', rfl⟩ ⟨a1, r1, ⟨v1, b1⟩, ⟨v2, b2⟩, hb⟩
            exact ⟨a1, r1, ⟨v1, b1⟩, ⟨v2, b2⟩, below_drewN hb _⟩
          case hip =>
            rintro s' W o o' h ⟨a1, r1, ⟨v1, b1⟩, ⟨v2, b2⟩, hb⟩
            have kt : KeepT [168, 66, 5, 3] W (W.putObj (w4.heap.size + 1) (.loop o')) := KeepT.putObj h
            exact ⟨kt _ _ _ _ (by decide) a1, r1.keep kt (by decide), ⟨_, boxed_keep b1 kt (by decide)⟩, ⟨_, boxed_keep b2 kt (by decide)⟩, hb.trans (below_putLoop (by omega) h)⟩
          case h0 =>
            intro o
            have kt : KeepT [168, 66, 5, 3] w4 ((w4.alloc (.deferred (some []))).alloc (.loop o)) := ((KeepT.refl _ _).alloc _).alloc _
            exact ⟨kt _ _ _ _ (by decide) hA4, hR4.keep kt (by decide), ⟨_, boxed_keep hbs kt (by decide)⟩, ⟨_, boxed_keep hbn kt (by decide)⟩, below_alloc (below_alloc hb4 _) _⟩
          case body =>
            rintro l pre x W ⟨a1, r1, ⟨v1, b1⟩, ⟨v2, b2⟩, hb⟩ ⟨r, hr⟩ hW
            obtain ⟨hlt, o, ho, rfl⟩ := chunksB_at g 0 M pre x r hr
            have hI := r1.chunk (k := pre.length) (by have := HPL.out; have := HMM.out; omega)
            rw [← ho] at hI
            clear ho hr
            have hcl : (chunkI pad pre.length).length = 64 := by simp [chunkI]; have := HPL.out; have := HMM.out; omega
            have hcb : Bytes (chunkI pad pre.length) := fun y hy => HBY.out y (List.mem_of_mem_drop (List.mem_of_mem_take hy))
            have hc := add_calls w.heap.size (shaW pad pre.length) _ (chunkI pad pre.length) W a1 (shaW_length pad pre.length) hI hcl hcb (HRR.out.below hb)
            gi_wp2_with (refine ⟨trivial, ?_⟩; gi_at_call 120; refine (CallsIn.inRound l (callsIn_wide.2 hc)).mono ?_; rintro e w' ⟨rfl, hA', hb'⟩)
            have kt : KeepT [66, 5, 3] W w' := KeepT.but hb' a1 (by decide)
            have hz1 := boxed_keep b1 kt (by decide)
            have hz2 := boxed_keep b2 kt (by decide)
            refine ⟨KeepNC.but hb' a1, ⟨hz1.cell.trans b1.cell.symm, hz2.cell.trans b2.cell.symm⟩, ?_, r1.keep kt (by decide), ⟨_, hz1⟩, ⟨_, hz2⟩, ?_⟩
            · rw [List.length_append]; exact hA'
            · exact ⟨hb'.os.trans hb.os, hb'.tape.trans hb.tape, hb'.output.trans hb.output, Nat.le_trans hb.size hb'.size, fun k hk => (hb'.block k (Nat.lt_of_lt_of_le hk hb.size) (by omega)).trans (hb.block k hk)⟩
          case done =>
            rintro xs W rfl ⟨a1, r1, ⟨v1, b1⟩, ⟨v2, b2⟩, hb⟩ hd
            have hcl : (chunksB g 0 M).length = M := by simp [chunksB]
            rw [hcl] at a1
            have h8 := shaW_length pad M
            have hdg := digest_calls (shaW pad M) W h8
            have H8 := Lib.hid h8
            have J168 := Lib.hid (show (Tryd.prog.info? 168).map (·.size) = some 8 by kernel_rfl)
            generalize shaW pad M = hw at *
            clear h8
            go_wp2_with (refine wpList_load_arr 168 (.tmp 3) w.heap.size 8 105 a1 Tryd.underlying168 (by rw [H8.out]; exact J168.out) rfl rfl rfl ?_)
            refine hdg.mono ?_
            rintro e w5 ⟨rfl, hb5⟩
            go_wp2
            have hd5 := (hb5.block _ (Array.getElem?_eq_some_iff.1 hd).1).trans hd
            rw [hsz] at hd5
            refine ⟨by simp, .inl ⟨_, _, rfl, run_takeDeferred hd5, ?_⟩⟩
            refine ⟨_, results_tmp rfl _ _ _, ?_, (hb.trans (hb5.mono hb.size)).trans ⟨rfl, rfl, rfl, by simp, fun k hk => World.putObj_heap_other (by omega)⟩⟩
            rw [HSH.out]; rfl

end Go.Proofs.YthohfbeelepkmaaDoor

/- Laid off the shelf: strings.Join, slices.Clone of integers, at this program (printed by the kit's lay-plain, cut to what is used). -/
namespace Go.Proofs
open Go.Shelf
def Tryd.lays156_ren : Go.Shelf.Ren := ⟨fun | 156 => 115 | 165 => 122 | 166 => 91 | 169 => 92 | 240 => 108 | 241 => 126 | 276 => 117 | 277 => 128 | n => n, fun | 31 => 62 | 9 => 9 | 3 => 3 | 4 => 4 | 0 => 0 | 20 => 20 | 72 => 128 | 76 => 135 | 70 => 126 | 37 => 66 | 75 => 134 | 127 => 156 | 164 => 165 | 5 => 5 | 80 => 137 | n => n, fun | n => n⟩
theorem Tryd.lays156 : Go.Proofs.Lays.n156 Tryd.prog Tryd.lays156_ren := {
  mixed := by kernel_rfl
  f156 := Tryd.func115.trans (congrArg some (by kernel_rfl))
  f165 := Tryd.func122.trans (congrArg some (by kernel_rfl))
  f166 := Tryd.func91.trans (congrArg some (by kernel_rfl))
  f169 := Tryd.func92.trans (congrArg some (by kernel_rfl))
  f240 := Tryd.func108.trans (congrArg some (by kernel_rfl))
  f241 := Tryd.func126.trans (congrArg some (by kernel_rfl))
  f276 := Tryd.func117.trans (congrArg some (by kernel_rfl))
  f277 := Tryd.func128.trans (congrArg some (by kernel_rfl))
  t0 := Tryd.underlying0
  a0 := Tryd.isAgg0
  z0 := Tryd.sizeOf0
  v0 := Tryd.zeroValue0
  t3 := Tryd.underlying3
  a3 := Tryd.isAgg3
  z3 := Tryd.sizeOf3
  v3 := Tryd.zeroValue3
  t4 := Tryd.underlying4
  a4 := Tryd.isAgg4
  z4 := Tryd.sizeOf4
  v4 := Tryd.zeroValue4
  t9 := Tryd.underlying9
  a9 := Tryd.isAgg9
  z9 := Tryd.sizeOf9
  v9 := Tryd.zeroValue9
  t20 := Tryd.underlying20
  a20 := Tryd.isAgg20
  z20 := Tryd.sizeOf20
  v20 := Tryd.zeroValue20
  t31 := Tryd.underlying62
  a31 := Tryd.isAgg62
  z31 := Tryd.sizeOf62
  v31 := Tryd.zeroValue62
  t37 := Tryd.underlying66
  a37 := Tryd.isAgg66
  z37 := Tryd.sizeOf66
  v37 := Tryd.zeroValue66
  t70 := Tryd.underlying126
  a70 := Tryd.isAgg126
  z70 := Tryd.sizeOf126
  v70 := Tryd.zeroValue126
  t72 := Tryd.underlying128
  a72 := Tryd.isAgg128
  z72 := Tryd.sizeOf128
  v72 := Tryd.zeroValue128
  t75 := Tryd.underlying134
  a75 := Tryd.isAgg134
  z75 := Tryd.sizeOf134
  v75 := Tryd.zeroValue134
  t76 := Tryd.underlying135
  a76 := Tryd.isAgg135
  z76 := Tryd.sizeOf135
  v76 := Tryd.zeroValue135
  t127 := Tryd.underlying156
  a127 := Tryd.isAgg156
  z127 := Tryd.sizeOf156
  v127 := Tryd.zeroValue156
  t164 := Tryd.underlying165
  a164 := Tryd.isAgg165
  z164 := Tryd.sizeOf165
  v164 := Tryd.zeroValue165 }
theorem Tryd.Builder_Extra_156 : Builder.Extra Tryd.prog Tryd.lays156_ren := {
  sizeBuilder := by kernel_rfl
  liesBuilder := by kernel_rfl
  t5 := Tryd.underlying5
  a5 := Tryd.isAgg5
  z5 := Tryd.sizeOf5
  v5 := Tryd.zeroValue5
  infoByte := by kernel_rfl
  cellsByte := by kernel_rfl
  sizeByte := by kernel_rfl
  neB5 := by decide }
open Go.RowKit in
/-- No element: the empty string; the world is as it was. (Whatever the slice's address and capacity: a nil slice too.) (LAID: no walk: one application.) -/
theorem Tryd.strings_Join_none (a : Option Addr) (c : Nat) (sep : ByteArray) (w : World) :
    Calls Tryd.prog 115 #[.slice a 0 c, .string sep] w fun e w' => e = .returned (.string ⟨#[]⟩) ∧ w' = w := Any.strings_Join_none Tryd.lays156 Tryd.Builder_Extra_156 a c sep w
open Go.RowKit in
/-- strings.Join: "Join concatenates the elements of its first argument to create a single string. The separator string sep is placed between elements in the resulting string.": HOWEVER MANY ELEMENTS. Below the heap's end the world is as it was. (LAID: no walk: one application.) -/
theorem Tryd.strings_Join (bk o c : Nat) (xs : List ByteArray) (sep : ByteArray) (w : World) (hcells : ∀ (j : Nat) x, xs[j]? = some x → w.cell? ⟨bk, o + j, none⟩ = some (.string x)) (hbk : bk < w.heap.size) (hN : xs.length ≤ 140737488355328) (hcap : xs.length ≤ c) (hlen : (Lib.join (xs.map (·.data.toList)) sep.data.toList).length ≤ 140737488355328) :
    Calls Tryd.prog 115 #[.slice (some ⟨bk, o, none⟩) xs.length c, .string sep] w fun e w' => e = .returned (.string ⟨(Lib.join (xs.map (·.data.toList)) sep.data.toList).toArray⟩) ∧ Below w.heap.size w w' := Any.strings_Join Tryd.lays156 Tryd.Builder_Extra_156 bk o c xs sep w hcells hbk hN hcap hlen
def Tryd.lays111_ren : Go.Shelf.Ren := ⟨fun | 111 => 74 | n => n, fun | 28 => 33 | 3 => 3 | 4 => 4 | 0 => 0 | n => n, fun | n => n⟩
theorem Tryd.lays111 : Go.Proofs.Lays.n111 Tryd.prog Tryd.lays111_ren := {
  mixed := by kernel_rfl
  f111 := Tryd.func74.trans (congrArg some (by kernel_rfl))
  t0 := Tryd.underlying0
  a0 := Tryd.isAgg0
  z0 := Tryd.sizeOf0
  v0 := Tryd.zeroValue0
  t3 := Tryd.underlying3
  a3 := Tryd.isAgg3
  z3 := Tryd.sizeOf3
  v3 := Tryd.zeroValue3
  t4 := Tryd.underlying4
  a4 := Tryd.isAgg4
  z4 := Tryd.sizeOf4
  v4 := Tryd.zeroValue4
  t28 := Tryd.underlying33
  a28 := Tryd.isAgg33
  z28 := Tryd.sizeOf33
  v28 := Tryd.zeroValue33 }
open Go.RowKit Go.Lib in
/-- slices.Equal at []int: "Equal reports whether two slices are equal: the same length and all elements equal. If the lengths are different, Equal returns false. Otherwise, the elements are compared in increasing index order, and the comparison stops at the first unequal pair. Empty and nil slices are considered equal.": IT RETURNS WHETHER THE TWO LISTS OF ELEMENTS ARE ONE; the world is as it was but for the count of draws (the test 's1[i] != s2[i]' has two reads, whose order the model draws, once a round). 'xs', 'ys': what the cells behind the two addresses hold (the spare capacity too, if you have it); 'xs.take n', 'ys.take m': the elements. THE TWO SLICES MAY OVERLAP. (LAID: no walk: one application.) -/
theorem Tryd.slices_Equal_int (b1 o1 n c b2 o2 m d : Nat) (xs ys : List Int) (w : World) (hx : n ≤ xs.length) (hy : m ≤ ys.length) (hbig : n ≤ 9223372036854775807) (hbig2 : m ≤ 9223372036854775807) (hc1 : ∀ j, j < xs.length → w.cell? ⟨b1, o1 + j, none⟩ = some (.int .i64 (xs.getD j 0))) (hc2 : ∀ j, j < ys.length → w.cell? ⟨b2, o2 + j, none⟩ = some (.int .i64 (ys.getD j 0))) :
    Calls Tryd.prog 74 #[.slice (some ⟨b1, o1, none⟩) n c, .slice (some ⟨b2, o2, none⟩) m d] w fun e w' => e = .returned (.bool (xs.take n == ys.take m)) ∧ ∃ q, w' = w.drewN q := Any.slices_Equal_int Tryd.lays111 b1 o1 n c b2 o2 m d xs ys w hx hy hbig hbig2 hc1 hc2
def Tryd.laysNm215_ren : Go.Shelf.Ren := ⟨fun | 15 => 68 | n => n, fun | 22 => 33 | 3 => 3 | 4 => 4 | n => n, fun | n => n⟩
theorem Tryd.laysNm215 : Go.Proofs.Lays2.n15 Tryd.prog Tryd.laysNm215_ren := {
  mixed := by kernel_rfl
  f15 := Tryd.func68.trans (congrArg some (by kernel_rfl))
  t3 := Tryd.underlying3
  a3 := Tryd.isAgg3
  z3 := Tryd.sizeOf3
  v3 := Tryd.zeroValue3
  t4 := Tryd.underlying4
  a4 := Tryd.isAgg4
  z4 := Tryd.sizeOf4
  v4 := Tryd.zeroValue4
  t22 := Tryd.underlying33
  a22 := Tryd.isAgg33
  z22 := Tryd.sizeOf33
  v22 := Tryd.zeroValue33
  i3 := by kernel_rfl }
open Go.RowKit Go.Lib in
/-- slices.Clone at []int: "Clone returns a copy of the slice. The elements are copied using assignment, so this is a shallow clone. The result may have additional unused capacity. The result preserves the nilness of s.": OF A SLICE THAT IS NOT nil IT RETURNS A SLICE THAT IS NOT nil, OF THE SAME ELEMENTS, IN MEMORY OF THE CALL's OWN: in the how-to's words (6f): 'w'.ownsRow B e 1 v' n cells': v' begins at the head of a row among the blocks from B on (B: the heap's size at the call), not frozen, whose first cells are the elements · 'Below B w w'': below B all is as it was. The capacity is whatever the run-time gives. 'zs': what the cells behind the slice's address hold; 'zs.take n': its elements. (LAID: no walk: one application.) -/
theorem Tryd.slices_Clone_int (b off n c : Nat) (zs : List Int) (w : World) (hz : n ≤ zs.length) (hbig : n * 8 ≤ 140737488355328) (hc : ∀ j, j < zs.length → w.cell? ⟨b, off + j, none⟩ = some (.int .i64 (zs.getD j 0))) :
    Calls Tryd.prog 68 #[.slice (some ⟨b, off, none⟩) n c] w fun e w' => ∃ v', e = .returned v' ∧ w'.ownsRow w.heap.size 3 1 v' n ((zs.take n).map (Value.int .i64)) ∧ v' ≠ .slice none 0 0 ∧ Below w.heap.size w w' := Any.slices_Clone_int Tryd.laysNm215 b off n c zs w hz hbig hc
end Go.Proofs
