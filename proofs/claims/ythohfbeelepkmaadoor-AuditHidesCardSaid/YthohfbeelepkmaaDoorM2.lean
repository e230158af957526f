/- dialtonelaw40.AuditGrows: the ledger with one charge more. -/
import Derived.Test.YthohfbeelepkmaaDoorM1
import Derived.Test.YthohfbeelepkmaaDoorF1
import Derived.Test.YthohfbeelepkmaaDoorH1
import Derived.Laws.OwnMore
namespace Go.Proofs.YthohfbeelepkmaaDoor
open Go.RowKit Go.Shelf

theorem run_append_none_any {P : Program} {w : World} (base : Nat) (t ty e : TypeId) (i : TypeInfo) (size c : Nat) (ht : P.underlying t = some (.slice e)) (hi : P.info? e = some i)
    (v : Value) (n : Nat) (xs : List Value) (hown : w.ownsRow base e size v n xs) : (Builtin.append_ #[t, t] ty #[v, .slice none 0 c]).run P w = .ok v w := by
  rcases hown.2 with ⟨rfl, rfl⟩ | ⟨g, cap, cur, rfl, _, _, hnc, _⟩
  · simp [Builtin.append_, run_underlying ht, sizeOf, typeInfo, hi, Builtin.lenOf, Builtin.firstCells]
  · simp [Builtin.append_, run_underlying ht, sizeOf, typeInfo, hi, Builtin.lenOf, Builtin.firstCells, hnc, storeCells]

theorem flat_len {L : List (List Value)} {k : Nat} (h : ∀ x ∈ L, x.length = k) : L.flatten.length = L.length * k := by
  rw [List.length_flatten]
  have : L.map List.length = List.replicate L.length k := by
    apply List.eq_replicate_iff.2
    exact ⟨by simp, fun x hx => by obtain ⟨y, hy, rfl⟩ := List.mem_map.1 hx; exact h y hy⟩
  rw [this]; simp

/-- A slice appended to a row of the call's own, as an operation. -/
theorem wp_append_sl {P : Program} (w : World) {o : Oper} {a : Act} {K : Act → World → Prop} {Q : Exit → Act → World → Prop} (s x : Operand) (t : TypeId)
    (ho : o.op = .call { callee := .builtin .append, args := #[s, x], argTypes := #[t, t] })
    (base : Nat) (e : TypeId) (i : TypeInfo) (z : Value) (size bytes : Nat) (ht : P.underlying t = some (.slice e)) (hi : P.info? e = some i) (hz : i.zero = some z)
    (hsize : i.size = size) (hby : i.bytes = bytes) (hzs : z.cells.size = size) (hsz : 0 < size)
    (v : Value) (n : Nat) (xs : List Value) (hs : a.eval s = v) (hown : w.ownsRow base e size v n xs) (u : Value) (L : List (List Value)) (hx : a.eval x = u) (hu : Sl w u size L) (h1 : ∀ u ∈ L.flatten, u.oneCell' = true)
    (h63 : n + L.length ≤ maxLen) (hbytes : (n + L.length) * bytes ≤ 140737488355328) (hbase : base ≤ w.heap.size)
    (h : ∀ v' w', w'.ownsRow base e size v' (n + L.length) (xs ++ L.flatten) → w.grownBy w' v.ownBlock → K (a.put o.dst v') w') : o.wp P a w K Q := by
  by_cases hp : 0 < L.length
  · obtain ⟨_, _, A, cap, rfl, _⟩ := id hu
    obtain ⟨b, off, rfl, _, hn⟩ := hu.news hsz hp
    exact wp_append_own w s x t ho base e i z size bytes ht hi hz hsize hby hzs hsz v n xs hs hown ⟨b, off, none⟩ L.length cap L.flatten hx (flat_len hu.1) hn h1 h63 hbytes hbase fun v' w' h2 h3 _ => h v' w' h2 h3
  · obtain rfl : L = [] := by cases L <;> simp_all
    obtain ⟨_, _, A, cap, rfl, _⟩ := id hu
    cases A with
    | none =>
      have hr := run_append_none_any (P := P) (w := w) base t o.type e i size cap ht hi v n xs hown
      unfold Oper.wp execOp
      simp only [ho, resolve, invoke, builtin, Sem.run_bind, Sem.run_pure, Result.andThen_ok, List.map_toArray, List.map_cons, List.map_nil, hs, hx, List.length_nil, hr]
      exact h v w (by simpa using hown) (World.grownBy.refl _ _)
    | some ad =>
      exact wp_append_own w s x t ho base e i z size bytes ht hi hz hsize hby hzs hsz v n xs hs hown ad 0 cap [] hx (by simp) (by simp) (by simp) h63 hbytes hbase fun v' w' h2 h3 _ => h v' w' h2 h3

def growReg : Code → Code
  | .seq _ (.seq _ (.seq _ (.seq _ (.seq _ (.seq r _))))) => r
  | c => c

def GInv (W0 : World) (n gl gc N : Nat) (c0 c1 c2 c3 : Int) (c4 : ByteArray) (key : ByteArray) (pv : Value) (xs : List Value) (p0 p1 p2 p3 p4 p5 p6 p7 p8 p9 p13 p14 p15 p16 p17 p18 p19 p20 p21 p22 p23 p24 p25 p26 p27 p28 p29 p30 p31 p42 p43 p44 p45 p46 p47 p48 p49 p50 p51 p52 p53 p54 p55 p56 p57 p58 p59 p60 p61 p62 p63 p64 p65 p66 p67 p68 p69 p70 p71 p72 p73 p74 p75 p76 p77 p78 p79 p80 p81 p82 p83 p84 p85 p86 p87 p88 p89 p90 p91 p92 p93 p94 p95 p96 p97 p98 p99 p100 p101 p102 p103 p104 p105 p106 p107 p108 p109 p110 p111 p112 p113 p114 p115 p116 p117 p118 p119 p120 p121 p122 p123 p124 p125 p126 p127 p128 p129 p130 p131 p132 p133 p134 p135 p136 p137 p138 p139 p140 p141 p142 p143 p144 p145 p146 p147 p148 p149 p150 p151 p152 p153 p154 p155 p156 p157 p158 p159 p160 p161 p162 p163 p164 p165 p166 p167 p168 p169 p170 p171 p172 p173 : Value) (L : Array Bool) (a : Act) (w : World) : Prop :=
  ∃ v32 v33 v34 v35 v36 v37 v38 v39 v40 v41 v12 : Value, a = { tmps := #[p0, p1, p2, p3, p4, p5, p6, p7, p8, p9, .pointer (some ⟨gl, 0, none⟩), .pointer (some ⟨gc, 0, none⟩), v12, p13, p14, p15, p16, p17, p18, p19, p20, p21, p22, p23, p24, p25, p26, p27, p28, p29, p30, p31, v32, v33, v34, v35, v36, v37, v38, v39, v40, v41, p42, p43, p44, p45, p46, p47, p48, p49, p50, p51, p52, p53, p54, p55, p56, p57, p58, p59, p60, p61, p62, p63, p64, p65, p66, p67, p68, p69, p70, p71, p72, p73, p74, p75, p76, p77, p78, p79, p80, p81, p82, p83, p84, p85, p86, p87, p88, p89, p90, p91, p92, p93, p94, p95, p96, p97, p98, p99, p100, p101, p102, p103, p104, p105, p106, p107, p108, p109, p110, p111, p112, p113, p114, p115, p116, p117, p118, p119, p120, p121, p122, p123, p124, p125, p126, p127, p128, p129, p130, p131, p132, p133, p134, p135, p136, p137, p138, p139, p140, p141, p142, p143, p144, p145, p146, p147, p148, p149, p150, p151, p152, p153, p154, p155, p156, p157, p158, p159, p160, p161, p162, p163, p164, p165, p166, p167, p168, p169, p170, p171, p172, p173], defers := [] } ∧ Below W0.heap.size W0 w ∧
    (L.getD 0 false = true → v32 = .pointer (some ⟨gl, 0, none⟩)) ∧ (L.getD 1 false = true → v33 = .string key) ∧ (L.getD 2 false = true → L.getD 5 false = false → ∃ e, W0.heap.size ≤ e ∧ v34 = .slice (some ⟨e, 0, none⟩) 0 0 ∧ w.heap[e]? = some (.cells #[] 30 (0, 0))) ∧
    (L.getD 3 false = true → v35 = .pointer (some ⟨gl, 1, none⟩)) ∧ (L.getD 4 false = true → v36 = pv) ∧ (L.getD 5 false = true → L.getD 8 false = false → w.ownsRow W0.heap.size 30 5 v37 N xs) ∧
    (L.getD 6 false = true → v38 = .agg #[.int .i64 c0, .int .i64 c1, .int .i64 c2, .int .i64 c3, .string c4]) ∧ (L.getD 7 false = true → L.getD 8 false = false → ∃ h, v39 = .slice (some ⟨h, 0, none⟩) 1 1 ∧ w.heap[h]? = some (.cells #[.int .i64 c0, .int .i64 c1, .int .i64 c2, .int .i64 c3, .string c4] 30 (0, 0))) ∧
    (L.getD 8 false = true → w.ownsRow W0.heap.size 30 5 v40 (N + 1) (xs ++ [.int .i64 c0, .int .i64 c1, .int .i64 c2, .int .i64 c3, .string c4])) ∧ (L.getD 9 false = true → v41 = .agg #[.string key, v40]) ∧
    (L.getD 10 false = true → L.getD 11 false = false → ∃ b, W0.heap.size ≤ b ∧ v12 = .pointer (some ⟨b, 0, none⟩) ∧ w.heap[b]? = some (.cells #[.string ⟨#[]⟩, .slice none 0 0] 26 (0, 0))) ∧
    (L.getD 11 false = true → ∃ b, W0.heap.size ≤ b ∧ v12 = .pointer (some ⟨b, 0, none⟩) ∧ w.heap[b]? = some (.cells #[.string key, v40] 26 (0, 0)))


set_option maxHeartbeats 4000000 in
set_option maxRecDepth 100000 in
theorem grow_region (W : World) (gl gc N : Nat) (l : List Ch) (c0 c1 c2 c3 : Int) (c4 : ByteArray) (key : ByteArray) (pv : Value) (p0 p1 p2 p3 p4 p5 p6 p7 p8 p9 p12 p13 p14 p15 p16 p17 p18 p19 p20 p21 p22 p23 p24 p25 p26 p27 p28 p29 p30 p31 p32 p33 p34 p35 p36 p37 p38 p39 p40 p41 p42 p43 p44 p45 p46 p47 p48 p49 p50 p51 p52 p53 p54 p55 p56 p57 p58 p59 p60 p61 p62 p63 p64 p65 p66 p67 p68 p69 p70 p71 p72 p73 p74 p75 p76 p77 p78 p79 p80 p81 p82 p83 p84 p85 p86 p87 p88 p89 p90 p91 p92 p93 p94 p95 p96 p97 p98 p99 p100 p101 p102 p103 p104 p105 p106 p107 p108 p109 p110 p111 p112 p113 p114 p115 p116 p117 p118 p119 p120 p121 p122 p123 p124 p125 p126 p127 p128 p129 p130 p131 p132 p133 p134 p135 p136 p137 p138 p139 p140 p141 p142 p143 p144 p145 p146 p147 p148 p149 p150 p151 p152 p153 p154 p155 p156 p157 p158 p159 p160 p161 p162 p163 p164 p165 p166 p167 p168 p169 p170 p171 p172 p173 : Value) (Q : Exit → Act → World → Prop)
    (hl : W.heap[gl]? = some (.cells #[.string key, pv] 26 (0, 0))) (hc : W.heap[gc]? = some (.cells #[.int .i64 c0, .int .i64 c1, .int .i64 c2, .int .i64 c3, .string c4] 30 (0, 0))) (hv : Chs W pv l) (hN : l.length = N) (hN2 : N ≤ 1000)
    (hQ : ∀ w' b v' (v32 v33 v34 v35 v36 v37 v38 v39 v40 v41 v12 : Value), v12 = .pointer (some ⟨b, 0, none⟩) → w'.heap[b]? = some (.cells #[.string key, v'] 26 (0, 0)) → W.heap.size ≤ b → Chs w' v' (l ++ [⟨c0, c1, c2, c3, c4⟩]) → Below W.heap.size W w' →
      Q .normal { tmps := #[p0, p1, p2, p3, p4, p5, p6, p7, p8, p9, .pointer (some ⟨gl, 0, none⟩), .pointer (some ⟨gc, 0, none⟩), v12, p13, p14, p15, p16, p17, p18, p19, p20, p21, p22, p23, p24, p25, p26, p27, p28, p29, p30, p31, v32, v33, v34, v35, v36, v37, v38, v39, v40, v41, p42, p43, p44, p45, p46, p47, p48, p49, p50, p51, p52, p53, p54, p55, p56, p57, p58, p59, p60, p61, p62, p63, p64, p65, p66, p67, p68, p69, p70, p71, p72, p73, p74, p75, p76, p77, p78, p79, p80, p81, p82, p83, p84, p85, p86, p87, p88, p89, p90, p91, p92, p93, p94, p95, p96, p97, p98, p99, p100, p101, p102, p103, p104, p105, p106, p107, p108, p109, p110, p111, p112, p113, p114, p115, p116, p117, p118, p119, p120, p121, p122, p123, p124, p125, p126, p127, p128, p129, p130, p131, p132, p133, p134, p135, p136, p137, p138, p139, p140, p141, p142, p143, p144, p145, p146, p147, p148, p149, p150, p151, p152, p153, p154, p155, p156, p157, p158, p159, p160, p161, p162, p163, p164, p165, p166, p167, p168, p169, p170, p171, p172, p173], defers := [] } w') :
    (growReg (Tryd.f9.body.getD .skip)).wp Tryd.prog Q { tmps := #[p0, p1, p2, p3, p4, p5, p6, p7, p8, p9, .pointer (some ⟨gl, 0, none⟩), .pointer (some ⟨gc, 0, none⟩), p12, p13, p14, p15, p16, p17, p18, p19, p20, p21, p22, p23, p24, p25, p26, p27, p28, p29, p30, p31, p32, p33, p34, p35, p36, p37, p38, p39, p40, p41, p42, p43, p44, p45, p46, p47, p48, p49, p50, p51, p52, p53, p54, p55, p56, p57, p58, p59, p60, p61, p62, p63, p64, p65, p66, p67, p68, p69, p70, p71, p72, p73, p74, p75, p76, p77, p78, p79, p80, p81, p82, p83, p84, p85, p86, p87, p88, p89, p90, p91, p92, p93, p94, p95, p96, p97, p98, p99, p100, p101, p102, p103, p104, p105, p106, p107, p108, p109, p110, p111, p112, p113, p114, p115, p116, p117, p118, p119, p120, p121, p122, p123, p124, p125, p126, p127, p128, p129, p130, p131, p132, p133, p134, p135, p136, p137, p138, p139, p140, p141, p142, p143, p144, p145, p146, p147, p148, p149, p150, p151, p152, p153, p154, p155, p156, p157, p158, p159, p160, p161, p162, p163, p164, p165, p166, p167, p168, p169, p170, p171, p172, p173], defers := [] } W := by
  obtain ⟨i0, hi, hz0, hz1, hz2⟩ := info_parts (show (Tryd.prog.info? 30).map (fun i => (i.zero, i.size, i.bytes)) = some (some (.agg #[.int .i64 0, .int .i64 0, .int .i64 0, .int .i64 0, .string ⟨#[]⟩]), 5, 48) by kernel_rfl)
  have I30 := Lib.hid (show (Tryd.prog.info? 30).map (·.size) = some 5 by kernel_rfl)
  have I26 := Lib.hid (show (Tryd.prog.info? 26).map (·.size) = some 2 by kernel_rfl)
  simp only [Tryd.f9, growReg, Option.getD]
  have hgl := (Array.getElem?_eq_some_iff.1 hl).1
  have hgc := (Array.getElem?_eq_some_iff.1 hc).1
  have hpv : ∃ A a b, pv = .slice A a b := by
    obtain ⟨_, _, A, cap, e, _⟩ := id hv; exact ⟨_, _, _, e⟩
  have hlf : (l.map Ch.cells).length = N := by rw [List.length_map, hN]
  have h1c : ∀ u ∈ (l.map Ch.cells).flatten, u.oneCell' = true := by
    intro u hu
    simp only [List.mem_flatten, List.mem_map] at hu
    obtain ⟨x, ⟨c, _, rfl⟩, hx⟩ := hu
    simp only [Ch.cells, List.mem_cons, List.not_mem_nil, or_false] at hx
    rcases hx with rfl | rfl | rfl | rfl | rfl <;> rfl
  refine wp_region_cl (GInv W W.heap.size gl gc N c0 c1 c2 c3 c4 key pv (chCells l) p0 p1 p2 p3 p4 p5 p6 p7 p8 p9 p13 p14 p15 p16 p17 p18 p19 p20 p21 p22 p23 p24 p25 p26 p27 p28 p29 p30 p31 p42 p43 p44 p45 p46 p47 p48 p49 p50 p51 p52 p53 p54 p55 p56 p57 p58 p59 p60 p61 p62 p63 p64 p65 p66 p67 p68 p69 p70 p71 p72 p73 p74 p75 p76 p77 p78 p79 p80 p81 p82 p83 p84 p85 p86 p87 p88 p89 p90 p91 p92 p93 p94 p95 p96 p97 p98 p99 p100 p101 p102 p103 p104 p105 p106 p107 p108 p109 p110 p111 p112 p113 p114 p115 p116 p117 p118 p119 p120 p121 p122 p123 p124 p125 p126 p127 p128 p129 p130 p131 p132 p133 p134 p135 p136 p137 p138 p139 p140 p141 p142 p143 p144 p145 p146 p147 p148 p149 p150 p151 p152 p153 p154 p155 p156 p157 p158 p159 p160 p161 p162 p163 p164 p165 p166 p167 p168 p169 p170 p171 p172 p173) (by kernel_rfl) ⟨_, _, _, _, _, _, _, _, _, _, _, rfl, below_drew (Below.refl _ _), ?_, ?_, ?_, ?_, ?_, ?_, ?_, ?_, ?_, ?_, ?_, ?_⟩ ?_ ?_
  iterate 12 (intro h; exact absurd h (by decide))
  · intro L act w i hs hcl hI hr
    obtain ⟨hi12, hf', hpre⟩ := ready_spec hr
    have hi12 : i < 12 := hi12
    have hfi : L.getD i false = false := by
      have h8 : i < L.size := by rw [hs]; exact hi12
      simp [Array.getD, h8] at hf' ⊢; exact hf'
    obtain ⟨v32, v33, v34, v35, v36, v37, v38, v39, v40, v41, v12, rfl, hB, k0, k1, k2, k3, k4, k5, k6, k7, k8, k9, k10, k11⟩ := hI
    have hsz := hB.size
    have hwl : w.heap[gl]? = some (.cells #[.string key, pv] 26 (0, 0)) := (hB.block _ hgl).trans hl
    have hwc : w.heap[gc]? = some (.cells #[.int .i64 c0, .int .i64 c1, .int .i64 c2, .int .i64 c3, .string c4] 30 (0, 0)) := (hB.block _ hgc).trans hc
    have y0 : w.cell? ⟨gl, 0, none⟩ = some (.string key) := by unfold World.cell?; rw [hwl]; rfl
    have y1 : w.cell? ⟨gl, 1, none⟩ = some pv := by unfold World.cell?; rw [hwl]; rfl
    have T : ∀ {w' : World} (_ : Below w.heap.size w w') {v : Value} {k : Nat} {xs : List Value}, w.ownsRow W.heap.size 30 5 v k xs → w'.ownsRow W.heap.size 30 5 v k xs := fun h _ _ _ ho => ownsRow_keep (ts := [30]) ho (KeepT.of_below h) (by decide)
    have TH7 : ∀ {w' : World} (_ : Below w.heap.size w w') {v : Value}, (∃ h, v = .slice (some ⟨h, 0, none⟩) 1 1 ∧ w.heap[h]? = some (.cells #[.int .i64 c0, .int .i64 c1, .int .i64 c2, .int .i64 c3, .string c4] 30 (0, 0))) → ∃ h, v = .slice (some ⟨h, 0, none⟩) 1 1 ∧ w'.heap[h]? = some (.cells #[.int .i64 c0, .int .i64 c1, .int .i64 c2, .int .i64 c3, .string c4] 30 (0, 0)) :=
      fun h _ ⟨q, e1, e2⟩ => ⟨q, e1, (h.block _ (Array.getElem?_eq_some_iff.1 e2).1).trans e2⟩
    have TH2 : ∀ {w' : World} (_ : Below w.heap.size w w') {v : Value} {cs : Array Value}, (∃ b, W.heap.size ≤ b ∧ v = .pointer (some ⟨b, 0, none⟩) ∧ w.heap[b]? = some (.cells cs 26 (0, 0))) → ∃ b, W.heap.size ≤ b ∧ v = .pointer (some ⟨b, 0, none⟩) ∧ w'.heap[b]? = some (.cells cs 26 (0, 0)) :=
      fun h _ _ ⟨q, e0, e1, e2⟩ => ⟨q, e0, e1, (h.block _ (Array.getElem?_eq_some_iff.1 e2).1).trans e2⟩
    have TH0 : ∀ {w' : World} (_ : Below w.heap.size w w') {v : Value}, (∃ b, W.heap.size ≤ b ∧ v = .slice (some ⟨b, 0, none⟩) 0 0 ∧ w.heap[b]? = some (.cells #[] 30 (0, 0))) → ∃ b, W.heap.size ≤ b ∧ v = .slice (some ⟨b, 0, none⟩) 0 0 ∧ w'.heap[b]? = some (.cells #[] 30 (0, 0)) :=
      fun h _ ⟨q, e0, e1, e2⟩ => ⟨q, e0, e1, (h.block _ (Array.getElem?_eq_some_iff.1 e2).1).trans e2⟩
    rcases (by omega : i = 0 ∨ i = 1 ∨ i = 2 ∨ i = 3 ∨ i = 4 ∨ i = 5 ∨ i = 6 ∨ i = 7 ∨ i = 8 ∨ i = 9 ∨ i = 10 ∨ i = 11) with rfl | rfl | rfl | rfl | rfl | rfl | rfl | rfl | rfl | rfl | rfl | rfl
    · refine wpOp_step rfl (fun K' hK => ?_)
      rw [if_pos (by rfl)]
      go_simp
      exact hK _ _ ⟨_, _, _, _, _, _, _, _, _, _, _, rfl, hB, fun _ => rfl, fun h => k1 (by rw [bit_set hs (by decide)] at h; simpa using h), fun h h' => k2 (by rw [bit_set hs (by decide)] at h; simpa using h) (by rw [bit_set hs (by decide)] at h'; simpa using h'), fun h => k3 (by rw [bit_set hs (by decide)] at h; simpa using h), fun h => k4 (by rw [bit_set hs (by decide)] at h; simpa using h), fun h h' => k5 (by rw [bit_set hs (by decide)] at h; simpa using h) (by rw [bit_set hs (by decide)] at h'; simpa using h'), fun h => k6 (by rw [bit_set hs (by decide)] at h; simpa using h), fun h h' => k7 (by rw [bit_set hs (by decide)] at h; simpa using h) (by rw [bit_set hs (by decide)] at h'; simpa using h'), fun h => k8 (by rw [bit_set hs (by decide)] at h; simpa using h), fun h => k9 (by rw [bit_set hs (by decide)] at h; simpa using h), fun h h' => k10 (by rw [bit_set hs (by decide)] at h; simpa using h) (by rw [bit_set hs (by decide)] at h'; simpa using h'), fun h => k11 (by rw [bit_set hs (by decide)] at h; simpa using h)⟩
    · have e0 := k0 (hpre _ rfl ⟨0, .data⟩ (by simp) rfl)
      subst e0
      refine wpOp_step rfl (fun K' hK => ?_)
      rw [if_pos (by rfl)]
      go_simp
      exact hK _ _ ⟨_, _, _, _, _, _, _, _, _, _, _, rfl, hB, fun h => k0 (by rw [bit_set hs (by decide)] at h; simpa using h), fun _ => rfl, fun h h' => k2 (by rw [bit_set hs (by decide)] at h; simpa using h) (by rw [bit_set hs (by decide)] at h'; simpa using h'), fun h => k3 (by rw [bit_set hs (by decide)] at h; simpa using h), fun h => k4 (by rw [bit_set hs (by decide)] at h; simpa using h), fun h h' => k5 (by rw [bit_set hs (by decide)] at h; simpa using h) (by rw [bit_set hs (by decide)] at h'; simpa using h'), fun h => k6 (by rw [bit_set hs (by decide)] at h; simpa using h), fun h h' => k7 (by rw [bit_set hs (by decide)] at h; simpa using h) (by rw [bit_set hs (by decide)] at h'; simpa using h'), fun h => k8 (by rw [bit_set hs (by decide)] at h; simpa using h), fun h => k9 (by rw [bit_set hs (by decide)] at h; simpa using h), fun h h' => k10 (by rw [bit_set hs (by decide)] at h; simpa using h) (by rw [bit_set hs (by decide)] at h'; simpa using h'), fun h => k11 (by rw [bit_set hs (by decide)] at h; simpa using h)⟩
    · refine wpOp_step rfl (fun K' hK => ?_)
      rw [if_pos (by rfl)]
      go_simp
      exact hK _ _ ⟨_, _, _, _, _, _, _, _, _, _, _, rfl, below_alloc hB _, fun h => k0 (by rw [bit_set hs (by decide)] at h; simpa using h), fun h => k1 (by rw [bit_set hs (by decide)] at h; simpa using h), fun _ _ => ⟨w.heap.size, by omega, rfl, heap_new w _⟩, fun h => k3 (by rw [bit_set hs (by decide)] at h; simpa using h), fun h => k4 (by rw [bit_set hs (by decide)] at h; simpa using h), fun h h' => T (below_one w _) (k5 (by rw [bit_set hs (by decide)] at h; simpa using h) (by rw [bit_set hs (by decide)] at h'; simpa using h')), fun h => k6 (by rw [bit_set hs (by decide)] at h; simpa using h), fun h h' => TH7 (below_one w _) (k7 (by rw [bit_set hs (by decide)] at h; simpa using h) (by rw [bit_set hs (by decide)] at h'; simpa using h')), fun h => T (below_one w _) (k8 (by rw [bit_set hs (by decide)] at h; simpa using h)), fun h => k9 (by rw [bit_set hs (by decide)] at h; simpa using h), fun h h' => TH2 (below_one w _) (k10 (by rw [bit_set hs (by decide)] at h; simpa using h) (by rw [bit_set hs (by decide)] at h'; simpa using h')), fun h => TH2 (below_one w _) (k11 (by rw [bit_set hs (by decide)] at h; simpa using h))⟩
    · refine wpOp_step rfl (fun K' hK => ?_)
      rw [if_pos (by rfl)]
      go_simp
      exact hK _ _ ⟨_, _, _, _, _, _, _, _, _, _, _, rfl, hB, fun h => k0 (by rw [bit_set hs (by decide)] at h; simpa using h), fun h => k1 (by rw [bit_set hs (by decide)] at h; simpa using h), fun h h' => k2 (by rw [bit_set hs (by decide)] at h; simpa using h) (by rw [bit_set hs (by decide)] at h'; simpa using h'), fun _ => rfl, fun h => k4 (by rw [bit_set hs (by decide)] at h; simpa using h), fun h h' => k5 (by rw [bit_set hs (by decide)] at h; simpa using h) (by rw [bit_set hs (by decide)] at h'; simpa using h'), fun h => k6 (by rw [bit_set hs (by decide)] at h; simpa using h), fun h h' => k7 (by rw [bit_set hs (by decide)] at h; simpa using h) (by rw [bit_set hs (by decide)] at h'; simpa using h'), fun h => k8 (by rw [bit_set hs (by decide)] at h; simpa using h), fun h => k9 (by rw [bit_set hs (by decide)] at h; simpa using h), fun h h' => k10 (by rw [bit_set hs (by decide)] at h; simpa using h) (by rw [bit_set hs (by decide)] at h'; simpa using h'), fun h => k11 (by rw [bit_set hs (by decide)] at h; simpa using h)⟩
    · have e3 := k3 (hpre _ rfl ⟨3, .data⟩ (by simp) rfl)
      subst e3
      refine wpOp_step rfl (fun K' hK => ?_)
      rw [if_pos (by rfl)]
      obtain ⟨PA, pa, pb, rfl⟩ := hpv
      go_simp
      exact hK _ _ ⟨_, _, _, _, _, _, _, _, _, _, _, rfl, hB, fun h => k0 (by rw [bit_set hs (by decide)] at h; simpa using h), fun h => k1 (by rw [bit_set hs (by decide)] at h; simpa using h), fun h h' => k2 (by rw [bit_set hs (by decide)] at h; simpa using h) (by rw [bit_set hs (by decide)] at h'; simpa using h'), fun h => k3 (by rw [bit_set hs (by decide)] at h; simpa using h), fun _ => rfl, fun h h' => k5 (by rw [bit_set hs (by decide)] at h; simpa using h) (by rw [bit_set hs (by decide)] at h'; simpa using h'), fun h => k6 (by rw [bit_set hs (by decide)] at h; simpa using h), fun h h' => k7 (by rw [bit_set hs (by decide)] at h; simpa using h) (by rw [bit_set hs (by decide)] at h'; simpa using h'), fun h => k8 (by rw [bit_set hs (by decide)] at h; simpa using h), fun h => k9 (by rw [bit_set hs (by decide)] at h; simpa using h), fun h h' => k10 (by rw [bit_set hs (by decide)] at h; simpa using h) (by rw [bit_set hs (by decide)] at h'; simpa using h'), fun h => k11 (by rw [bit_set hs (by decide)] at h; simpa using h)⟩
    · obtain ⟨eb, he0, rfl, he2⟩ := k2 (hpre _ rfl ⟨2, .data⟩ (by simp) rfl) hfi
      have e4 := k4 (hpre _ rfl ⟨4, .data⟩ (by simp) rfl)
      subst e4
      have hown0 : w.ownsRow W.heap.size 30 5 (.slice (some ⟨eb, 0, none⟩) 0 0) 0 [] := ⟨rfl, .inr ⟨eb, 0, #[], rfl, he0, he2, Nat.le_refl _, by decide, rfl, rfl⟩⟩
      refine wpOp_step rfl (fun K' hK => ?_)
      rw [if_pos (by rfl)]
      refine wp_append_sl w (.tmp 34) (.tmp 36) 24 rfl W.heap.size 30 i0 _ 5 48 (by kernel_rfl) hi hz0 hz1 hz2 rfl (by decide) _ 0 [] rfl hown0 _ (l.map Ch.cells) rfl (Sl.below hv hB) h1c (by rw [hlf]; unfold maxLen; omega) (by rw [hlf]; omega) (by omega) ?_
      intro v' w' hown hgr0
      have hgr : w.grownBy w' (Value.slice (some ⟨eb, 0, none⟩) 0 0).ownBlock := hgr0
      rw [hlf, Nat.zero_add, List.nil_append] at hown
      have hfar : ∀ (q : Nat) (cs : Array Value) (t : TypeId) (f : Nat × Nat), w.heap[q]? = some (Obj.cells cs t f) → 0 < cs.size → w'.heap[q]? = some (Obj.cells cs t f) := by
        intro q cs t f hq hcs
        rw [hgr.block q (Array.getElem?_eq_some_iff.1 hq).1 (fun e => ?_)]; exact hq
        simp only [Value.ownBlock, Option.some.injEq] at e
        subst e
        rw [he2] at hq; cases hq; simp at hcs
      have TH7 : ∀ {v : Value}, (∃ h, v = .slice (some ⟨h, 0, none⟩) 1 1 ∧ w.heap[h]? = some (.cells #[.int .i64 c0, .int .i64 c1, .int .i64 c2, .int .i64 c3, .string c4] 30 (0, 0))) → ∃ h, v = .slice (some ⟨h, 0, none⟩) 1 1 ∧ w'.heap[h]? = some (.cells #[.int .i64 c0, .int .i64 c1, .int .i64 c2, .int .i64 c3, .string c4] 30 (0, 0)) :=
        fun ⟨q, e1, e2⟩ => ⟨q, e1, hfar _ _ _ _ e2 (by simp)⟩
      have TH2 : ∀ {v : Value}, (∃ b, W.heap.size ≤ b ∧ v = .pointer (some ⟨b, 0, none⟩) ∧ w.heap[b]? = some (.cells #[.string ⟨#[]⟩, .slice none 0 0] 26 (0, 0))) → ∃ b, W.heap.size ≤ b ∧ v = .pointer (some ⟨b, 0, none⟩) ∧ w'.heap[b]? = some (.cells #[.string ⟨#[]⟩, .slice none 0 0] 26 (0, 0)) :=
        fun ⟨q, e0, e1, e2⟩ => ⟨q, e0, e1, hfar _ _ _ _ e2 (by simp)⟩
      have n8 : L.getD 8 false = false := by
        cases hh : L.getD 8 false with
        | false => rfl
        | true => have := hcl 8 _ rfl hh ⟨5, .data⟩ (by simp) rfl; rw [hfi] at this; cases this
      have n11 : L.getD 11 false = false := by
        cases hh : L.getD 11 false with
        | false => rfl
        | true => have := hcl 11 _ rfl hh ⟨5, .phase⟩ (by simp) rfl; rw [hfi] at this; cases this
      exact hK _ _ ⟨_, _, _, _, _, _, _, _, _, _, _, rfl, hB.grown hgr hsz (fun y hy => (hown0.lt y hy).1), fun h => k0 (by rw [bit_set hs (by decide)] at h; simpa using h), fun h => k1 (by rw [bit_set hs (by decide)] at h; simpa using h), fun _ h' => absurd h' (by rw [bit_set hs (by decide)]; simp), fun h => k3 (by rw [bit_set hs (by decide)] at h; simpa using h), fun h => k4 (by rw [bit_set hs (by decide)] at h; simpa using h), fun _ _ => hown, fun h => k6 (by rw [bit_set hs (by decide)] at h; simpa using h), fun h h' => TH7 (k7 (by rw [bit_set hs (by decide)] at h; simpa using h) (by rw [bit_set hs (by decide)] at h'; simpa using h')), fun h => absurd h (by rw [bit_set hs (by decide), n8]; decide), fun h => k9 (by rw [bit_set hs (by decide)] at h; simpa using h), fun h h' => TH2 (k10 (by rw [bit_set hs (by decide)] at h; simpa using h) (by rw [bit_set hs (by decide)] at h'; simpa using h')), fun h => absurd h (by rw [bit_set hs (by decide), n11]; decide)⟩
    · refine wpOp_step rfl (fun K' hK => ?_)
      rw [if_pos (by rfl)]
      refine wp_load_mid 30 (.tmp 11) rfl gc 0 rfl [.int .i64 c0, .int .i64 c1, .int .i64 c2, .int .i64 c3, .string c4] _ (fun j v hj => by unfold World.cell?; rw [Nat.zero_add, hwc]; simpa using hj) Tryd.underlying30 rfl I30.out ?_
      exact hK _ _ ⟨_, _, _, _, _, _, _, _, _, _, _, rfl, hB, fun h => k0 (by rw [bit_set hs (by decide)] at h; simpa using h), fun h => k1 (by rw [bit_set hs (by decide)] at h; simpa using h), fun h h' => k2 (by rw [bit_set hs (by decide)] at h; simpa using h) (by rw [bit_set hs (by decide)] at h'; simpa using h'), fun h => k3 (by rw [bit_set hs (by decide)] at h; simpa using h), fun h => k4 (by rw [bit_set hs (by decide)] at h; simpa using h), fun h h' => k5 (by rw [bit_set hs (by decide)] at h; simpa using h) (by rw [bit_set hs (by decide)] at h'; simpa using h'), fun _ => rfl, fun h h' => k7 (by rw [bit_set hs (by decide)] at h; simpa using h) (by rw [bit_set hs (by decide)] at h'; simpa using h'), fun h => k8 (by rw [bit_set hs (by decide)] at h; simpa using h), fun h => k9 (by rw [bit_set hs (by decide)] at h; simpa using h), fun h h' => k10 (by rw [bit_set hs (by decide)] at h; simpa using h) (by rw [bit_set hs (by decide)] at h'; simpa using h'), fun h => k11 (by rw [bit_set hs (by decide)] at h; simpa using h)⟩
    · have e6 := k6 (hpre _ rfl ⟨6, .data⟩ (by simp) rfl)
      subst e6
      refine wpOp_step rfl (fun K' hK => ?_)
      rw [if_pos (by rfl)]
      go_simp
      exact hK _ _ ⟨_, _, _, _, _, _, _, _, _, _, _, rfl, below_alloc hB _, fun h => k0 (by rw [bit_set hs (by decide)] at h; simpa using h), fun h => k1 (by rw [bit_set hs (by decide)] at h; simpa using h), fun h h' => TH0 (below_one w _) (k2 (by rw [bit_set hs (by decide)] at h; simpa using h) (by rw [bit_set hs (by decide)] at h'; simpa using h')), fun h => k3 (by rw [bit_set hs (by decide)] at h; simpa using h), fun h => k4 (by rw [bit_set hs (by decide)] at h; simpa using h), fun h h' => T (below_one w _) (k5 (by rw [bit_set hs (by decide)] at h; simpa using h) (by rw [bit_set hs (by decide)] at h'; simpa using h')), fun h => k6 (by rw [bit_set hs (by decide)] at h; simpa using h), fun _ _ => ⟨w.heap.size, rfl, heap_new w _⟩, fun h => T (below_one w _) (k8 (by rw [bit_set hs (by decide)] at h; simpa using h)), fun h => k9 (by rw [bit_set hs (by decide)] at h; simpa using h), fun h h' => TH2 (below_one w _) (k10 (by rw [bit_set hs (by decide)] at h; simpa using h) (by rw [bit_set hs (by decide)] at h'; simpa using h')), fun h => TH2 (below_one w _) (k11 (by rw [bit_set hs (by decide)] at h; simpa using h))⟩
    · have hown5 := k5 (hpre _ rfl ⟨5, .data⟩ (by simp) rfl) hfi
      obtain ⟨h, rfl, hq⟩ := k7 (hpre _ rfl ⟨7, .data⟩ (by simp) rfl) hfi
      have b7 := hpre _ rfl ⟨7, .data⟩ (by simp) rfl
      have b5 := hpre _ rfl ⟨5, .data⟩ (by simp) rfl
      have n9 : L.getD 9 false = false := by
        cases hh : L.getD 9 false with
        | false => rfl
        | true => have := hcl 9 _ rfl hh ⟨8, .data⟩ (by simp) rfl; rw [hfi] at this; cases this
      have n11 : L.getD 11 false = false := by
        cases hh : L.getD 11 false with
        | false => rfl
        | true => have := hcl 11 _ rfl hh ⟨8, .phase⟩ (by simp) rfl; rw [hfi] at this; cases this
      refine wpOp_step rfl (fun K' hK => ?_)
      rw [if_pos (by rfl)]
      refine wp_append_own w (.tmp 37) (.tmp 39) 24 rfl W.heap.size 30 i0 _ 5 48 (by kernel_rfl) hi hz0 hz1 hz2 rfl (by decide) _ N (chCells l) rfl hown5 ⟨h, 0, none⟩ 1 1 [.int .i64 c0, .int .i64 c1, .int .i64 c2, .int .i64 c3, .string c4] rfl rfl ?hnew (by simp [Value.oneCell']) (by unfold maxLen; omega) (by omega) (by omega) ?_
      case hnew =>
        intro y u hy
        rw [Addr.add_mid, Nat.zero_add]
        unfold World.cell?
        rw [hq]
        simpa using hy
      intro v' w' hown hgr0 _
      have hgr : w.grownBy w' v37.ownBlock := hgr0
      have TH2 : ∀ {v : Value}, (∃ b, W.heap.size ≤ b ∧ v = .pointer (some ⟨b, 0, none⟩) ∧ w.heap[b]? = some (.cells #[.string ⟨#[]⟩, .slice none 0 0] 26 (0, 0))) → ∃ b, W.heap.size ≤ b ∧ v = .pointer (some ⟨b, 0, none⟩) ∧ w'.heap[b]? = some (.cells #[.string ⟨#[]⟩, .slice none 0 0] 26 (0, 0)) := by
        rintro v ⟨q, e0, e1, e2⟩
        refine ⟨q, e0, e1, ?_⟩
        rw [hgr.block q (Array.getElem?_eq_some_iff.1 e2).1 (fun e => ?_)]; exact e2
        rcases hown5.2 with ⟨e', _⟩ | ⟨g, cap, cur, e', _, hg, _⟩
        · rw [e'] at e; simp [Value.ownBlock] at e
        · rw [e'] at e; simp only [Value.ownBlock, Option.some.injEq] at e
          subst e; rw [e2] at hg; cases hg
      exact hK _ _ ⟨_, _, _, _, _, _, _, _, _, _, _, rfl, hB.grown hgr hsz (fun y hy => (hown5.lt y hy).1), fun h => k0 (by rw [bit_set hs (by decide)] at h; simpa using h), fun h => k1 (by rw [bit_set hs (by decide)] at h; simpa using h), fun _ h' => absurd h' (by rw [bit_set hs (by decide), b5]; simp), fun h => k3 (by rw [bit_set hs (by decide)] at h; simpa using h), fun h => k4 (by rw [bit_set hs (by decide)] at h; simpa using h), fun _ h' => absurd h' (by rw [bit_set hs (by decide)]; simp), fun h => k6 (by rw [bit_set hs (by decide)] at h; simpa using h), fun _ h' => absurd h' (by rw [bit_set hs (by decide)]; simp), fun _ => hown, fun h => absurd h (by rw [bit_set hs (by decide), n9]; decide), fun h h' => TH2 (k10 (by rw [bit_set hs (by decide)] at h; simpa using h) (by rw [bit_set hs (by decide)] at h'; simpa using h')), fun h => absurd h (by rw [bit_set hs (by decide), n11]; decide)⟩
    · have e1 := k1 (hpre _ rfl ⟨1, .data⟩ (by simp) rfl)
      have e8 := k8 (hpre _ rfl ⟨8, .data⟩ (by simp) rfl)
      obtain ⟨g9, p9, e9⟩ := e8.form (by omega)
      obtain ⟨rfl, _⟩ := e9
      subst e1
      refine wpOp_step rfl (fun K' hK => ?_)
      rw [if_pos (by rfl)]
      go_simp
      exact hK _ _ ⟨_, _, _, _, _, _, _, _, _, _, _, rfl, hB, fun h => k0 (by rw [bit_set hs (by decide)] at h; simpa using h), fun h => k1 (by rw [bit_set hs (by decide)] at h; simpa using h), fun h h' => k2 (by rw [bit_set hs (by decide)] at h; simpa using h) (by rw [bit_set hs (by decide)] at h'; simpa using h'), fun h => k3 (by rw [bit_set hs (by decide)] at h; simpa using h), fun h => k4 (by rw [bit_set hs (by decide)] at h; simpa using h), fun h h' => k5 (by rw [bit_set hs (by decide)] at h; simpa using h) (by rw [bit_set hs (by decide)] at h'; simpa using h'), fun h => k6 (by rw [bit_set hs (by decide)] at h; simpa using h), fun h h' => k7 (by rw [bit_set hs (by decide)] at h; simpa using h) (by rw [bit_set hs (by decide)] at h'; simpa using h'), fun h => k8 (by rw [bit_set hs (by decide)] at h; simpa using h), fun _ => rfl, fun h h' => k10 (by rw [bit_set hs (by decide)] at h; simpa using h) (by rw [bit_set hs (by decide)] at h'; simpa using h'), fun h => k11 (by rw [bit_set hs (by decide)] at h; simpa using h)⟩
    · have n11 : L.getD 11 false = false := by
        cases hh : L.getD 11 false with
        | false => rfl
        | true => have := hcl 11 _ rfl hh ⟨10, .data⟩ (by simp) rfl; rw [hfi] at this; cases this
      refine wpOp_step rfl (fun K' hK => ?_)
      rw [if_pos (by rfl)]
      go_simp
      exact hK _ _ ⟨_, _, _, _, _, _, _, _, _, _, _, rfl, below_alloc hB _, fun h => k0 (by rw [bit_set hs (by decide)] at h; simpa using h), fun h => k1 (by rw [bit_set hs (by decide)] at h; simpa using h), fun h h' => TH0 (below_one w _) (k2 (by rw [bit_set hs (by decide)] at h; simpa using h) (by rw [bit_set hs (by decide)] at h'; simpa using h')), fun h => k3 (by rw [bit_set hs (by decide)] at h; simpa using h), fun h => k4 (by rw [bit_set hs (by decide)] at h; simpa using h), fun h h' => T (below_one w _) (k5 (by rw [bit_set hs (by decide)] at h; simpa using h) (by rw [bit_set hs (by decide)] at h'; simpa using h')), fun h => k6 (by rw [bit_set hs (by decide)] at h; simpa using h), fun h h' => TH7 (below_one w _) (k7 (by rw [bit_set hs (by decide)] at h; simpa using h) (by rw [bit_set hs (by decide)] at h'; simpa using h')), fun h => T (below_one w _) (k8 (by rw [bit_set hs (by decide)] at h; simpa using h)), fun h => k9 (by rw [bit_set hs (by decide)] at h; simpa using h), fun _ _ => ⟨w.heap.size, by omega, rfl, heap_new w _⟩, fun h => absurd h (by rw [bit_set hs (by decide), n11]; decide)⟩
    · have e9 := k9 (hpre _ rfl ⟨9, .data⟩ (by simp) rfl)
      obtain ⟨b, hb0, rfl, hb2⟩ := k10 (hpre _ rfl ⟨10, .data⟩ (by simp) rfl) hfi
      have b10 := hpre _ rfl ⟨10, .data⟩ (by simp) rfl
      have b8 := hcl 9 _ rfl (hpre _ rfl ⟨9, .data⟩ (by simp) rfl) ⟨8, .data⟩ (by simp) rfl
      have b5 := hcl 8 _ rfl b8 ⟨5, .data⟩ (by simp) rfl
      have hown8 := k8 b8
      obtain ⟨g9, p9, q9, _⟩ := hown8.form (by omega)
      subst q9
      subst e9
      refine wpOp_step rfl (fun K' hK => ?_)
      rw [if_pos (by rfl)]
      refine wp_store_row' 26 (.tmp 12) (.tmp 41) rfl b rfl 26 _ #[.string key, .slice (some ⟨g9, 0, none⟩) (N + 1) p9] rfl hb2 I26.out rfl (by simp [Value.oneCell']) ?_
      have hne : b ≠ g9 := by
        rintro rfl
        rcases hown8.2 with ⟨e', _⟩ | ⟨g, cap, cur, e', _, hg, _⟩
        · cases e'
        · cases e'; rw [hb2] at hg; cases hg
      exact hK _ _ ⟨_, _, _, _, _, _, _, _, _, _, _, rfl, below_setRow hB hb0 _, fun h => k0 (by rw [bit_set hs (by decide)] at h; simpa using h), fun h => k1 (by rw [bit_set hs (by decide)] at h; simpa using h), fun _ h' => absurd h' (by rw [bit_set hs (by decide), b5]; simp), fun h => k3 (by rw [bit_set hs (by decide)] at h; simpa using h), fun h => k4 (by rw [bit_set hs (by decide)] at h; simpa using h), fun _ h' => absurd h' (by rw [bit_set hs (by decide), b8]; simp), fun h => k6 (by rw [bit_set hs (by decide)] at h; simpa using h), fun _ h' => absurd h' (by rw [bit_set hs (by decide), b8]; simp), fun _ => ownsRow_move hown8 (fun k c hk => setRow_other _ _ _ _ (by rintro rfl; rw [hb2] at hk; cases hk)), fun h => k9 (by rw [bit_set hs (by decide)] at h; simpa using h), fun _ h' => absurd h' (by rw [bit_set hs (by decide)]; simp), fun _ => ⟨b, hb0, rfl, setRow_heap w b _ _ 26 (0, 0) hb2⟩⟩

  · intro L act w hs hI hr
    obtain ⟨v32, v33, v34, v35, v36, v37, v38, v39, v40, v41, v12, rfl, hB, k0, k1, k2, k3, k4, k5, k6, k7, k8, k9, k10, k11⟩ := hI
    have hall := all_run hs hr (backs_spec (by kernel_rfl))
    obtain ⟨b, h1, h2, h3⟩ := k11 (hall 11 (by decide))
    have ho := k8 (hall 8 (by decide))
    have hcs : Chs w v40 (l ++ [⟨c0, c1, c2, c3, c4⟩]) := by
      refine ownsRow_chs (n := W.heap.size) ?_ (by simp; omega)
      have : chCells (l ++ [⟨c0, c1, c2, c3, c4⟩]) = chCells l ++ [.int .i64 c0, .int .i64 c1, .int .i64 c2, .int .i64 c3, .string c4] := by simp [chCells, Ch.cells]
      rw [this, List.length_append, hN]
      exact ho
    exact hQ w b v40 _ _ _ _ _ _ _ _ _ _ _ h2 h3 h1 hcs hB

end Go.Proofs.YthohfbeelepkmaaDoor
