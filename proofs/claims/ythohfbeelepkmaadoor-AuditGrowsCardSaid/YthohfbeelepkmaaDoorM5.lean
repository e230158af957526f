/- dialtonelaw40.AuditGrows: its last tests. -/
import Derived.Test.YthohfbeelepkmaaDoorM3
namespace Go.Proofs.YthohfbeelepkmaaDoor
open Go.RowKit Go.Shelf

def growTail : Code → Code
  | .seq _ (.seq _ (.seq _ (.seq _ (.seq _ (.seq _ (.seq _ (.seq _ (.seq _ (.seq _ (.seq _ (.seq _ (.seq _ (.seq _ (.seq (.seq _ (.cond _ (.seq r _) _)) _)))))))))))))) => r
  | c => c

set_option maxHeartbeats 8000000 in
set_option maxRecDepth 100000 in
theorem grow_tail (w W : World) (b11 b20 b22 m : Nat) (c0 c1 c2 c3 : Int) (c4 : ByteArray) (U V : List Ch) (A8 A9 : Option Addr) (a8 a9 : Nat) (p0 p1 p2 p3 p4 p5 p6 p7 p8 p9 p10 p12 p13 p14 p15 p16 p17 p18 p21 p23 p24 p25 p26 p27 p28 p29 p30 p31 p32 p33 p34 p35 p36 p37 p38 p39 p40 p41 p42 p43 p44 p45 p46 p47 p48 p49 p50 p51 p52 p53 p54 p55 p56 p57 p58 p59 p60 p61 p62 p63 p64 p65 p66 p67 p68 p69 p70 p71 p72 p73 p74 p75 p76 p77 p78 p79 p80 p81 p82 p83 p84 p85 p86 p87 p88 p89 p90 p91 p92 p93 p94 p95 p96 p97 p98 p99 p100 p101 p102 p103 p104 p105 p106 p107 p108 p109 p110 p111 p112 p113 p114 p115 p116 p117 p118 p119 p120 p121 p122 p123 p124 p125 p126 p127 p128 p129 p130 p131 p132 p133 p134 p135 p136 p137 p138 p139 p140 p141 p142 p143 p144 p145 p146 p147 p148 p149 p150 p151 p152 p153 p154 p155 p156 p157 p158 p159 p160 p161 p162 p163 p164 p165 p166 p167 p168 p169 p170 p171 p172 p173 : Value) (Q : Exit → Act → World → Prop)
    (h11 : b11 < W.heap.size) (f0 : W.cell? ⟨b11, 0, none⟩ = some (.int .i64 c0)) (f1 : W.cell? ⟨b11, 1, none⟩ = some (.int .i64 c1)) (f2 : W.cell? ⟨b11, 2, none⟩ = some (.int .i64 c2)) (f3 : W.cell? ⟨b11, 3, none⟩ = some (.int .i64 c3)) (f4 : W.cell? ⟨b11, 4, none⟩ = some (.string c4))
    (h20 : b20 < W.heap.size) (k0 : W.cell? ⟨b20, 1, none⟩ = some (.slice A8 U.length a8)) (h22 : b22 < W.heap.size) (k1 : W.cell? ⟨b22, 1, none⟩ = some (.slice A9 V.length a9))
    (hU : Chs W (.slice A8 U.length a8) U) (hV : Chs W (.slice A9 V.length a9) V) (hmc : (m : Int) = c0) (hv : V = U ++ [⟨c0, c1, c2, c3, c4⟩]) (hl : V.length ≤ 1000) (hB : Below w.heap.size w W)
    (hR : ∀ W' a, Below w.heap.size w W' → a.tmps.getD 8 undef = .bool true → a.defers = [] → Q .normal a W') :
    (growTail (Tryd.f9.body.getD .skip)).wp Tryd.prog Q { tmps := #[p0, p1, p2, p3, p4, p5, p6, p7, p8, p9, p10, .pointer (some ⟨b11, 0, none⟩), p12, p13, p14, p15, p16, p17, p18, .int .i64 m, .pointer (some ⟨b20, 0, none⟩), p21, .pointer (some ⟨b22, 0, none⟩), p23, p24, p25, p26, p27, p28, p29, p30, p31, p32, p33, p34, p35, p36, p37, p38, p39, p40, p41, p42, p43, p44, p45, p46, p47, p48, p49, p50, p51, p52, p53, p54, p55, p56, p57, p58, p59, p60, p61, p62, p63, p64, p65, p66, p67, p68, p69, p70, p71, p72, p73, p74, p75, p76, p77, p78, p79, p80, p81, p82, p83, p84, p85, p86, p87, p88, p89, p90, p91, p92, p93, p94, p95, p96, p97, p98, p99, p100, p101, p102, p103, p104, p105, p106, p107, p108, p109, p110, p111, p112, p113, p114, p115, p116, p117, p118, p119, p120, p121, p122, p123, p124, p125, p126, p127, p128, p129, p130, p131, p132, p133, p134, p135, p136, p137, p138, p139, p140, p141, p142, p143, p144, p145, p146, p147, p148, p149, p150, p151, p152, p153, p154, p155, p156, p157, p158, p159, p160, p161, p162, p163, p164, p165, p166, p167, p168, p169, p170, p171, p172, p173], defers := [] } W := by
  simp only [Tryd.f9, growTail, Option.getD]
  have HR := Lib.hid hR
  have HB := Lib.hid hB
  clear hR hB
  have hlv : V.length = U.length + 1 := by rw [hv]; simp
  have hS := SameCharges_calls (.slice A9 U.length a9) (.slice A8 U.length a8) U U
  have hS0 := fun W' (h : Below W.heap.size W W') => hS W' (by have := Chs.take (show Chs W' (.slice A9 V.length a9) V from hV.below h) U.length (by omega); rw [hv, List.take_left] at this; exact this) (hU.below h)
  rw [(sameL_iff U U).2 rfl] at hS0
  obtain ⟨_, A, cap, e, hcap, hat⟩ := hV.open_
  simp only [Value.slice.injEq] at e
  obtain ⟨rfl, _, rfl⟩ := e
  obtain ⟨b9, o9, rfl, hb9, d0, d1, d2, d3, d4⟩ := hat U.length (by omega)
  have hVk : V[U.length]'(by omega) = ⟨c0, c1, c2, c3, c4⟩ := by
    have : V[U.length]? = some ⟨c0, c1, c2, c3, c4⟩ := by rw [hv]; simp
    rw [List.getElem?_eq_getElem (by omega)] at this
    exact Option.some.inj this
  rw [hVk] at d0 d1 d2 d3 d4
  dsimp only at d0 d1 d2 d3 d4
  have hEQ := eq30 ⟨c0, c1, c2, c3, c4⟩ ⟨c0, c1, c2, c3, c4⟩
  rw [(sameCh_iff _ _).2 rfl] at hEQ
  dsimp only [Ch.val, Ch.cells] at hEQ
  have hGD : Tryd.prog.eqGuardType Tryd.prog.depth 30 = false := by kernel_rfl
  rw [hlv] at k1
  have hcap' : U.length ≤ a9 := by omega
  have hlU : U.length ≤ 1000 := by omega
  have HC9 := Lib.hid hcap
  have HS0 := Lib.hid hS0
  have HK := Lib.hid (show ∀ W' : World, Below W.heap.size W W' → W'.cell? ⟨b11, 0, none⟩ = some (.int .i64 c0) ∧ W'.cell? ⟨b11, 1, none⟩ = some (.int .i64 c1) ∧ W'.cell? ⟨b11, 2, none⟩ = some (.int .i64 c2) ∧ W'.cell? ⟨b11, 3, none⟩ = some (.int .i64 c3) ∧ W'.cell? ⟨b11, 4, none⟩ = some (.string c4) ∧ W'.cell? ⟨b20, 1, none⟩ = some (.slice A8 U.length a8) ∧ W'.cell? ⟨b22, 1, none⟩ = some (.slice (some ⟨b9, o9, none⟩) (U.length + 1) a9) ∧
      W'.cell? ⟨b9, o9 + U.length * 5, none⟩ = some (.int .i64 c0) ∧ W'.cell? ⟨b9, o9 + U.length * 5 + 1, none⟩ = some (.int .i64 c1) ∧ W'.cell? ⟨b9, o9 + U.length * 5 + 2, none⟩ = some (.int .i64 c2) ∧ W'.cell? ⟨b9, o9 + U.length * 5 + 3, none⟩ = some (.int .i64 c3) ∧ W'.cell? ⟨b9, o9 + U.length * 5 + 4, none⟩ = some (.string c4) from fun W' h =>
    ⟨(h.cell (p := ⟨b11, _, none⟩) h11).trans f0, (h.cell (p := ⟨b11, _, none⟩) h11).trans f1, (h.cell (p := ⟨b11, _, none⟩) h11).trans f2, (h.cell (p := ⟨b11, _, none⟩) h11).trans f3, (h.cell (p := ⟨b11, _, none⟩) h11).trans f4, (h.cell (p := ⟨b20, _, none⟩) h20).trans k0, (h.cell (p := ⟨b22, _, none⟩) h22).trans k1,
      (h.cell (p := ⟨b9, _, none⟩) hb9).trans d0, (h.cell (p := ⟨b9, _, none⟩) hb9).trans d1, (h.cell (p := ⟨b9, _, none⟩) hb9).trans d2, (h.cell (p := ⟨b9, _, none⟩) hb9).trans d3, (h.cell (p := ⟨b9, _, none⟩) hb9).trans d4⟩)
  have HV := Lib.hid hv
  clear hU hV hv hat hVk hS hS0 hl hlv h11 h20 h22 hb9
  generalize U.length = N at *
  have hN1 : (N : Int) < (N : Int) + 1 := by omega
  have hN2 : N < N + 1 := by omega
  have hN3 : IntKind.i64.wrap ((N : Int) + 1) = (N : Int) + 1 := wrapI64 _ (by omega)
  have hN4 : N ≤ N + 1 := by omega
  subst hmc
  clear hcap
  go_wp2_with fail
  go_region_held3 (fun w' => w'.cell? ⟨b11, 0, none⟩ = some (.int .i64 (m : Int)) ∧ w'.cell? ⟨b11, 1, none⟩ = some (.int .i64 c1) ∧ w'.cell? ⟨b11, 2, none⟩ = some (.int .i64 c2) ∧ w'.cell? ⟨b11, 3, none⟩ = some (.int .i64 c3) ∧ w'.cell? ⟨b11, 4, none⟩ = some (.string c4) ∧ w'.cell? ⟨b20, 1, none⟩ = some (.slice A8 N a8) ∧ w'.cell? ⟨b22, 1, none⟩ = some (.slice (some ⟨b9, o9, none⟩) (N + 1) a9) ∧
      w'.cell? ⟨b9, o9 + N * 5, none⟩ = some (.int .i64 (m : Int)) ∧ w'.cell? ⟨b9, o9 + N * 5 + 1, none⟩ = some (.int .i64 c1) ∧ w'.cell? ⟨b9, o9 + N * 5 + 2, none⟩ = some (.int .i64 c2) ∧ w'.cell? ⟨b9, o9 + N * 5 + 3, none⟩ = some (.int .i64 c3) ∧ w'.cell? ⟨b9, o9 + N * 5 + 4, none⟩ = some (.string c4))
    (first | (exact HK.out _ hq) | (exact HK.out _ (below_drew (Below.refl _ _))) | go_keep)
    (first
      | (go_at_call 32; ((with_reducible refine (HS0.out _ (below_drew (Below.refl _ _))).mono ?_)); rintro e w1 ⟨rfl, hq0⟩; have hq := below_then (below_drew (Below.refl _ _)) hq0))
  exact HR.out _ _ (below_then HB.out hq) rfl rfl

end Go.Proofs.YthohfbeelepkmaaDoor
