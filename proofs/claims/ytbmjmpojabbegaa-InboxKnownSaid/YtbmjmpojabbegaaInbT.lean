/- works. -/
import Derived.Test.YtbmjmpojabbegaaInbS
namespace Go.Proofs.Ytbmjmpojabbegaa
open Go.RowKit
set_option maxRecDepth 100000 in
set_option maxHeartbeats 8000000 in
theorem works_any (w : World) : Calls Try.prog 8 #[] w fun e w' => e = .returned (.bool true) ∧ Below w.heap.size w w' := by
  have e1 : splitL [(0, 9), (1, 8), (3, 7)] 4 = [[(0, 9)], [], [(1, 8)], [(3, 7)]] := by decide
  have e2 : mergeL 2 [1, 2] [[(1, 5)], [(3, 0), (1, 4)]] = [(true, 4), (false, 0)] := by decide
  have e3 : foldL 3 [(3, 7), (1, 4), (3, 5)] = [(1, 4), (3, 5)] := by decide
  have e4 : foldL 1 [(3, 7), (1, 4), (3, 5)] = [(1, 4), (3, 12)] := by decide
  have r0 := Rs.lit msgC_len w [(3, 7), (1, 4), (3, 5)] #[.int .i64 3, .int .i64 7, .int .i64 1, .int .i64 4, .int .i64 3, .int .i64 5] 29 rfl w.heap.size rfl
  have b0 := (Below.refl w.heap.size w).alloc (Nat.le_refl _) (.cells #[.int .i64 3, .int .i64 7, .int .i64 1, .int .i64 4, .int .i64 3, .int .i64 5] 29)
  obtain ⟨w1, hw1⟩ : ∃ w1, w1 = w.alloc (.cells #[.int .i64 3, .int .i64 7, .int .i64 1, .int .i64 4, .int .i64 3, .int .i64 5] 29) := ⟨_, rfl⟩
  rw [← hw1] at r0 b0
  have z1 : w1.heap.size = w.heap.size + 1 := by rw [hw1]; simp
  have r1 := Rs.lit msgC_len w1 [(0, 9), (1, 8), (3, 7)] #[.int .i64 0, .int .i64 9, .int .i64 1, .int .i64 8, .int .i64 3, .int .i64 7] 29 rfl (w.heap.size + 1) z1
  have b1 := b0.alloc b0.size (.cells #[.int .i64 0, .int .i64 9, .int .i64 1, .int .i64 8, .int .i64 3, .int .i64 7] 29)
  have hc := c_split _ _ 3 4 _ r1 (by decide) (by decide) (by decide)
  rw [e1, hw1] at hc
  have r0' := r0.alloc (.cells #[.int .i64 0, .int .i64 9, .int .i64 1, .int .i64 8, .int .i64 3, .int .i64 7] 29)
  rw [hw1] at r0' b1
  have HC := Lib.hid hc; have R0 := Lib.hid r0'; have B1 := Lib.hid b1; have E2 := Lib.hid e2; have E3 := Lib.hid e3; have E4 := Lib.hid e4
  clear hc e1 e2 e3 e4 r0 r0' r1 b0 b1 z1
  clear hw1 w1
  go_enter Try.func8, Try.ntmps8
  go_wp2_with fail
  refine HC.out.mono ?_
  clear HC
  rintro e w2 ⟨g2, rfl, hr2, hb2⟩
  obtain ⟨_, _, l0, A0, c0, hA, hg2, hl0, hc0, hr20, k0⟩ := hr2.at_ (i := 0) (by decide)
  injection hA with hA; injection hA with h1 h2 _; subst h1 h2
  obtain ⟨_, _, l1, A1, c1, hA, _, hl1, hc1, hr21, k1⟩ := hr2.at_ (i := 1) (by decide)
  injection hA with hA; injection hA with h1 h2 _; subst h1 h2
  obtain ⟨_, _, l2, A2, c2, hA, _, hl2, hc2, hr22, k2⟩ := hr2.at_ (i := 2) (by decide)
  injection hA with hA; injection hA with h1 h2 _; subst h1 h2
  obtain ⟨_, _, l3, A3, c3, hA, _, hl3, hc3, hr23, k3⟩ := hr2.at_ (i := 3) (by decide)
  injection hA with hA; injection hA with h1 h2 _; subst h1 h2
  simp only [List.getElem?_cons_zero, List.getElem?_cons_succ, Option.some.injEq] at hl0 hl1 hl2 hl3
  subst hl0 hl1 hl2 hl3
  have q0 := R0.out.below hb2
  have b2 := B1.out.trans (hb2.mono B1.out.size)
  obtain ⟨w3, hw3⟩ : ∃ w3, w3 = w2.alloc (.cells #[.int .i64 1, .int .i64 2] 3) := ⟨_, rfl⟩
  have i3 := Rs.lit intC_len w2 [1, 2] #[.int .i64 1, .int .i64 2] 3 rfl w2.heap.size rfl
  rw [← hw3] at i3
  have z3 : w3.heap.size = w2.heap.size + 1 := by rw [hw3]; simp
  have r3 := Rs.lit msgC_len w3 [(1, 5)] #[.int .i64 1, .int .i64 5] 29 rfl (w2.heap.size + 1) z3
  obtain ⟨w4, hw4⟩ : ∃ w4, w4 = w3.alloc (.cells #[.int .i64 1, .int .i64 5] 29) := ⟨_, rfl⟩
  rw [← hw4] at r3
  have z4 : w4.heap.size = w2.heap.size + 2 := by rw [hw4]; simp; omega
  have r4 := Rs.lit msgC_len w4 [(3, 0), (1, 4)] #[.int .i64 3, .int .i64 0, .int .i64 1, .int .i64 4] 29 rfl (w2.heap.size + 2) z4
  obtain ⟨w5, hw5⟩ : ∃ w5, w5 = w4.alloc (.cells #[.int .i64 3, .int .i64 0, .int .i64 1, .int .i64 4] 29) := ⟨_, rfl⟩
  have r3' := r3.alloc (.cells #[.int .i64 3, .int .i64 0, .int .i64 1, .int .i64 4] 29)
  rw [← hw5] at r4 r3'
  have z5 : w5.heap.size = w2.heap.size + 3 := by rw [hw5]; simp; omega
  have r5 := RsRs.two (t2 := 24) (c1 := 1) (c2 := 2) r3' r4 (by decide) (by decide) (w2.heap.size + 3) z5
  have i5 := ((i3.alloc (.cells #[.int .i64 1, .int .i64 5] 29)).alloc (.cells #[.int .i64 3, .int .i64 0, .int .i64 1, .int .i64 4] 29)).alloc (.cells #[.slice (some ⟨w2.heap.size + 1, 0, none⟩) 1 1, .slice (some ⟨w2.heap.size + 2, 0, none⟩) 2 2] 24)
  rw [← hw4, ← hw5] at i5
  have hc := c_merge _ 2 0 0 0 0 _ _ 2 2 _ _ i5 r5 (by decide) (by decide) (by decide) (by decide) (by decide)
  rw [E2.out, hw5, hw4, hw3] at hc
  have b5 := (((b2.alloc b2.size (.cells #[.int .i64 1, .int .i64 2] 3)).alloc (by have := b2.size; simp; omega) (.cells #[.int .i64 1, .int .i64 5] 29)).alloc (by have := b2.size; simp; omega) (.cells #[.int .i64 3, .int .i64 0, .int .i64 1, .int .i64 4] 29)).alloc (by have := b2.size; simp; omega) (.cells #[.slice (some ⟨w2.heap.size + 1, 0, none⟩) 1 1, .slice (some ⟨w2.heap.size + 2, 0, none⟩) 2 2] 24)
  have n5 : Below w2.heap.size w2 ((((w2.alloc (.cells #[.int .i64 1, .int .i64 2] 3)).alloc (.cells #[.int .i64 1, .int .i64 5] 29)).alloc (.cells #[.int .i64 3, .int .i64 0, .int .i64 1, .int .i64 4] 29)).alloc (.cells #[.slice (some ⟨w2.heap.size + 1, 0, none⟩) 1 1, .slice (some ⟨w2.heap.size + 2, 0, none⟩) 2 2] 24)) :=
    ((((Below.refl _ _).alloc (Nat.le_refl _) _).alloc (by simp) _).alloc (by simp; omega) _).alloc (by simp; omega) _
  have HC := Lib.hid hc; have B5 := Lib.hid b5; have N5 := Lib.hid n5; have Q0 := Lib.hid q0
  have K := Lib.hid (And.intro k0 (And.intro k1 (And.intro k2 k3)))
  clear hc b5 n5 q0 k0 k1 k2 k3 i5 r5 z5 r3' hw5 r4 z4 hw4 r3 z3 i3 hw3 b2 hb2 hr2 hr20 hr21 hr22 hr23 hc0 hc1 hc2 hc3 B1 E2 R0
  clear w5 w4 w3
  go_wp2_with fail
  refine HC.out.mono ?_
  clear HC
  rintro e w6 ⟨g6, rfl, hm6, hb6⟩
  obtain ⟨_, _, m0, hA, hg6, hm0, x0, y0⟩ := mail_at hm6 (i := 0) (by decide)
  injection hA with hA; injection hA with h1 h2 _; subst h1 h2
  obtain ⟨_, _, m1, hA, _, hm1, x1, _⟩ := mail_at hm6 (i := 1) (by decide)
  injection hA with hA; injection hA with h1 h2 _; subst h1 h2
  simp only [List.getElem?_cons_zero, List.getElem?_cons_succ, Option.some.injEq] at hm0 hm1
  subst hm0 hm1
  have n6 := N5.out.trans (hb6.mono N5.out.size)
  have b6 := B5.out.trans (hb6.mono B5.out.size)
  have q6 := Q0.out.below n6
  have hc := c_fold w6 3 0 0 0 0 _ 3 _ q6 (by decide) (by decide)
  rw [E3.out] at hc
  have HC := Lib.hid hc; have B6 := Lib.hid b6; have N6 := Lib.hid n6; have Q6 := Lib.hid q6; have G := Lib.hid (And.intro hg2 hg6)
  have X := Lib.hid (And.intro x0 (And.intro y0 x1))
  clear hc b6 n6 q6 hb6 hm6 x0 y0 x1 B5 N5 Q0 E3 hg2 hg6
  go_wp2_with fail
  refine HC.out.mono ?_
  clear HC
  rintro e w7 ⟨A7, c7, rfl, hr7, _, hb7⟩
  have i7 := Rs.lit msgC_len w7 [(1, 4), (3, 5)] #[.int .i64 1, .int .i64 4, .int .i64 3, .int .i64 5] 29 rfl w7.heap.size rfl
  have hc := sameMessages_any (w7.alloc (.cells #[.int .i64 1, .int .i64 4, .int .i64 3, .int .i64 5] 29)) _ _ c7 2 _ _ (hr7.alloc _) i7 (by decide)
  rw [decide_eq_true rfl] at hc
  have b7 := hb7.alloc hb7.size (.cells #[.int .i64 1, .int .i64 4, .int .i64 3, .int .i64 5] 29)
  have HC := Lib.hid hc; have B7 := Lib.hid b7
  clear hc b7 hb7 hr7 i7
  go_wp2_with fail
  refine HC.out.mono ?_
  clear HC
  rintro e w' ⟨rfl, q8, rfl⟩
  obtain ⟨w8, hw8⟩ : ∃ w8, w8 = (w7.alloc (.cells #[.int .i64 1, .int .i64 4, .int .i64 3, .int .i64 5] 29)).drewN q8 := ⟨_, rfl⟩
  have b8 : Below w6.heap.size w6 w8 := by rw [hw8]; exact ⟨B7.out.os, B7.out.tape, B7.out.output, B7.out.size, B7.out.block⟩
  rw [← hw8]
  have q8 := Q6.out.below b8
  have hc := c_fold w8 1 0 0 0 0 _ 3 _ q8 (by decide) (by decide)
  rw [E4.out] at hc
  have HC := Lib.hid hc; have B8 := Lib.hid b8
  clear hc b8 q8 B7 Q6 E4 hw8
  go_wp2_with fail
  refine HC.out.mono ?_
  clear HC
  rintro e w9 ⟨A9, c9, rfl, hr9, _, hb9⟩
  have i9 := Rs.lit msgC_len w9 [(1, 4), (3, 12)] #[.int .i64 1, .int .i64 4, .int .i64 3, .int .i64 12] 29 rfl w9.heap.size rfl
  have hc := sameMessages_any (w9.alloc (.cells #[.int .i64 1, .int .i64 4, .int .i64 3, .int .i64 12] 29)) _ _ c9 2 _ _ (hr9.alloc _) i9 (by decide)
  rw [decide_eq_true rfl] at hc
  have b9 := B8.out.trans ((hb9.mono B8.out.size).alloc (Nat.le_trans B8.out.size hb9.size) (.cells #[.int .i64 1, .int .i64 4, .int .i64 3, .int .i64 12] 29))
  have HC := Lib.hid hc; have B9 := Lib.hid b9
  clear hc b9 hb9 hr9 i9 B8
  go_wp2_with fail
  refine HC.out.mono ?_
  clear HC
  rintro e w' ⟨rfl, q10, rfl⟩
  obtain ⟨w10, hw10⟩ : ∃ w10, w10 = (w9.alloc (.cells #[.int .i64 1, .int .i64 4, .int .i64 3, .int .i64 12] 29)).drewN q10 := ⟨_, rfl⟩
  have b10 : Below w6.heap.size w6 w10 := by rw [hw10]; exact ⟨B9.out.os, B9.out.tape, B9.out.output, B9.out.size, B9.out.block⟩
  rw [← hw10]
  clear hw10 B9
  obtain ⟨k0, k1, k2, k3⟩ := K.out
  obtain ⟨x0, y0, x1⟩ := X.out
  obtain ⟨hg2, hg6⟩ := G.out
  have n10 := N6.out.trans (b10.mono N6.out.size)
  replace k0 := (n10.cell (p := ⟨g2, 0, none⟩) hg2).trans k0
  replace k1 := (n10.cell (p := ⟨g2, 1, none⟩) hg2).trans k1
  replace k2 := (n10.cell (p := ⟨g2, 2, none⟩) hg2).trans k2
  replace k3 := (n10.cell (p := ⟨g2, 3, none⟩) hg2).trans k3
  replace x0 := (b10.cell (p := ⟨g6, 0, none⟩) hg6).trans x0
  replace y0 := (b10.cell (p := ⟨g6, 1, none⟩) hg6).trans y0
  replace x1 := (b10.cell (p := ⟨g6, 2, none⟩) hg6).trans x1
  have B10 := Lib.hid (B6.out.trans (b10.mono B6.out.size))
  clear n10 b10 K X G B6 N6 hg2 hg6
  go_wp2
  go_ret
  exact ⟨rfl, B10.out⟩
end Go.Proofs.Ytbmjmpojabbegaa
