/- slices' exchange of two ranges, and its rotation, over a row of places. -/
import Derived.Test.YtggegefeagkhkaaDoorRpO
namespace Go.Proofs.YtggegefeagkhkaaDoor
open Go.RowKit

theorem grown_trans_ {a b c : World} {g : Nat} (h : a.grownBy b (some g)) (k : b.grownBy c (some g)) : a.grownBy c (some g) :=
  ⟨k.os.trans h.os, k.tape.trans h.tape, k.output.trans h.output, Nat.le_trans h.size k.size, fun i hi hne => (k.block i (Nat.lt_of_lt_of_le hi h.size) hne).trans (h.block i hi hne)⟩
theorem set_mid3 {α : Type} (p m r : List α) (u z x : α) : (p ++ u :: (m ++ z :: r)).set (p.length + 1 + m.length) x = p ++ u :: (m ++ x :: r) := by
  have h := set_mid (p ++ u :: m) z x r
  have e : (p ++ u :: m).length = p.length + 1 + m.length := by simp; omega
  rw [e] at h
  rw [List.append_assoc, List.append_assoc] at h
  exact h
theorem at_mid3 {α : Type} (p m r : List α) (u z : α) : (p ++ u :: (m ++ z :: r))[p.length + 1 + m.length]? = some z := by
  have h := at_mid (p ++ u :: m) z r
  have e : (p ++ u :: m).length = p.length + 1 + m.length := by simp; omega
  rw [e] at h
  rw [List.append_assoc] at h
  exact h
/-- two places' contents are exchanged -/
theorem Srt.swap2 {w wr : World} {vs : List Int} {A : Option Addr} {c g gb : Nat} {p m r : List Nat} {x y : Nat} (h : Srt wr vs A c g gb (p ++ x :: (m ++ y :: r))) (hg : w.grownBy wr (some g)) (i j : Nat) (hi : p.length = i) (hj : p.length + 1 + m.length = j) :
    Srt ((wr.setCell ⟨g, i, none⟩ (.int .i64 (y : Int))).setCell ⟨g, j, none⟩ (.int .i64 (x : Int))) vs A c g gb (p ++ y :: (m ++ x :: r)) ∧ w.grownBy ((wr.setCell ⟨g, i, none⟩ (.int .i64 (y : Int))).setCell ⟨g, j, none⟩ (.int .i64 (x : Int))) (some g) := by
  subst hi hj
  have hgr : wr.grownBy ((wr.setCell ⟨g, p.length, none⟩ (.int .i64 (y : Int))).setCell ⟨g, p.length + 1 + m.length, none⟩ (.int .i64 (x : Int))) (some g) := only_cell (only_cell (World.grownBy.refl wr _) _ _) _ _
  refine ⟨h.step hgr ?_ ?_, only_cell (only_cell hg _ _) _ _⟩
  · have h1 := (h.row.set_ p.length (.int .i64 (y : Int))).set_ (p.length + 1 + m.length) (.int .i64 (x : Int))
    rw [cellsN_set, cellsN_set] at h1
    have e1 : ((p ++ x :: (m ++ y :: r)).set p.length y).set (p.length + 1 + m.length) x = p ++ y :: (m ++ x :: r) := by
      rw [set_mid, set_mid3]
    rw [e1] at h1
    exact h1
  · intro i hi
    refine h.lt i ?_
    simp only [List.mem_append, List.mem_cons] at hi ⊢
    rcases hi with hi | hi | hi | hi | hi <;> simp [hi]
set_option maxRecDepth 100000 in
set_option maxHeartbeats 8000000 in
theorem swapR_any (w : World) (vs : List Int) (A : Option Addr) (c g gb N : Nat) (P X M Y Q : List Nat) (f : Value) (a b n : Nat) (h : Srt w vs A c g gb (P ++ (X ++ (M ++ (Y ++ Q))))) (hX : X.length = n) (hY : Y.length = n) (ha : P.length = a) (hb : P.length + X.length + M.length = b) (hN : (P ++ (X ++ (M ++ (Y ++ Q)))).length = N) (hl : N ≤ 1000000) :
    Calls Tryd.prog 88 #[.slice (some ⟨g, 0, none⟩) N N, .int .i64 (a : Int), .int .i64 (b : Int), .int .i64 (n : Int), f] w fun e w' => e = .returned (.tuple #[]) ∧ Srt w' vs A c g gb (P ++ (Y ++ (M ++ (X ++ Q)))) ∧ w.grownBy w' (some g) := by
  have hNs : a + n + M.length + n + Q.length = N := by rw [← hN]; simp only [List.length_append]; omega
  have hbe : b = a + n + M.length := by omega
  have HS0 : Hid (Srt w vs A c g gb (P ++ ([] ++ X ++ (M ++ ([] ++ Y ++ Q))))) := Lib.hid (by simpa using h)
  have HX := Lib.hid hX; have HY := Lib.hid hY; have HA := Lib.hid ha; have HNS := Lib.hid hNs; have HBE := Lib.hid hbe
  have hbN : b + n ≤ N := by omega
  have haN : a + n ≤ N := by omega
  clear h hX hY ha hb hN hNs hbe
  go_enter Tryd.func88, Tryd.ntmps88
  go_wp2
  go_loopg [10] n (fun gf v10 wr => ∃ (i : Nat) (X1 X2 Y1 Y2 : List Nat), v10 = .int .i64 i ∧ i + gf = n ∧ X = X1 ++ X2 ∧ Y = Y1 ++ Y2 ∧ X1.length = i ∧ Y1.length = i ∧ Srt wr vs A c g gb (P ++ (Y1 ++ X2 ++ (M ++ (X1 ++ Y2 ++ Q)))) ∧ w.grownBy wr (some g))
  case atStart => exact ⟨0, [], X, [], Y, rfl, by omega, rfl, rfl, rfl, rfl, HS0.out, World.grownBy.refl w _⟩
  case round =>
    clear HS0
    obtain ⟨i, X1, X2, Y1, Y2, rfl, hi, hx, hy, h1, h2, hst, hgr⟩ := hrel
    have hx2 : X2.length = gk := by have := HX.out; rw [hx, List.length_append] at this; omega
    have hy2 : Y2.length = gk := by have := HY.out; rw [hy, List.length_append] at this; omega
    cases gk with
    | zero =>
      obtain rfl : i = n := by omega
      have e1 : X2 = [] := List.eq_nil_of_length_eq_zero hx2
      have e2 : Y2 = [] := List.eq_nil_of_length_eq_zero hy2
      subst e1 e2
      have HF := Lib.hid (show Srt wr vs A c g gb (P ++ (Y ++ (M ++ (X ++ Q)))) ∧ w.grownBy wr (some g) from ⟨by rw [hx, hy]; simpa using hst, hgr⟩)
      clear hx hy h1 h2 hst hgr hx2 hy2
      go_wp2
      go_end0
      exact ⟨rfl, HF.out⟩
    | succ gf =>
      obtain ⟨x, X3, rfl⟩ : ∃ x X3, X2 = x :: X3 := by
        cases X2 with
        | nil => simp at hx2
        | cons x X3 => exact ⟨x, X3, rfl⟩
      obtain ⟨y, Y3, rfl⟩ : ∃ y Y3, Y2 = y :: Y3 := by
        cases Y2 with
        | nil => simp at hy2
        | cons y Y3 => exact ⟨y, Y3, rfl⟩
      have hst2 : Srt wr vs A c g gb ((P ++ Y1) ++ x :: ((X3 ++ M ++ X1) ++ y :: (Y3 ++ Q))) := by simpa using hst
      have hp1 : (P ++ Y1).length = a + i := by rw [List.length_append, HA.out, h2]
      have hp2 : (P ++ Y1).length + 1 + (X3 ++ M ++ X1).length = b + i := by
        have h9 := HBE.out
        have h8 : X3.length = gf := by simpa using hx2
        rw [hp1]
        simp only [List.length_append]
        omega
      have hcx : wr.cell? ⟨g, a + i, none⟩ = some (.int .i64 (x : Int)) := by
        rw [hst2.row.cell, ← hp1]; exact cellsN_at (at_mid _ _ _)
      have hcy : wr.cell? ⟨g, b + i, none⟩ = some (.int .i64 (y : Int)) := by
        rw [hst2.row.cell, ← hp2]
        exact cellsN_at (at_mid3 _ _ _ _ _)
      have hf1 := hst2.row.frozen (a + i); have hf2 := hst2.row.frozen (b + i)
      have hiI : (i : Int) < (n : Int) := by omega
      have haI : (a : Int) + (i : Int) < (N : Int) := by omega
      have hbI : (b : Int) + (i : Int) < (N : Int) := by omega
      have hwa : IntKind.i64.wrap ((a : Int) + (i : Int)) = (a : Int) + (i : Int) := IntWalk.i64_in _ (by omega)
      have hwb : IntKind.i64.wrap ((b : Int) + (i : Int)) = (b : Int) + (i : Int) := IntWalk.i64_in _ (by omega)
      have hta : ((a : Int) + (i : Int)).toNat = a + i := by omega
      have htb : ((b : Int) + (i : Int)).toNat = b + i := by omega
      have h0a : (0 : Int) ≤ (a : Int) + (i : Int) := by omega
      have h0b : (0 : Int) ≤ (b : Int) + (i : Int) := by omega
      have hne : a + i ≠ b + i := by have := HBE.out; omega
      have hsw := hst2.swap2 hgr (a + i) (b + i) hp1 hp2
      have HSW := Lib.hid (And.intro hsw.1.drew (only_drew hsw.2))
      have HXX := Lib.hid hx; have HYY := Lib.hid hy; have H1 := Lib.hid h1; have H2 := Lib.hid h2
      clear hst hst2 hgr hp1 hp2 hx hy h1 h2 hx2 hy2 hsw
      go_wp2_with fail
      go_region
      go_wp2
      go_roundg gf
      case measure => omega
      case rel =>
        obtain ⟨f1, f2⟩ := HSW.out
        exact ⟨i + 1, X1 ++ [x], X3, Y1 ++ [y], Y3, by go_num, by omega, by rw [HXX.out]; simp, by rw [HYY.out]; simp, by rw [List.length_append, H1.out]; rfl, by rw [List.length_append, H2.out]; rfl, by simpa using f1, f2⟩
end Go.Proofs.YtggegefeagkhkaaDoor
