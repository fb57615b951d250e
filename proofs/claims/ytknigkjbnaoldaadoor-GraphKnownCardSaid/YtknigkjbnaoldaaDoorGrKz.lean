/- The limits' examples of GraphKnown. Parts for the walk of GraphKnown: bytes of a text with one byte turned, the rows that it ranges over. The walk of GraphKnown. -/
import Derived.Test.YtknigkjbnaoldaaDoorGrLw
import Derived.Laws.IdiomStrings
import Derived.Deep.Cut
namespace Go.Proofs.YtknigkjbnaoldaaDoor
open Go.RowKit

theorem infoU8 : (Tryd.prog.info? 5).map (fun i => (i.zero, i.size, i.bytes)) = some (some (.int .u8 0), 1, 1) := by kernel_rfl
theorem zeros_conv (n : Nat) (hn : n ≤ 1000000000) : ∃ (Z : Array Value) (U : ByteArray), U.size = n ∧ (∀ W : World, (Instr.makeSlice 44 (.int .i64 (n : Int)) (.int .i64 (n : Int))).run Tryd.prog W = .ok (.slice (some ⟨W.heap.size, 0, none⟩) n n) (W.alloc (.cells Z 5))) ∧
    ∀ W : World, (convert 44 9 (.slice (some ⟨W.heap.size, 0, none⟩) n n)).run Tryd.prog (W.alloc (.cells Z 5)) = .ok (.string U) (W.alloc (.cells Z 5)) := by
  obtain ⟨i0, hi0, hz0, hz1, hz2, -⟩ := parts infoU8
  refine ⟨(List.replicate n (.int .u8 0)).toArray, ⟨(List.replicate n 0).toArray⟩, by simp [ByteArray.size], fun W => ?_, fun W => ?_⟩
  · exact run_make_one (P := Tryd.prog) 44 5 i0 (.int .u8 0) Tryd.underlying44 hi0 hz0 rfl hz1 n (by rw [hz2]; omega) (by omega) W
  · have h := run_convert_bytes_back (P := Tryd.prog) (W.alloc (.cells (List.replicate n (.int .u8 0)).toArray 5)) 44 9 5 ⟨W.heap.size, 0, none⟩ n (List.replicate n 0) Tryd.underlying44 Tryd.underlying5 Tryd.underlying9 (fun j hj => by
      rw [addr_add, (Blk.new W 5 (List.replicate n (.int .u8 0)).toArray).cell (0 + j)]
      rw [List.length_replicate] at hj
      simp [hj])
    rw [List.length_replicate] at h
    exact h
/-- a state of the limits' loop -/
structure LmS (w wr : World) (A : Option Addr) (c k : Nat) (L : List Edg) : Prop where
  below : Below w.heap.size w wr
  box : Blk wr w.heap.size 25 #[.int .i64 512, .slice A k c]
  row : wr.ownsRow w.heap.size 35 3 (.slice A k c) k (rcs edgC L)
  cap : k ≤ c
  len : L.length = k
theorem print_k (w : World) (n : Int) (A : Option Addr) (c k : Nat) (l : List Edg) (t : ByteArray) (hl : l.length = k) (h : Rs edgC 3 w A l) (hF : Firsts w) (hk : checkL (n, l) = 0) (ht : printG (n, l) = t) :
    Calls Tryd.prog 21 #[.agg #[.int .i64 n, .slice A k c]] w fun R w' => R = .returned (.tuple #[.string t, .int .i64 0]) ∧ Below w.heap.size w w' := by
  subst hl; exact print_good w n A c l t h hF hk ht
theorem parse_k (w : World) (n : Int) (l : List Edg) (k : Nat) (t : ByteArray) (hl : l.length = k) (hF : Firsts w) (hk : checkL (n, l) = 0) (ht : printG (n, l) = t) (hs : t.size ≤ 262144) :
    Calls Tryd.prog 10 #[.string t] w fun R w' => ∃ A c, R = .returned (.tuple #[.agg #[.int .i64 n, .slice A k c], .int .i64 0, .int .i64 0]) ∧ Rs edgC 3 w' A l ∧ Below w.heap.size w w' := by
  subst hl; exact parse_good w n l t hF hk ht hs
theorem parse_bad (w : World) (s : ByteArray) (k : Nat) (K : Int) (hK : (k : Int) = K) (hs : s.size ≤ 262144) (hF : Firsts w) (h : docG s = ((0, []), k, 41)) :
    Calls Tryd.prog 10 #[.string s] w fun R w' => ∃ A c, R = .returned (.tuple #[.agg #[.int .i64 0, .slice A 0 c], .int .i64 K, .int .i64 41]) ∧ Below w.heap.size w w' := by
  subst hK
  refine (parse_at s 0 [] k 41 w hs hF h).mono ?_
  rintro R w' ⟨A, c, hR, _, hb⟩
  exact ⟨A, c, hR, hb⟩
theorem check_k (w : World) (n : Int) (A : Option Addr) (c k : Nat) (l : List Edg) (e0 : Int) (hl : l.length = k) (h : Rs edgC 3 w A l) (he : checkL (n, l) = e0) : Calls Tryd.prog 19 #[.agg #[.int .i64 n, .slice A k c]] w fun e w' => e = .returned (.int .i64 e0) ∧ Below w.heap.size w w' := by
  subst hl; subst he; exact check_any w n A c l h
theorem psame_k (w : World) (n : Int) (A B : Option Addr) (c d k : Nat) (xs : List Edg) (hl : xs.length = k) (ha : Rs edgC 3 w A xs) (hb : Rs edgC 3 w B xs) (hn : k ≤ 1000000000) :
    Calls Tryd.prog 20 #[.agg #[.int .i64 n, .slice A k c], .agg #[.int .i64 n, .slice B k d]] w fun e w' => e = .returned (.bool true) ∧ Below w.heap.size w w' := by
  subst hl; exact psame_true w n A B c d xs ha hb hn
/-- the two graphs of the limits -/
structure LmF (w wr : World) (b1 : Nat) (A : Option Addr) (c : Nat) (L F : List Edg) : Prop where
  below : Below w.heap.size w wr
  box0 : Blk wr w.heap.size 25 #[.int .i64 512, .slice A 8193 c]
  box1 : Blk wr b1 25 #[.int .i64 512, .slice A 8192 c]
  rl : Rs edgC 3 wr A L
  rf : Rs edgC 3 wr A F
theorem LmF.step {w wr w' : World} {b1 c : Nat} {A : Option Addr} {L F : List Edg} (h : LmF w wr b1 A c L F) (hb : Below wr.heap.size wr w') : LmF w w' b1 A c L F :=
  ⟨h.below.trans (hb.mono h.below.size), h.box0.below hb h.box0.lt, h.box1.below hb h.box1.lt, h.rl.below hb, h.rf.below hb⟩
theorem LmF.alloc {w wr : World} {b1 c : Nat} {A : Option Addr} {L F : List Edg} (h : LmF w wr b1 A c L F) (o : Obj) : LmF w (wr.alloc o) b1 A c L F := h.step ((Below.refl _ _).alloc (Nat.le_refl _) o)
theorem LmF.cells {w wr : World} {b1 c : Nat} {A : Option Addr} {L F : List Edg} (h : LmF w wr b1 A c L F) : wr.cell? ⟨w.heap.size, 0, none⟩ = some (.int .i64 512) ∧ wr.cell? ⟨w.heap.size, 1, none⟩ = some (.slice A 8193 c) ∧ wr.cell? ⟨b1, 0, none⟩ = some (.int .i64 512) ∧ wr.cell? ⟨b1, 1, none⟩ = some (.slice A 8192 c) :=
  ⟨h.box0.cell 0, h.box0.cell 1, h.box1.cell 0, h.box1.cell 1⟩
set_option maxRecDepth 100000 in
set_option maxHeartbeats 4000000 in
theorem limits_any (w : World) (hF : Firsts w) : Calls Tryd.prog 27 #[] w fun e w' => e = .returned (.bool true) ∧ Below w.heap.size w w' := by
  have hz := firsts_lt hF
  obtain ⟨i0, hi0, hz0, hz1, hz2, -⟩ := parts infoE
  have hS : LmS w (w.alloc (.cells #[.int .i64 512, .slice none 0 0] 25)) none 0 0 (fullL 0) := ⟨(Below.refl _ _).alloc (Nat.le_refl _) _, Blk.new w _ _, World.ownsRow_nil _ _ _ _, Nat.le_refl _, rfl⟩
  have HS := Lib.hid hS; have HI0 := Lib.hid hi0; have HZ0 := Lib.hid hz0; have HF := Lib.hid hF
  clear hS hi0 hz0 hF
  go_enter Tryd.func27, Tryd.ntmps27
  go_wp2
  go_loopg [3] 8193 (fun gf vi wr => ∃ (i : Nat) (A : Option Addr) (c : Nat), vi = .int .i64 i ∧ i + gf = 8193 ∧ LmS w wr A c i (fullL i))
  case atStart => exact ⟨0, none, 0, rfl, by omega, HS.out⟩
  case round =>
    clear HS
    obtain ⟨i, A, c, rfl, hi, hst⟩ := hrel
    cases gk with
    | zero =>
      obtain rfl : i = 8193 := by omega
      obtain ⟨L, hL⟩ : ∃ L, fullL 8193 = L := ⟨_, rfl⟩
      obtain ⟨F, hFF⟩ : ∃ F, fullL 8192 = F := ⟨_, rfl⟩
      have hLl : L.length = 8193 := by rw [← hL]; exact fullL_len _
      have hFl : F.length = 8192 := by rw [← hFF]; exact fullL_len _
      have hLo : checkL (512, L) = 3 := by rw [← hL]; exact full_over (by omega)
      have hFg : checkL (512, F) = 0 := by rw [← hFF]; exact full_good (Nat.le_refl _)
      have hTz : (printG (512, F)).size ≤ 140000 := by rw [← hFF]; exact full_size (Nat.le_refl _)
      have hTm : docG (printG (512, F) ++ ⟨#[101, 100, 103, 101, 32, 53, 49, 49, 32, 48, 10]⟩) = ((0, []), 8194, 41) := by rw [← hFF]; exact full_more rfl
      have htk : L.take 8192 = F := by rw [← hL, ← hFF]; exact fullL_take (by omega)
      rw [hL] at hst
      obtain ⟨T, hT⟩ : ∃ T, printG (512, F) = T := ⟨_, rfl⟩
      rw [hT] at hTz hTm
      obtain ⟨g, cap', hv, _⟩ := hst.row.form (by omega)
      have hA : A = some ⟨g, 0, none⟩ := by injection hv
      subst hA
      have hrl : Rs edgC 3 wr (some ⟨g, 0, none⟩) L := by
        have h := hst.row
        rw [← hLl] at h
        exact Rs.of_own h
      have hrf := Rs.take edgC_len hrl 8192
      rw [htk] at hrf
      have hcap := hst.cap
      have hSF : LmF w (wr.alloc (.cells #[.int .i64 512, .slice (some ⟨g, 0, none⟩) 8192 c] 25)) wr.heap.size (some ⟨g, 0, none⟩) c L F :=
        ⟨hst.below.alloc hst.below.size _, hst.box.alloc _, Blk.new wr _ _, hrl.alloc _, hrf.alloc _⟩
      obtain ⟨Z, U, hU, hmk, hcv⟩ := zeros_conv 262145 (by decide)
      have hmk2 : ∀ W : World, (Instr.makeSlice 44 (.int .i64 262145) (.int .i64 262145)).run Tryd.prog W = .ok (.slice (some ⟨W.heap.size, 0, none⟩) 262145 262145) (W.alloc (.cells Z 5)) := hmk
      have g1 := hst.box.cell 1
      simp only [List.getElem?_toArray, List.getElem?_cons_zero, List.getElem?_cons_succ] at g1
      have hc8 : 8192 ≤ c := by omega
      have hc8I : (8192 : Int) ≤ (c : Int) := by omega
      have HSF := Lib.hid hSF; have HT := Lib.hid hT; have HTM := Lib.hid hTm; have HFG := Lib.hid hFg; have HLO := Lib.hid hLo; have HFL := Lib.hid hFl; have HLL := Lib.hid hLl
      clear hst hL hFF hLl hFl hLo hFg hTm htk hrl hrf hSF hv hmk hT hi
      go_wp2_with fail
      refine (print_k _ _ _ _ _ F T HFL.out HSF.out.rf (firsts_below HF.out HSF.out.below hz) HFG.out HT.out).mono ?_
      clear g1
      rintro e z1 ⟨rfl, hb1⟩
      have HS1 := Lib.hid (HSF.out.step hb1)
      clear hb1 HSF
      go_wp2_with fail
      refine (parse_k _ 512 F 8192 T HFL.out (firsts_below HF.out HS1.out.below hz) HFG.out HT.out (by omega)).mono ?_
      rintro e z2 ⟨A2, c2, rfl, hr2, hb2⟩
      have HS2 := Lib.hid ((HS1.out.step hb2).alloc (.cells #[.int .i64 512, .slice A2 8192 c2] 25))
      have HK2 := Lib.hid (Blk.new z2 25 #[.int .i64 512, .slice A2 8192 c2]); have HR2 := Lib.hid (hr2.alloc (.cells #[.int .i64 512, .slice A2 8192 c2] 25))
      clear hb2 hr2 HS1
      go_wp2_with fail
      refine (parse_bad _ _ 8194 8194 rfl (by rw [ByteArray.size_append]; have : (⟨#[101, 100, 103, 101, 32, 53, 49, 49, 32, 48, 10]⟩ : ByteArray).size = 11 := rfl; omega) (firsts_below HF.out HS2.out.below hz) HTM.out).mono ?_
      rintro e z3 ⟨A3, c3, rfl, hb3⟩
      have HS3 := Lib.hid ((HS2.out.step hb3).alloc (.cells #[.int .i64 0, .slice A3 0 c3] 25))
      have HK3 := Lib.hid ((HK2.out.below hb3 HK2.out.lt).alloc (.cells #[.int .i64 0, .slice A3 0 c3] 25)); have HR3 := Lib.hid ((HR2.out.below hb3).alloc (.cells #[.int .i64 0, .slice A3 0 c3] 25))
      clear hb3 HS2 HK2 HR2
      have hcv2 : (convert 44 9 (.slice (some ⟨z3.heap.size + 1, 0, none⟩) 262145 262145)).run Tryd.prog ((z3.alloc (.cells #[.int .i64 0, .slice A3 0 c3] 25)).alloc (.cells Z 5)) = .ok (.string U) ((z3.alloc (.cells #[.int .i64 0, .slice A3 0 c3] 25)).alloc (.cells Z 5)) := by
        have h := hcv (z3.alloc (.cells #[.int .i64 0, .slice A3 0 c3] 25))
        rwa [show (z3.alloc (.cells #[.int .i64 0, .slice A3 0 c3] 25)).heap.size = z3.heap.size + 1 by simp] at h
      clear hcv
      go_wp2_with fail
      refine (parse_limit U _ (by rw [hU]; decide)).mono ?_
      rintro e z4 ⟨rfl, hb4⟩
      have HS4 := Lib.hid (((HS3.out.alloc (.cells Z 5)).step hb4).alloc (.cells #[.int .i64 0, .slice none 0 0] 25))
      have hk4 := (HK3.out.alloc (.cells Z 5))
      have HK4 := Lib.hid ((hk4.below hb4 hk4.lt).alloc (.cells #[.int .i64 0, .slice none 0 0] 25)); have HR4 := Lib.hid (((HR3.out.alloc (.cells Z 5)).below hb4).alloc (.cells #[.int .i64 0, .slice none 0 0] 25))
      clear hb4 HS3 HK3 HR3 hk4 hcv2 hmk2
      obtain ⟨g0, g1, g2, g3⟩ := HS4.out.cells
      have g4 := HK4.out.cell 0; have g5 := HK4.out.cell 1
      simp only [List.getElem?_toArray, List.getElem?_cons_zero, List.getElem?_cons_succ] at g4 g5
      go_wp2_with fail
      refine (check_k _ 512 _ _ 8193 L 3 HLL.out HS4.out.rl HLO.out).mono ?_
      clear g0 g1 g2 g3 g4 g5
      rintro e z5 ⟨rfl, hb5⟩
      have HS5 := Lib.hid (HS4.out.step hb5); have HK5 := Lib.hid (HK4.out.below hb5 HK4.out.lt); have HR5 := Lib.hid (HR4.out.below hb5)
      clear hb5 HS4 HK4 HR4
      obtain ⟨g0, g1, g2, g3⟩ := HS5.out.cells
      have g4 := HK5.out.cell 0; have g5 := HK5.out.cell 1
      simp only [List.getElem?_toArray, List.getElem?_cons_zero, List.getElem?_cons_succ] at g4 g5
      go_wp2_with fail
      refine (check_k _ 512 _ _ 8192 F 0 HFL.out HS5.out.rf HFG.out).mono ?_
      clear g0 g1 g2 g3 g4 g5
      rintro e z6 ⟨rfl, hb6⟩
      have HS6 := Lib.hid (HS5.out.step hb6); have HK6 := Lib.hid (HK5.out.below hb6 HK5.out.lt); have HR6 := Lib.hid (HR5.out.below hb6)
      clear hb6 HS5 HK5 HR5
      obtain ⟨g0, g1, g2, g3⟩ := HS6.out.cells
      have g4 := HK6.out.cell 0; have g5 := HK6.out.cell 1
      simp only [List.getElem?_toArray, List.getElem?_cons_zero, List.getElem?_cons_succ] at g4 g5
      go_wp2_with fail
      refine (psame_k _ 512 A2 (some ⟨g, 0, none⟩) c2 c 8192 F HFL.out HR6.out HS6.out.rf (by omega)).mono ?_
      clear g0 g1 g2 g3 g4 g5
      rintro e z7 ⟨rfl, hb7⟩
      have HS7 := Lib.hid (HS6.out.step hb7); have HK7 := Lib.hid (HK6.out.below hb7 HK6.out.lt); have HR7 := Lib.hid (HR6.out.below hb7)
      clear hb7 HS6 HK6 HR6
      obtain ⟨g0, g1, g2, g3⟩ := HS7.out.cells
      have g4 := HK7.out.cell 0; have g5 := HK7.out.cell 1
      simp only [List.getElem?_toArray, List.getElem?_cons_zero, List.getElem?_cons_succ] at g4 g5
      go_wp2_with fail
      refine (check_k _ 513 none 0 0 [] 3 rfl (Rs.nil' _) rfl).mono ?_
      clear g0 g1 g2 g3 g4 g5
      rintro e z8 ⟨rfl, hb8⟩
      have HS8 := Lib.hid (HS7.out.step hb8); have HK8 := Lib.hid (HK7.out.below hb8 HK7.out.lt); have HR8 := Lib.hid (HR7.out.below hb8)
      clear hb8 HS7 HK7 HR7
      obtain ⟨g0, g1, g2, g3⟩ := HS8.out.cells
      have g4 := HK8.out.cell 0; have g5 := HK8.out.cell 1
      simp only [List.getElem?_toArray, List.getElem?_cons_zero, List.getElem?_cons_succ] at g4 g5
      go_wp2_with fail
      refine (lawCheck_any _ 0 none 0 [] (Rs.nil' _) (firsts_below HF.out HS8.out.below hz)).mono ?_
      clear g0 g1 g2 g3 g4 g5
      rintro e z9 ⟨rfl, hb9⟩
      have HS9 := Lib.hid (HS8.out.step hb9); have HK9 := Lib.hid (HK8.out.below hb9 HK8.out.lt); have HR9 := Lib.hid (HR8.out.below hb9)
      clear hb9 HS8 HK8 HR8
      obtain ⟨g0, g1, g2, g3⟩ := HS9.out.cells
      have g4 := HK9.out.cell 0; have g5 := HK9.out.cell 1
      simp only [List.getElem?_toArray, List.getElem?_cons_zero, List.getElem?_cons_succ] at g4 g5
      go_wp2_with fail
      refine (lawParse_any _ _ (firsts_below HF.out HS9.out.below hz)).mono ?_
      clear g0 g1 g2 g3 g4 g5
      rintro e z10 ⟨rfl, hb10⟩
      have HS10 := Lib.hid (HS9.out.step hb10); have HK10 := Lib.hid (HK9.out.below hb10 HK9.out.lt); have HR10 := Lib.hid (HR9.out.below hb10)
      clear hb10 HS9 HK9 HR9
      obtain ⟨g0, g1, g2, g3⟩ := HS10.out.cells
      have g4 := HK10.out.cell 0; have g5 := HK10.out.cell 1
      simp only [List.getElem?_toArray, List.getElem?_cons_zero, List.getElem?_cons_succ] at g4 g5
      go_wp2_with fail
      refine (lawSame_any _ 0 0 _ none 0 0 [] [] (Rs.nil' _) (Rs.nil' _) (firsts_below HF.out (HS10.out.alloc _).below hz)).mono ?_
      rintro e z11 ⟨rfl, hb11⟩
      have HS11 := Lib.hid ((HS10.out.alloc _).step hb11)
      clear hb11 HS10 HK10 HR10
      go_wp2
      go_ret
      exact ⟨rfl, HS11.out.below⟩
    | succ gf =>
      have hiI : (i : Int) < 8193 := by omega
      have hiN : i < 8193 := by omega
      have g1 := hst.box.cell 1; have f1 := hst.box.frozen 1
      simp only [List.getElem?_toArray, List.getElem?_cons_zero, List.getElem?_cons_succ] at g1
      have hw1 : IntKind.i64.wrap ((i : Int) / 32) = (i : Int) / 32 := IntWalk.i64_in _ (by omega)
      have hb0 : 0 ≤ (i : Int) / 32 := by omega
      have ht : (i : Int).tmod 32 = (i : Int) % 32 := Int.tmod_eq_emod_of_nonneg (by omega)
      have hw2 : IntKind.i64.wrap ((i : Int) % 32) = (i : Int) % 32 := IntWalk.i64_in _ (by omega)
      have HST := Lib.hid hst
      have HOW := Lib.hid hst.row
      have HSZ := hst.below.size
      have hq : ∀ w5 : World, (wr.alloc (.cells #[.int .i64 ((i : Int) / 32), .int .i64 ((i : Int) % 32), .int .i64 0] 35)).grownBy w5 (Value.slice A i c).ownBlock → Blk w5 w.heap.size 25 #[.int .i64 512, .slice A i c] := fun w5 hg5 =>
        (hst.box.alloc (.cells #[.int .i64 ((i : Int) / 32), .int .i64 ((i : Int) % 32), .int .i64 0] 35)).grown hg5 (ne_row (hst.row.alloc (.cells #[.int .i64 ((i : Int) / 32), .int .i64 ((i : Int) % 32), .int .i64 0] 35)) (hst.box.alloc (.cells #[.int .i64 ((i : Int) / 32), .int .i64 ((i : Int) % 32), .int .i64 0] 35)))
      have hcs : rcs edgC (fullL i) ++ [.int .i64 ((i : Int) / 32), .int .i64 ((i : Int) % 32), .int .i64 0] = rcs edgC (fullL (i + 1)) := by
        have e1 : ((i / 32 : Nat) : Int) = (i : Int) / 32 := by omega
        have e2 : ((i % 32 : Nat) : Int) = (i : Int) % 32 := by omega
        rw [fullL_succ, rcs_append, rcs_one]
        unfold fullE edgC
        rw [e1, e2]
      have HQ := Lib.hid hq; have HCS := Lib.hid hcs
      clear hst hq hcs
      go_wp2_with (at_builtin; refine wpList_app _ wr rfl (.tmp 22) (.tmp 28) 23 rfl w.heap.size 35 i0 (.agg #[.int .i64 0, .int .i64 0, .int .i64 0]) 3 24 Tryd.underlying23 HI0.out HZ0.out hz1 hz2 rfl (by decide) (by decide) _ i _ rfl HOW [.int .i64 ((i : Int) / 32), .int .i64 ((i : Int) % 32), .int .i64 0] rfl rfl rfl _ rfl rfl (by omega) HSZ ?_; intro v3 w3 h2 h3 h4; obtain ⟨A5, c5, rfl, hc5⟩ := own_parts h2.out; have HBK := Lib.hid (HQ.out w3 h3.out); have q1 := HBK.out.cell 1; have q2 := HBK.out.frozen 1; simp only [List.getElem?_toArray, List.getElem?_cons_zero, List.getElem?_cons_succ] at q1; have HO3 := Lib.hid h2.out; have HB3 := Lib.hid h4.out; clear h2 h3 h4)
      go_roundg gf
      case measure => omega
      case rel =>
        have hb := HST.out.below.trans HB3.out
        refine ⟨i + 1, A5, c5, by go_num, by omega, hb.setCell (p := ⟨w.heap.size, 1, none⟩) (Nat.le_refl _) _, HBK.out.set_ 1 _, ?_, hc5, fullL_len _⟩
        rw [← HCS.out]
        exact own_keep HO3.out (type_set (i := 1) HBK.out (by decide) _)
end Go.Proofs.YtknigkjbnaoldaaDoor
namespace Go.Proofs.YtknigkjbnaoldaaDoor
open Go.RowKit

/-- the seven bytes -/
def bytC : Array Value := #[.int .u8 32, .int .u8 10, .int .u8 35, .int .u8 48, .int .u8 57, .int .u8 120, .int .u8 200]
theorem bytC_at {j : Nat} (hj : j < 7) : ∃ x : Int, bytC[j]? = some (.int .u8 x) ∧ 0 ≤ x ∧ x ≤ 255 := by
  have h : j = 0 ∨ j = 1 ∨ j = 2 ∨ j = 3 ∨ j = 4 ∨ j = 5 ∨ j = 6 := by omega
  rcases h with rfl | rfl | rfl | rfl | rfl | rfl | rfl <;> exact ⟨_, rfl, by omega, by omega⟩
theorem put_conv (T : ByteArray) (i : Nat) (hi : i < T.size) (x : Int) (h0 : 0 ≤ x) (h1 : x ≤ 255) (W : World) : ∃ (C : Array Value) (cap : Nat) (R : ByteArray) (c0 : Value),
    (convert 9 44 (.string T)).run Tryd.prog W = .ok (.slice (some ⟨W.heap.size, 0, none⟩) T.size cap) (W.drew.alloc (.cells C 5 (C.size, C.size + 1))) ∧
    T.size ≤ cap ∧ C[i]? = some c0 ∧ i < C.size ∧
    ∀ (W' : World) (fz : Nat × Nat), W'.heap[W.heap.size]? = some (.cells (C.setIfInBounds i (.int .u8 x)) 5 fz) →
      (convert 44 9 (.slice (some ⟨W.heap.size, 0, none⟩) T.size cap)).run Tryd.prog W' = .ok (.string R) W' := by
  have hcap := grownCap_ge W T.size 0 5
  have hC : ∀ k, k < T.size → (bytesRow T (grownCap W T.size 0 5))[k]? = (T.data[k]?).map fun b => Value.int .u8 (b.toNat : Int) := fun k hk => by
    have hk' : k < T.data.size := hk
    unfold bytesRow
    rw [Array.getElem?_append_left (by simpa using hk')]
    simp
  have hi' : i < T.data.size := hi
  have hx : ((UInt8.ofNat x.toNat).toNat : Int) = x := by
    have : x.toNat < 256 := by omega
    rw [UInt8.toNat_ofNat_of_lt' (by simpa using this)]
    omega
  refine ⟨bytesRow T (grownCap W T.size 0 5), grownCap W T.size 0 5, ⟨(T.data.toList.set i (UInt8.ofNat x.toNat)).toArray⟩, .int .u8 (T.data[i].toNat : Int),
    run_bytes_of_string W 9 44 5 T Tryd.underlying9 Tryd.underlying44 Tryd.underlying5, by omega, ?_, ?_, fun W' fz hW => ?_⟩
  · rw [hC i hi, Array.getElem?_eq_getElem hi']; rfl
  · unfold bytesRow
    simp only [Array.size_append, Array.size_map]
    omega
  · have h := run_convert_bytes_back (P := Tryd.prog) W' 44 9 5 ⟨W.heap.size, 0, none⟩ (grownCap W T.size 0 5) (T.data.toList.set i (UInt8.ofNat x.toNat)) Tryd.underlying44 Tryd.underlying5 Tryd.underlying9 (fun j hj => by
      rw [List.length_set] at hj
      have hj' : j < T.data.size := by simpa using hj
      rw [addr_add, cell_of_row W' W.heap.size (0 + j) _ 5 fz hW, Nat.zero_add, Array.getElem?_setIfInBounds]
      by_cases hji : i = j
      · subst hji
        rw [if_pos rfl, if_pos (by unfold bytesRow; simp only [Array.size_append, Array.size_map]; omega)]
        simp only [List.getElem_set_self]
        rw [hx]
      · rw [if_neg hji, hC j hj', Array.getElem?_eq_getElem hj', List.getElem_set_ne hji]
        rfl)
    rw [List.length_set] at h
    exact h
theorem row_set {W : World} {g : Nat} {C : Array Value} {t : TypeId} {fz : Nat × Nat} (i : Nat) (v : Value) (h : W.heap[g]? = some (.cells C t fz)) : (W.setCell ⟨g, i, none⟩ v).heap[g]? = some (.cells (C.setIfInBounds i v) t fz) := by
  simp [World.setCell, Array.getElem?_modify, h]
theorem mark_set (W : World) (C : Array Value) (t : TypeId) (fz : Nat × Nat) (i : Nat) (v : Value) : ((W.alloc (.cells C t fz)).setCell ⟨W.heap.size, i, none⟩ v).heap[W.heap.size]? = some (.cells (C.setIfInBounds i v) t fz) :=
  row_set i v (heap_alloc_new W _)
theorem row_frozen {W : World} {g : Nat} {C : Array Value} {t : TypeId} {i : Nat} (hi : i < C.size) (h : W.heap[g]? = some (.cells C t (C.size, C.size + 1))) : W.frozen? ⟨g, i, none⟩ = false := by
  have h2 : ¬ C.size ≤ i := by omega
  simp [World.frozen?, h, h2]
theorem mark_frozen (W : World) (C : Array Value) (t : TypeId) (i : Nat) (hi : i < C.size) : (W.alloc (.cells C t (C.size, C.size + 1))).frozen? ⟨W.heap.size, i, none⟩ = false :=
  row_frozen hi (heap_alloc_new W _)
/-- bytes of a text, one of them turned: all that the walk asks -/
theorem put_all (T : ByteArray) (i : Nat) (hi : i < T.size) (x : Int) (h0 : 0 ≤ x) (h1 : x ≤ 255) (W : World) : ∃ (C : Array Value) (cap : Nat) (R : ByteArray) (c0 : Value),
    (convert 9 44 (.string T)).run Tryd.prog W = .ok (.slice (some ⟨W.heap.size, 0, none⟩) T.size cap) (W.drew.alloc (.cells C 5 (C.size, C.size + 1))) ∧
    (W.alloc (.cells C 5 (C.size, C.size + 1))).cell? ⟨W.heap.size, i, none⟩ = some c0 ∧ (W.alloc (.cells C 5 (C.size, C.size + 1))).frozen? ⟨W.heap.size, i, none⟩ = false ∧
    ∀ W' : World, Below (W.heap.size + 1) (((W.alloc (.cells C 5 (C.size, C.size + 1))).setCell ⟨W.heap.size, i, none⟩ (.int .u8 x)).drew) W' →
      (convert 44 9 (.slice (some ⟨W.heap.size, 0, none⟩) T.size cap)).run Tryd.prog W' = .ok (.string R) W' := by
  obtain ⟨C, cap, R, c0, hcv, hcap, hC, hiC, hback⟩ := put_conv T i hi x h0 h1 W
  refine ⟨C, cap, R, c0, hcv, (World.cell?_alloc_mark W C _ _ i).trans hC, mark_frozen W C _ i hiC, fun W' hb => hback W' (C.size, C.size + 1) ?_⟩
  exact (hb.block W.heap.size (Nat.lt_succ_self _)).trans (mark_set W C _ _ i _)
theorem rcs_set3 : ∀ {L : List Edg} {i : Nat} (x : Edg), i < L.length → (((rcs edgC L).set (i * 3) (.int .i64 x.1)).set (i * 3 + 1) (.int .i64 x.2.1)).set (i * 3 + 2) (.int .i64 x.2.2) = rcs edgC (L.set i x) := by
  intro L
  induction L with
  | nil => intro i x h; simp at h
  | cons y L ih =>
    intro i x h
    have e : ∀ (z : Edg) (M : List Edg), rcs edgC (z :: M) = .int .i64 z.1 :: .int .i64 z.2.1 :: .int .i64 z.2.2 :: rcs edgC M := fun z M => rfl
    cases i with
    | zero =>
      rw [List.set_cons_zero, e, e]
      rfl
    | succ i =>
      have h' : i < L.length := by simpa using h
      rw [List.set_cons_succ, e, e, ← ih x h', show (i + 1) * 3 = i * 3 + 1 + 1 + 1 by omega]
      rfl
theorem own_put3 {w : World} {B g cap : Nat} {l : List Edg} {i : Nat} (x : Edg) (hi : i < l.length) (h : w.ownsRow B 35 3 (.slice (some ⟨g, 0, none⟩) l.length cap) l.length (rcs edgC l)) :
    (((w.setCell ⟨g, i * 3, none⟩ (.int .i64 x.1)).setCell ⟨g, i * 3 + 1, none⟩ (.int .i64 x.2.1)).setCell ⟨g, i * 3 + 2, none⟩ (.int .i64 x.2.2)).ownsRow B 35 3 (.slice (some ⟨g, 0, none⟩) l.length cap) l.length (rcs edgC (l.set i x)) := by
  have s1 := h.stored (i * 3) (.int .i64 x.1)
  have s2 := s1.1.stored (i * 3 + 1) (.int .i64 x.2.1)
  have s3 := s2.1.stored (i * 3 + 2) (.int .i64 x.2.2)
  have h5 := s3.1
  rw [rcs_set3 x hi] at h5
  exact h5
/-- the texts -/
def strC : Array Value := #[.string ⟨#[]⟩, .string ⟨#[10, 10]⟩, .string ⟨#[118, 101, 114, 116, 105, 99, 101, 115]⟩, .string ⟨#[118, 101, 114, 116, 105, 99, 101, 115, 32, 48]⟩, .string ⟨#[118, 101, 114, 116, 105, 99, 101, 115, 32, 49]⟩, .string ⟨#[118, 101, 114, 116, 105, 99, 101, 115, 32, 53, 49, 50]⟩, .string ⟨#[118, 101, 114, 116, 105, 99, 101, 115, 32, 53, 49, 51]⟩, .string ⟨#[118, 101, 114, 116, 105, 99, 101, 115, 32, 51, 32, 52]⟩, .string ⟨#[118, 101, 114, 116, 105, 99, 101, 115, 32, 50, 10, 118, 101, 114, 116, 105, 99, 101, 115, 32, 50]⟩, .string ⟨#[101, 100, 103, 101, 32, 48, 32, 49]⟩, .string ⟨#[118, 101, 114, 116, 105, 99, 101, 115, 32, 50, 10, 101, 100, 103, 101, 32, 48]⟩, .string ⟨#[118, 101, 114, 116, 105, 99, 101, 115, 32, 50, 10, 101, 100, 103, 101, 32, 48, 32, 49, 32, 50, 32, 51]⟩, .string ⟨#[118, 101, 114, 116, 105, 99, 101, 115, 32, 50, 10, 101, 100, 103, 101, 32, 48, 32, 49, 32, 50, 49, 52, 55, 52, 56, 51, 54, 52, 55]⟩, .string ⟨#[118, 101, 114, 116, 105, 99, 101, 115, 32, 50, 10, 101, 100, 103, 101, 32, 48, 32, 49, 32, 50, 49, 52, 55, 52, 56, 51, 54, 52, 56]⟩, .string ⟨#[118, 101, 114, 116, 105, 99, 101, 115, 32, 50, 10, 98, 111, 116, 104, 32, 48, 32, 49, 32, 53, 10, 101, 100, 103, 101, 32, 49, 32, 48]⟩, .string ⟨#[118, 101, 114, 116, 105, 99, 101, 115, 32, 50, 10, 98, 111, 116, 104, 32, 49, 32, 49, 32, 51, 10, 98, 111, 116, 104, 32, 48, 32, 48]⟩, .string ⟨#[118, 101, 114, 116, 105, 99, 101, 115, 32, 217, 163, 10, 101, 100, 103, 101, 32, 239, 188, 144, 32, 217, 162, 32, 217, 161, 217, 160, 32, 35, 32, 116, 101, 110]⟩, .string ⟨#[118, 101, 114, 116, 105, 99, 101, 115, 32, 50, 10, 101, 100, 103, 101, 32, 48, 32, 49, 10, 255]⟩, .string ⟨#[118, 101, 114, 116, 105, 99, 101, 115, 32, 50, 10, 32, 35, 32, 255, 10, 101, 100, 103, 101, 32, 49, 32, 48, 10, 101, 100, 103, 101, 32, 48, 32, 48]⟩, .string ⟨#[118, 101, 114, 116, 105, 99, 101, 115, 32, 50, 10, 101, 100, 103, 101, 32, 48, 32, 57, 57, 57, 57, 57, 57, 57, 57, 57, 57, 57, 57, 57, 57, 57, 57, 57, 57, 57, 57, 57, 57]⟩, .string ⟨#[97, 114, 99, 32, 48, 32, 49]⟩, .string ⟨#[118, 101, 114, 116, 105, 99, 101, 115, 32, 50, 10, 97, 114, 99, 32, 48, 32, 49]⟩, .string ⟨#[118, 101, 114, 116, 105, 99, 101, 115, 32, 50, 13, 10, 101, 100, 103, 101, 32, 48, 32, 49, 13, 10]⟩]
def strS : List ByteArray := [⟨#[]⟩, ⟨#[10, 10]⟩, ⟨#[118, 101, 114, 116, 105, 99, 101, 115]⟩, ⟨#[118, 101, 114, 116, 105, 99, 101, 115, 32, 48]⟩, ⟨#[118, 101, 114, 116, 105, 99, 101, 115, 32, 49]⟩, ⟨#[118, 101, 114, 116, 105, 99, 101, 115, 32, 53, 49, 50]⟩, ⟨#[118, 101, 114, 116, 105, 99, 101, 115, 32, 53, 49, 51]⟩, ⟨#[118, 101, 114, 116, 105, 99, 101, 115, 32, 51, 32, 52]⟩, ⟨#[118, 101, 114, 116, 105, 99, 101, 115, 32, 50, 10, 118, 101, 114, 116, 105, 99, 101, 115, 32, 50]⟩, ⟨#[101, 100, 103, 101, 32, 48, 32, 49]⟩, ⟨#[118, 101, 114, 116, 105, 99, 101, 115, 32, 50, 10, 101, 100, 103, 101, 32, 48]⟩, ⟨#[118, 101, 114, 116, 105, 99, 101, 115, 32, 50, 10, 101, 100, 103, 101, 32, 48, 32, 49, 32, 50, 32, 51]⟩, ⟨#[118, 101, 114, 116, 105, 99, 101, 115, 32, 50, 10, 101, 100, 103, 101, 32, 48, 32, 49, 32, 50, 49, 52, 55, 52, 56, 51, 54, 52, 55]⟩, ⟨#[118, 101, 114, 116, 105, 99, 101, 115, 32, 50, 10, 101, 100, 103, 101, 32, 48, 32, 49, 32, 50, 49, 52, 55, 52, 56, 51, 54, 52, 56]⟩, ⟨#[118, 101, 114, 116, 105, 99, 101, 115, 32, 50, 10, 98, 111, 116, 104, 32, 48, 32, 49, 32, 53, 10, 101, 100, 103, 101, 32, 49, 32, 48]⟩, ⟨#[118, 101, 114, 116, 105, 99, 101, 115, 32, 50, 10, 98, 111, 116, 104, 32, 49, 32, 49, 32, 51, 10, 98, 111, 116, 104, 32, 48, 32, 48]⟩, ⟨#[118, 101, 114, 116, 105, 99, 101, 115, 32, 217, 163, 10, 101, 100, 103, 101, 32, 239, 188, 144, 32, 217, 162, 32, 217, 161, 217, 160, 32, 35, 32, 116, 101, 110]⟩, ⟨#[118, 101, 114, 116, 105, 99, 101, 115, 32, 50, 10, 101, 100, 103, 101, 32, 48, 32, 49, 10, 255]⟩, ⟨#[118, 101, 114, 116, 105, 99, 101, 115, 32, 50, 10, 32, 35, 32, 255, 10, 101, 100, 103, 101, 32, 49, 32, 48, 10, 101, 100, 103, 101, 32, 48, 32, 48]⟩, ⟨#[118, 101, 114, 116, 105, 99, 101, 115, 32, 50, 10, 101, 100, 103, 101, 32, 48, 32, 57, 57, 57, 57, 57, 57, 57, 57, 57, 57, 57, 57, 57, 57, 57, 57, 57, 57, 57, 57, 57, 57]⟩, ⟨#[97, 114, 99, 32, 48, 32, 49]⟩, ⟨#[118, 101, 114, 116, 105, 99, 101, 115, 32, 50, 10, 97, 114, 99, 32, 48, 32, 49]⟩, ⟨#[118, 101, 114, 116, 105, 99, 101, 115, 32, 50, 13, 10, 101, 100, 103, 101, 32, 48, 32, 49, 13, 10]⟩]
theorem strC_eq : strC = (strS.map Value.string).toArray := rfl
theorem strC_at {j : Nat} (hj : j < 23) : ∃ s : ByteArray, strC[j]? = some (.string s) := by
  rw [strC_eq, List.getElem?_toArray, List.getElem?_map]
  have hl : j < strS.length := hj
  exact ⟨strS[j], by rw [List.getElem?_eq_getElem hl]; rfl⟩
/-- the edges that are put in -/
def varL : List Edg := [(-1, 0, 0), (0, -1, 0), (6, 0, 0), (0, 6, 0), (0, 0, -1), (0, 0, 2147483648), (0, 0, 2147483647), (5, 5, 0), (0, 1, 4), (4, 4, 7)]
/-- a state of GraphKnown -/
structure KnS (w wr : World) (b1 : Nat) (A : Option Addr) (c : Nat) : Prop where
  below : Below w.heap.size w wr
  box : Blk wr b1 25 #[.int .i64 6, .slice A 5 c]
  rs : Rs edgC 3 wr A millL
theorem KnS.step {w wr w' : World} {b1 c : Nat} {A : Option Addr} (h : KnS w wr b1 A c) (hb : Below wr.heap.size wr w') : KnS w w' b1 A c :=
  ⟨h.below.trans (hb.mono h.below.size), h.box.below hb h.box.lt, h.rs.below hb⟩
theorem KnS.alloc {w wr : World} {b1 c : Nat} {A : Option Addr} (h : KnS w wr b1 A c) (o : Obj) : KnS w (wr.alloc o) b1 A c := h.step ((Below.refl _ _).alloc (Nat.le_refl _) o)
theorem KnS.drew {w wr : World} {b1 c : Nat} {A : Option Addr} (h : KnS w wr b1 A c) : KnS w wr.drew b1 A c := ⟨below_drewN h.below 1, h.box, h.rs⟩
theorem KnS.cells {w wr : World} {b1 bm om c : Nat} (h : KnS w wr b1 (some ⟨bm, om, none⟩) c) : wr.cell? ⟨b1, 1, none⟩ = some (.slice (some ⟨bm, om, none⟩) 5 c) ∧
    wr.cell? ⟨bm, om, none⟩ = some (.int .i64 0) ∧ wr.cell? ⟨bm, om + 1, none⟩ = some (.int .i64 1) ∧ wr.cell? ⟨bm, om + 2, none⟩ = some (.int .i64 4) ∧
    wr.cell? ⟨bm, om + 12, none⟩ = some (.int .i64 4) ∧ wr.cell? ⟨bm, om + 13, none⟩ = some (.int .i64 4) ∧ wr.cell? ⟨bm, om + 14, none⟩ = some (.int .i64 7) := by
  obtain ⟨b, o, hA, _, hc⟩ := h.rs.2 (by decide)
  injection hA with hA
  injection hA with e1 e2 _
  subst e1 e2
  exact ⟨h.box.cell 1, hc 0 _ rfl, hc 1 _ rfl, hc 2 _ rfl, hc 12 _ rfl, hc 13 _ rfl, hc 14 _ rfl⟩
/-- .. with a graph of which one edge is turned -/
structure KnV (w wr : World) (b1 bm om c gv ge gg : Nat) (x : Edg) (g5 cap5 : Nat) (M : List Edg) : Prop where
  st : KnS w wr b1 (some ⟨bm, om, none⟩) c
  vs : Rs edgC 3 wr (some ⟨gv, 0, none⟩) varL
  ebox : Blk wr ge 35 #[.int .i64 x.1, .int .i64 x.2.1, .int .i64 x.2.2]
  gbox : Blk wr gg 25 #[.int .i64 6, .slice (some ⟨g5, 0, none⟩) 5 cap5]
  row : Rs edgC 3 wr (some ⟨g5, 0, none⟩) M
theorem KnV.step {w wr w' : World} {b1 bm om c gv ge gg : Nat} {x : Edg} {g5 cap5 : Nat} {M : List Edg} (h : KnV w wr b1 bm om c gv ge gg x g5 cap5 M) (hb : Below wr.heap.size wr w') : KnV w w' b1 bm om c gv ge gg x g5 cap5 M :=
  ⟨h.st.step hb, h.vs.below hb, h.ebox.below hb h.ebox.lt, h.gbox.below hb h.gbox.lt, h.row.below hb⟩
theorem KnV.cells {w wr : World} {b1 bm om c gv ge gg : Nat} {x : Edg} {g5 cap5 : Nat} {M : List Edg} (h : KnV w wr b1 bm om c gv ge gg x g5 cap5 M) : wr.cell? ⟨b1, 0, none⟩ = some (.int .i64 6) ∧ wr.cell? ⟨b1, 1, none⟩ = some (.slice (some ⟨bm, om, none⟩) 5 c) ∧
    wr.cell? ⟨ge, 0, none⟩ = some (.int .i64 x.1) ∧ wr.cell? ⟨gg, 0, none⟩ = some (.int .i64 6) ∧ wr.cell? ⟨gg, 1, none⟩ = some (.slice (some ⟨g5, 0, none⟩) 5 cap5) :=
  ⟨h.st.box.cell 0, h.st.box.cell 1, h.ebox.cell 0, h.gbox.cell 0, h.gbox.cell 1⟩
theorem kn_fin {w wr y2 : World} {b1 bm om c gv g5 cap5 k : Nat} (x : Edg) (hst : KnS w wr b1 (some ⟨bm, om, none⟩) c) (hvs : Rs edgC 3 wr (some ⟨gv, 0, none⟩) varL) (hk : k < 5)
    (hg2 : Below ((wr.alloc (.cells #[.int .i64 x.1, .int .i64 x.2.1, .int .i64 x.2.2] 35)).alloc (.cells #[.int .i64 6, .slice none 0 0] 25)).heap.size ((wr.alloc (.cells #[.int .i64 x.1, .int .i64 x.2.1, .int .i64 x.2.2] 35)).alloc (.cells #[.int .i64 6, .slice none 0 0] 25)) y2) (ho2 : y2.ownsRow (wr.heap.size + 2) 35 3 (.slice (some ⟨g5, 0, none⟩) 5 cap5) 5 (rcs edgC millL)) :
    (((y2.setCell ⟨wr.heap.size + 1, 1, none⟩ (.slice (some ⟨g5, 0, none⟩) 5 cap5)).cell? ⟨wr.heap.size, 0, none⟩ = some (.int .i64 x.1) ∧ (y2.setCell ⟨wr.heap.size + 1, 1, none⟩ (.slice (some ⟨g5, 0, none⟩) 5 cap5)).cell? ⟨wr.heap.size, 1, none⟩ = some (.int .i64 x.2.1) ∧ (y2.setCell ⟨wr.heap.size + 1, 1, none⟩ (.slice (some ⟨g5, 0, none⟩) 5 cap5)).cell? ⟨wr.heap.size, 2, none⟩ = some (.int .i64 x.2.2) ∧ (y2.setCell ⟨wr.heap.size + 1, 1, none⟩ (.slice (some ⟨g5, 0, none⟩) 5 cap5)).cell? ⟨wr.heap.size + 1, 1, none⟩ = some (.slice (some ⟨g5, 0, none⟩) 5 cap5)) ∧
    (∃ r0 r1 r2, (y2.setCell ⟨wr.heap.size + 1, 1, none⟩ (.slice (some ⟨g5, 0, none⟩) 5 cap5)).cell? ⟨g5, k * 3, none⟩ = some r0 ∧ (y2.setCell ⟨wr.heap.size + 1, 1, none⟩ (.slice (some ⟨g5, 0, none⟩) 5 cap5)).cell? ⟨g5, k * 3 + 1, none⟩ = some r1 ∧ (y2.setCell ⟨wr.heap.size + 1, 1, none⟩ (.slice (some ⟨g5, 0, none⟩) 5 cap5)).cell? ⟨g5, k * 3 + 2, none⟩ = some r2) ∧
    ((y2.setCell ⟨wr.heap.size + 1, 1, none⟩ (.slice (some ⟨g5, 0, none⟩) 5 cap5)).frozen? ⟨g5, k * 3, none⟩ = false ∧ (y2.setCell ⟨wr.heap.size + 1, 1, none⟩ (.slice (some ⟨g5, 0, none⟩) 5 cap5)).frozen? ⟨g5, k * 3 + 1, none⟩ = false ∧ (y2.setCell ⟨wr.heap.size + 1, 1, none⟩ (.slice (some ⟨g5, 0, none⟩) 5 cap5)).frozen? ⟨g5, k * 3 + 2, none⟩ = false)) ∧
    KnV w ((((y2.setCell ⟨wr.heap.size + 1, 1, none⟩ (.slice (some ⟨g5, 0, none⟩) 5 cap5)).setCell ⟨g5, k * 3, none⟩ (.int .i64 x.1)).setCell ⟨g5, k * 3 + 1, none⟩ (.int .i64 x.2.1)).setCell ⟨g5, k * 3 + 2, none⟩ (.int .i64 x.2.2)) b1 bm om c gv wr.heap.size (wr.heap.size + 1) x g5 cap5 (millL.set k x) := by
  have hz2 : ((wr.alloc (.cells #[.int .i64 x.1, .int .i64 x.2.1, .int .i64 x.2.2] 35)).alloc (.cells #[.int .i64 6, .slice none 0 0] 25)).heap.size = wr.heap.size + 2 := by simp
  have hz1 : (wr.alloc (.cells #[.int .i64 x.1, .int .i64 x.2.1, .int .i64 x.2.2] 35)).heap.size = wr.heap.size + 1 := by simp
  have heb := ((Blk.new wr 35 #[.int .i64 x.1, .int .i64 x.2.1, .int .i64 x.2.2]).alloc (.cells #[.int .i64 6, .slice none 0 0] 25)).below hg2 (by rw [hz2]; omega)
  have hgb := Blk.new (wr.alloc (.cells #[.int .i64 x.1, .int .i64 x.2.1, .int .i64 x.2.2] 35)) 25 #[.int .i64 6, .slice none 0 0]
  rw [hz1] at hgb
  have hgb := hgb.below hg2 (by rw [hz2]; omega)
  have hb2 : Below wr.heap.size wr y2 := (((Below.refl _ _).alloc (Nat.le_refl _) (.cells #[.int .i64 x.1, .int .i64 x.2.1, .int .i64 x.2.2] 35)).alloc (by rw [hz1]; omega) (.cells #[.int .i64 6, .slice none 0 0] 25)).trans (hg2.mono (by rw [hz2]; omega))
  have hg5 : wr.heap.size + 2 ≤ g5 := (ho2.lt g5 rfl).1
  have heb3 := heb.far (p := ⟨wr.heap.size + 1, 1, none⟩) (by show wr.heap.size ≠ wr.heap.size + 1; omega) (.slice (some ⟨g5, 0, none⟩) 5 cap5)
  have hgb3 : Blk (y2.setCell ⟨wr.heap.size + 1, 1, none⟩ (.slice (some ⟨g5, 0, none⟩) 5 cap5)) (wr.heap.size + 1) 25 #[.int .i64 6, (.slice (some ⟨g5, 0, none⟩) 5 cap5)] := hgb.set_ 1 (.slice (some ⟨g5, 0, none⟩) 5 cap5)
  have hown3 : (y2.setCell ⟨wr.heap.size + 1, 1, none⟩ (.slice (some ⟨g5, 0, none⟩) 5 cap5)).ownsRow (wr.heap.size + 2) 35 3 (.slice (some ⟨g5, 0, none⟩) 5 cap5) 5 (rcs edgC millL) := own_keep ho2 (type_set (i := 1) hgb (by decide) (.slice (some ⟨g5, 0, none⟩) 5 cap5))
  have hb3 : Below wr.heap.size wr (y2.setCell ⟨wr.heap.size + 1, 1, none⟩ (.slice (some ⟨g5, 0, none⟩) 5 cap5)) := hb2.setCell (p := ⟨wr.heap.size + 1, 1, none⟩) (by show wr.heap.size ≤ wr.heap.size + 1; omega) _
  have hrs3 : Rs edgC 3 (y2.setCell ⟨wr.heap.size + 1, 1, none⟩ (.slice (some ⟨g5, 0, none⟩) 5 cap5)) (some ⟨g5, 0, none⟩) millL := Rs.of_own (l := millL) hown3
  obtain ⟨b, o, m, hA, _, _, r0, r1, r2⟩ := edg_at hrs3 (i := k) hk
  injection hA with hA
  injection hA with e1 e2 _
  subst e1 e2
  simp only [Nat.zero_add] at r0 r1 r2
  have hn0 : wr.heap.size ≠ g5 := by omega
  have hn1 : wr.heap.size + 1 ≠ g5 := by omega
  have hle : wr.heap.size ≤ g5 := by omega
  have h4 := own_put3 (l := millL) x hk hown3
  have hb4 : Below wr.heap.size wr ((((y2.setCell ⟨wr.heap.size + 1, 1, none⟩ (.slice (some ⟨g5, 0, none⟩) 5 cap5)).setCell ⟨g5, k * 3, none⟩ (.int .i64 x.1)).setCell ⟨g5, k * 3 + 1, none⟩ (.int .i64 x.2.1)).setCell ⟨g5, k * 3 + 2, none⟩ (.int .i64 x.2.2)) :=
    ((hb3.setCell (p := ⟨g5, k * 3, none⟩) hle _).setCell (p := ⟨g5, k * 3 + 1, none⟩) hle _).setCell (p := ⟨g5, k * 3 + 2, none⟩) hle _
  refine ⟨⟨⟨heb3.cell 0, heb3.cell 1, heb3.cell 2, hgb3.cell 1⟩, ⟨_, _, _, r0, r1, r2⟩, hown3.frozenAt (k * 3), hown3.frozenAt (k * 3 + 1), hown3.frozenAt (k * 3 + 2)⟩, ⟨hst.step hb4, hvs.below hb4, ?_, ?_, ?_⟩⟩
  · exact ((heb3.far (p := ⟨g5, k * 3, none⟩) hn0 _).far (p := ⟨g5, k * 3 + 1, none⟩) hn0 _).far (p := ⟨g5, k * 3 + 2, none⟩) hn0 _
  · exact ((hgb3.far (p := ⟨g5, k * 3, none⟩) hn1 _).far (p := ⟨g5, k * 3 + 1, none⟩) hn1 _).far (p := ⟨g5, k * 3 + 2, none⟩) hn1 _
  · have hl : (millL.set k x).length = millL.length := List.length_set ..
    exact Rs.of_own (l := millL.set k x) (c := cap5) (by rw [hl]; exact h4)
section
variable (w : World) (n : Int) (A : Option Addr) (c : Nat) (l : List Edg) (hl : l.length = 5) (ha : Rs edgC 3 w A l) (hF : Firsts w)
include hl ha hF
theorem kCheck : Calls Tryd.prog 6 #[.agg #[.int .i64 n, .slice A 5 c]] w fun e w' => e = .returned (.bool true) ∧ Below w.heap.size w w' := by
  have h := lawCheck_any w n A c l ha hF
  rwa [hl] at h
theorem kBack (s : ByteArray) : Calls Tryd.prog 7 #[.agg #[.int .i64 n, .slice A 5 c], .string s] w fun e w' => e = .returned (.bool true) ∧ Below w.heap.size w w' := by
  have h := lawBack_any w n A c l s ha hF
  rwa [hl] at h
theorem kEdges (v : Int) : Calls Tryd.prog 4 #[.agg #[.int .i64 n, .slice A 5 c], .int .i64 v] w fun e w' => e = .returned (.bool true) ∧ Below w.heap.size w w' := by
  have h := lawEdges_any w n v A c l ha hF
  rwa [hl] at h
theorem kSame (m : Int) (B : Option Addr) (d : Nat) (ys : List Edg) (hy : ys.length = 5) (hb : Rs edgC 3 w B ys) : Calls Tryd.prog 5 #[.agg #[.int .i64 n, .slice A 5 c], .agg #[.int .i64 m, .slice B 5 d]] w fun e w' => e = .returned (.bool true) ∧ Below w.heap.size w w' := by
  have h := lawSame_any w n m A B c d l ys ha hb hF
  rw [hl, hy] at h
  exact h
end
end Go.Proofs.YtknigkjbnaoldaaDoor
namespace Go.Proofs.YtknigkjbnaoldaaDoor
open Go.RowKit

theorem mill_size : (printE ((6 : Int), millL)).size ≤ 1000 := by decide
set_option maxRecDepth 100000 in
set_option maxHeartbeats 4000000 in
theorem known_any (w : World) (hF : Firsts w) : Calls Tryd.prog 8 #[] w fun e w' => e = .returned (.bool true) ∧ Below w.heap.size w w' := by
  have hz := firsts_lt hF
  obtain ⟨i0, hi0, hz0, hz1, hz2, -⟩ := parts infoE
  have HF := Lib.hid hF; have HI0 := Lib.hid hi0; have HZ0 := Lib.hid hz0; have HE1 := Lib.hid (edgC_one millL)
  clear hF hi0 hz0
  go_enter Tryd.func8, Tryd.ntmps8
  go_wp2_with fail
  refine (mill_any _).mono ?_
  rintro e w1 ⟨A, c, rfl, hr, hb⟩
  obtain ⟨bm, om, rfl, hbm⟩ : ∃ bm om, A = some ⟨bm, om, none⟩ ∧ bm < w1.heap.size := by
    obtain ⟨b, o, h1, h2, _⟩ := hr.2 (by decide)
    exact ⟨b, o, h1, h2⟩
  have HS : Hid (KnS w (w1.alloc (.cells #[.int .i64 6, .slice (some ⟨bm, om, none⟩) 5 c] 25)) w1.heap.size (some ⟨bm, om, none⟩) c) := Lib.hid ⟨hb.alloc hb.size _, Blk.new w1 _ _, hr.alloc _⟩
  clear hr hb
  go_wp2_with fail
  refine (rPrint_any _ 6 (some ⟨bm, om, none⟩) c millL HS.out.rs).mono ?_
  rintro e w2 ⟨rfl, hb⟩
  have hTs := mill_size
  obtain ⟨T, hT⟩ : ∃ T, printE ((6 : Int), millL) = T := ⟨_, rfl⟩
  obtain ⟨q, hq⟩ : ∃ q, checkL ((6 : Int), millL) = q := ⟨_, rfl⟩
  rw [hT] at hTs
  rw [hT, hq]
  have HS2 := Lib.hid (HS.out.step hb)
  clear hT hq hb HS
  go_wp2
  go_loopg [4] T.size (fun gf vi wr => ∃ i : Nat, vi = .int .i64 i ∧ i + gf = T.size ∧ KnS w wr w1.heap.size (some ⟨bm, om, none⟩) c)
  case atStart => exact ⟨0, rfl, by omega, HS2.out⟩
  case round =>
    clear HS2
    obtain ⟨i, rfl, hi, hst⟩ := hrel
    cases gk with
    | zero =>
      obtain rfl : i = T.size := by omega
      have hTI : ¬ (T.size : Int) < (T.size : Int) := by omega
      have HST := Lib.hid hst
      clear hst hi hTs
      go_wp2
      go_loopg [8] 5 (fun gf vi wr => ∃ k : Nat, vi = .int .i64 k ∧ k + gf = 5 ∧ KnS w wr w1.heap.size (some ⟨bm, om, none⟩) c)
      case atStart => exact ⟨0, rfl, by omega, HST.out⟩
      case round =>
        clear HST hTI
        obtain ⟨k, rfl, hk, hst⟩ := hrel
        have hcl := hst.cells
        obtain ⟨g1, -⟩ := hcl
        cases gk with
        | zero =>
          obtain rfl : k = 5 := by omega
          have HIN := Lib.hid (show KnS w (wr.alloc (.cells strC 9)) w1.heap.size (some ⟨bm, om, none⟩) c from hst.alloc _)
          have HBY := Lib.hid (Blk.new wr 9 strC)
          clear hst hk
          go_wp2
          go_loopg [125] 23 (fun gf vi wx => ∃ j : Nat, vi = .int .i64 j ∧ j + gf = 23 ∧ KnS w wx w1.heap.size (some ⟨bm, om, none⟩) c ∧ Blk wx wr.heap.size 9 strC)
          case atStart => exact ⟨0, rfl, by omega, HIN.out, HBY.out⟩
          case round =>
            clear HIN HBY g1
            obtain ⟨j, rfl, hj, hst, hby⟩ := hrel
            cases gk with
            | zero =>
              obtain rfl : j = 23 := by omega
              have HST := Lib.hid hst
              clear hst hby
              go_wp2_with fail
              refine (limits_any _ (firsts_below HF.out HST.out.below hz)).mono ?_
              rintro e w3 ⟨rfl, hb3⟩
              have HS3 := Lib.hid (HST.out.step hb3)
              clear HST hb3
              go_wp2_with fail
              refine (works_any _ (firsts_below HF.out HS3.out.below hz)).mono ?_
              rintro e w4 ⟨rfl, hb4⟩
              have HS4 := Lib.hid (HS3.out.step hb4)
              clear HS3 hb4
              go_wp2
              go_ret
              exact ⟨rfl, HS4.out.below⟩
            | succ gf =>
              have hjI : (j : Int) < 23 := by omega
              have hjN : j < 23 := by omega
              obtain ⟨s, hs⟩ := strC_at hjN
              have hcx := hby.cell j
              rw [hs] at hcx
              have HST := Lib.hid hst; have HBY := Lib.hid hby
              clear hst hby hs
              go_wp2_with fail
              refine (lawParse_any s _ (firsts_below HF.out HST.out.below hz)).mono ?_
              clear hcx
              rintro e w3 ⟨rfl, hb3⟩
              have HS3 := Lib.hid (HST.out.step hb3); have HB3 := Lib.hid (HBY.out.below hb3 HBY.out.lt)
              clear hb3 HST HBY
              go_wp2_with fail
              refine (lawBack_any _ 0 none 0 [] s (Rs.nil' _) (firsts_below HF.out HS3.out.below hz)).mono ?_
              rintro e w4 ⟨rfl, hb4⟩
              have HS4 := Lib.hid (HS3.out.step hb4); have HB4 := Lib.hid (HB3.out.below hb4 HB3.out.lt)
              clear hb4 HS3 HB3
              go_wp2
              go_roundg gf
              case measure => omega
              case rel => exact ⟨j + 1, by go_num, by omega, HS4.out, HB4.out⟩
        | succ gf =>
          have hkI : (k : Int) < 5 := by omega
          have hkN : k < 5 := by omega
          have hss : ∀ w', Below wr.heap.size wr w' → w'.cell? ⟨w1.heap.size, 1, none⟩ = some (.slice (some ⟨bm, om, none⟩) 5 c) ∧ w'.cell? ⟨bm, om, none⟩ = some (.int .i64 0) ∧ w'.cell? ⟨bm, om + 1, none⟩ = some (.int .i64 1) ∧ w'.cell? ⟨bm, om + 2, none⟩ = some (.int .i64 4) ∧ w'.cell? ⟨bm, om + 12, none⟩ = some (.int .i64 4) ∧ w'.cell? ⟨bm, om + 13, none⟩ = some (.int .i64 4) ∧ w'.cell? ⟨bm, om + 14, none⟩ = some (.int .i64 7) := fun w' hb' => (hst.step hb').cells
          have HSS := Lib.hid hss
          have HIN := Lib.hid (show KnS w (wr.drew.alloc (.cells (rcs edgC varL).toArray 35)) w1.heap.size (some ⟨bm, om, none⟩) c from hst.drew.alloc _)
          have HVS := Lib.hid (show Rs edgC 3 (wr.drew.alloc (.cells (rcs edgC varL).toArray 35)) (some ⟨wr.heap.size, 0, none⟩) varL from Sl.new wr.drew (rcs edgC varL) 35 3 10 rfl wr.heap.size rfl)
          have HBL := hst.below
          clear hst hss
          go_wp2_with fail
          refine wp_region_noPanic ?_
          refine wp_region_held_drew (S := (fun w' => w'.cell? ⟨w1.heap.size, 1, none⟩ = some (.slice (some ⟨bm, om, none⟩) 5 c) ∧ w'.cell? ⟨bm, om, none⟩ = some (.int .i64 0) ∧ w'.cell? ⟨bm, om + 1, none⟩ = some (.int .i64 1) ∧ w'.cell? ⟨bm, om + 2, none⟩ = some (.int .i64 4) ∧ w'.cell? ⟨bm, om + 12, none⟩ = some (.int .i64 4) ∧ w'.cell? ⟨bm, om + 13, none⟩ = some (.int .i64 4) ∧ w'.cell? ⟨bm, om + 14, none⟩ = some (.int .i64 7))) (by kernel_rfl) ?_ (fun hHeld => ?_)
          · exact HSS.out _ (below_drewN (Below.refl _ _) 1)
          refine wpAnyH_take (i := 0) (v := ?v0g1_) rfl (by kernel_rfl) (by kernel_rfl) (by kernel_rfl) (fun _ _ _ h => h) (Or.inl ⟨by rfl, ?y0g1_⟩) (by assumption) ?r0g1_
          case y0g1_ => (intro w hSw; (try dsimp only at hSw); go_simp; try with_reducible rfl)
          change wpAnyH _ _ _ _ _ _ _ (Act.put _ (some 61) _) _; simp only [Act.put, List.setIfInBounds_toArray, List.set_cons_zero, List.set_cons_succ]
          refine wpAnyH_take (i := 1) (v := ?v1g1_) rfl (by kernel_rfl) (by kernel_rfl) (by kernel_rfl) (fun _ _ _ h => h) (Or.inl ⟨by rfl, ?y1g1_⟩) (by assumption) ?r1g1_
          case y1g1_ => (intro w hSw; (try dsimp only at hSw); go_simp; try with_reducible rfl)
          change wpAnyH _ _ _ _ _ _ _ (Act.put _ (some 62) _) _; simp only [Act.put, List.setIfInBounds_toArray, List.set_cons_zero, List.set_cons_succ]
          refine wpAnyH_take (i := 2) (v := ?v2g1_) rfl (by kernel_rfl) (by kernel_rfl) (by kernel_rfl) (fun _ _ _ h => h) (Or.inl ⟨by rfl, ?y2g1_⟩) (by assumption) ?r2g1_
          case y2g1_ => (intro w hSw; (try dsimp only at hSw); go_simp; try with_reducible rfl)
          change wpAnyH _ _ _ _ _ _ _ (Act.put _ (some 63) _) _; simp only [Act.put, List.setIfInBounds_toArray, List.set_cons_zero, List.set_cons_succ]
          refine wpAnyH_take (i := 3) (v := ?v3g1_) rfl (by kernel_rfl) (by kernel_rfl) (by kernel_rfl) (fun _ _ _ h => h) (Or.inl ⟨by rfl, ?y3g1_⟩) (by assumption) ?r3g1_
          case y3g1_ => (intro w hSw; (try dsimp only at hSw); go_simp; try with_reducible rfl)
          change wpAnyH _ _ _ _ _ _ _ (Act.put _ (some 64) _) _; simp only [Act.put, List.setIfInBounds_toArray, List.set_cons_zero, List.set_cons_succ]
          refine wpAnyH_take (i := 4) (v := ?v4g1_) rfl (by kernel_rfl) (by kernel_rfl) (by kernel_rfl) (fun _ _ _ h => h) (Or.inl ⟨by rfl, ?y4g1_⟩) (by assumption) ?r4g1_
          case y4g1_ => (intro w hSw; (try dsimp only at hSw); go_simp; try with_reducible rfl)
          change wpAnyH _ _ _ _ _ _ _ (Act.put _ (some 65) _) _; simp only [Act.put, List.setIfInBounds_toArray, List.set_cons_zero, List.set_cons_succ]
          refine wpAnyH_take (i := 5) (v := ?v5g1_) rfl (by kernel_rfl) (by kernel_rfl) (by kernel_rfl) (fun _ _ _ h => h) (Or.inl ⟨by rfl, ?y5g1_⟩) (by assumption) ?r5g1_
          case y5g1_ => (intro w hSw; (try dsimp only at hSw); go_simp; try with_reducible rfl)
          change wpAnyH _ _ _ _ _ _ _ (Act.put _ (some 66) _) _; simp only [Act.put, List.setIfInBounds_toArray, List.set_cons_zero, List.set_cons_succ]
          refine wpAnyH_take (i := 6) (v := ?v6g1_) rfl (by kernel_rfl) (by kernel_rfl) (by kernel_rfl) (fun _ _ _ h => h) (Or.inl ⟨by rfl, ?y6g1_⟩) (by assumption) ?r6g1_
          case y6g1_ => (intro w hSw; (try dsimp only at hSw); go_simp; try with_reducible rfl)
          change wpAnyH _ _ _ _ _ _ _ (Act.put _ (some 67) _) _; simp only [Act.put, List.setIfInBounds_toArray, List.set_cons_zero, List.set_cons_succ]
          refine wpAnyH_take (i := 7) (v := ?v7g1_) rfl (by kernel_rfl) (by kernel_rfl) (by kernel_rfl) (fun _ _ _ h => h) (Or.inl ⟨by rfl, ?y7g1_⟩) (by assumption) ?r7g1_
          case y7g1_ => (intro w hSw; (try dsimp only at hSw); go_simp; try with_reducible rfl)
          change wpAnyH _ _ _ _ _ _ _ (Act.put _ (some 68) _) _; simp only [Act.put, List.setIfInBounds_toArray, List.set_cons_zero, List.set_cons_succ]
          refine wpAnyH_take (i := 8) (v := ?v8g1_) rfl (by kernel_rfl) (by kernel_rfl) (by kernel_rfl) (fun _ _ _ h => h) (Or.inl ⟨by rfl, ?y8g1_⟩) (by assumption) ?r8g1_
          case y8g1_ => (intro w hSw; (try dsimp only at hSw); go_simp; try with_reducible rfl)
          change wpAnyH _ _ _ _ _ _ _ (Act.put _ (some 69) _) _; simp only [Act.put, List.setIfInBounds_toArray, List.set_cons_zero, List.set_cons_succ]
          refine wpAnyH_take (i := 9) (v := ?v9g1_) rfl (by kernel_rfl) (by kernel_rfl) (by kernel_rfl) (fun _ _ _ h => h) (Or.inl ⟨by rfl, ?y9g1_⟩) (by assumption) ?r9g1_
          case y9g1_ => (intro w hSw; (try dsimp only at hSw); go_simp; try with_reducible rfl)
          change wpAnyH _ _ _ _ _ _ _ (Act.put _ (some 70) _) _; simp only [Act.put, List.setIfInBounds_toArray, List.set_cons_zero, List.set_cons_succ]
          refine wpAnyH_take (i := 10) (v := ?v10g1_) rfl (by kernel_rfl) (by kernel_rfl) (by kernel_rfl) (fun _ _ _ h => h) (Or.inl ⟨by rfl, ?y10g1_⟩) (by assumption) ?r10g1_
          case y10g1_ => (intro w hSw; (try dsimp only at hSw); go_simp; try with_reducible rfl)
          change wpAnyH _ _ _ _ _ _ _ (Act.put _ (some 71) _) _; simp only [Act.put, List.setIfInBounds_toArray, List.set_cons_zero, List.set_cons_succ]
          refine wpAnyH_take (i := 11) (v := ?v11g1_) rfl (by kernel_rfl) (by kernel_rfl) (by kernel_rfl) (fun _ _ _ h => h) (Or.inl ⟨by rfl, ?y11g1_⟩) (by assumption) ?r11g1_
          case y11g1_ => (intro w hSw; (try dsimp only at hSw); go_simp; try with_reducible rfl)
          change wpAnyH _ _ _ _ _ _ _ (Act.put _ (some 72) _) _; simp only [Act.put, List.setIfInBounds_toArray, List.set_cons_zero, List.set_cons_succ]
          refine wpAnyH_take (i := 12) (v := ?v12g1_) rfl (by kernel_rfl) (by kernel_rfl) (by kernel_rfl) (fun _ _ _ h => h) (Or.inl ⟨by rfl, ?y12g1_⟩) (by assumption) ?r12g1_
          case y12g1_ => (intro w hSw; (try dsimp only at hSw); go_simp; try with_reducible rfl)
          change wpAnyH _ _ _ _ _ _ _ (Act.put _ (some 73) _) _; simp only [Act.put, List.setIfInBounds_toArray, List.set_cons_zero, List.set_cons_succ]
          refine wpAnyH_take (i := 13) (v := ?v13g1_) rfl (by kernel_rfl) (by kernel_rfl) (by kernel_rfl) (fun _ _ _ h => h) (Or.inl ⟨by rfl, ?y13g1_⟩) (by assumption) ?r13g1_
          case y13g1_ => (intro w hSw; (try dsimp only at hSw); go_simp; try with_reducible rfl)
          change wpAnyH _ _ _ _ _ _ _ (Act.put _ (some 74) _) _; simp only [Act.put, List.setIfInBounds_toArray, List.set_cons_zero, List.set_cons_succ]
          refine wpAnyH_take (i := 14) (v := ?v14g1_) rfl (by kernel_rfl) (by kernel_rfl) (by kernel_rfl) (fun _ _ _ h => h) (Or.inl ⟨by rfl, ?y14g1_⟩) (by assumption) ?r14g1_
          case y14g1_ => (intro w hSw; (try dsimp only at hSw); go_simp; try with_reducible rfl)
          change wpAnyH _ _ _ _ _ _ _ (Act.put _ (some 75) _) _; simp only [Act.put, List.setIfInBounds_toArray, List.set_cons_zero, List.set_cons_succ]
          refine wpAnyH_take (i := 15) (v := ?v15g1_) rfl (by kernel_rfl) (by kernel_rfl) (by kernel_rfl) (fun _ _ _ h => h) (Or.inl ⟨by rfl, ?y15g1_⟩) (by assumption) ?r15g1_
          case y15g1_ => (intro w hSw; (try dsimp only at hSw); go_simp; try with_reducible rfl)
          change wpAnyH _ _ _ _ _ _ _ (Act.put _ (some 76) _) _; simp only [Act.put, List.setIfInBounds_toArray, List.set_cons_zero, List.set_cons_succ]
          refine wpAnyH_take (i := 18) (v := ?v18g1_) rfl (by kernel_rfl) (by kernel_rfl) (by kernel_rfl) (fun _ _ _ h => h) (Or.inl ⟨by rfl, ?y18g1_⟩) (by assumption) ?r18g1_
          case y18g1_ => (intro w hSw; (try dsimp only at hSw); go_simp; try with_reducible rfl)
          change wpAnyH _ _ _ _ _ _ _ (Act.put _ (some 79) _) _; simp only [Act.put, List.setIfInBounds_toArray, List.set_cons_zero, List.set_cons_succ]
          refine wpAnyH_ready (rs := [16]) (by kernel_rfl) (by simp) ?_
          refine AllReadyH.cons rfl (fun K hK => ?_) AllReadyH.nil
          go_simp
          refine hK.out _ _ ?_ (fun hHeld => ?_)
          · exact HSS.out _ ((below_drewN (Below.refl _ _) 1).alloc (Nat.le_refl _) _)
          clear hK K
          try simp only [Act.put, List.setIfInBounds_toArray, List.set_cons_zero, List.set_cons_succ]
          refine wpAnyH_take (i := 17) (v := ?v17g1_) rfl (by kernel_rfl) (by kernel_rfl) (by kernel_rfl) (fun _ _ _ h => h) (Or.inl ⟨by rfl, ?y17g1_⟩) (by assumption) ?r17g1_
          case y17g1_ => (intro w hSw; (try dsimp only at hSw); go_simp; try with_reducible rfl)
          change wpAnyH _ _ _ _ _ _ _ (Act.put _ (some 78) _) _; simp only [Act.put, List.setIfInBounds_toArray, List.set_cons_zero, List.set_cons_succ]
          refine wpAnyH_done (by kernel_rfl) ?_ _
          refine NoPanic.normal ?_
          go_wp2
          go_loopg [79] 10 (fun gf vi wx => ∃ j : Nat, vi = .int .i64 j ∧ j + gf = 10 ∧ KnS w wx w1.heap.size (some ⟨bm, om, none⟩) c ∧ Rs edgC 3 wx (some ⟨wr.heap.size, 0, none⟩) varL)
          case atStart => exact ⟨0, rfl, by omega, HIN.out, HVS.out⟩
          case round =>
            clear HIN HVS HSS g1
            obtain ⟨j, rfl, hj, hst, hvs⟩ := hrel
            cases gk with
            | zero =>
              obtain rfl : j = 10 := by omega
              have HST := Lib.hid hst
              clear hst hvs
              go_wp2
              go_roundg gf
              case measure => omega
              case rel => exact ⟨k + 1, by go_num, by omega, HST.out⟩
            | succ gf2 =>
              have hjI : (j : Int) < 10 := by omega
              have hjN : j < varL.length := by show j < 10; omega
              obtain ⟨gv, ov, x, hAv, hgv, hx, x1, x2, x3⟩ := edg_at hvs (i := j) hjN
              injection hAv with hAv
              injection hAv with e1 e2 _
              subst e1 e2
              simp only [Nat.zero_add] at x1 x2 x3
              have hS2 : KnS w ((wr.alloc (.cells #[.int .i64 x.1, .int .i64 x.2.1, .int .i64 x.2.2] 35)).alloc (.cells #[.int .i64 6, .slice none 0 0] 25)) w1.heap.size (some ⟨bm, om, none⟩) c := (hst.alloc _).alloc _
              have hz2 : ((wr.alloc (.cells #[.int .i64 x.1, .int .i64 x.2.1, .int .i64 x.2.2] 35)).alloc (.cells #[.int .i64 6, .slice none 0 0] 25)).heap.size = wr.heap.size + 2 := by simp
              have m1 := hS2.cells.1
              have HRD := Lib.hid hS2.rs.rd
              have HS2 := Lib.hid hS2
              have HST0 := Lib.hid hst; have HVS0 := Lib.hid hvs
              have HVS := Lib.hid ((hvs.alloc (.cells #[.int .i64 x.1, .int .i64 x.2.1, .int .i64 x.2.2] 35)).alloc (.cells #[.int .i64 6, .slice none 0 0] 25))
              have heb := (Blk.new wr 35 #[.int .i64 x.1, .int .i64 x.2.1, .int .i64 x.2.2]).alloc (.cells #[.int .i64 6, .slice none 0 0] 25)
              have hgb := Blk.new (wr.alloc (.cells #[.int .i64 x.1, .int .i64 x.2.1, .int .i64 x.2.2] 35)) 25 #[.int .i64 6, .slice none 0 0]
              rw [show (wr.alloc (.cells #[.int .i64 x.1, .int .i64 x.2.1, .int .i64 x.2.2] 35)).heap.size = wr.heap.size + 1 by simp] at hgb
              have HEB := Lib.hid heb; have HGB := Lib.hid hgb
              have hq : ∀ w5 : World, Below ((wr.alloc (.cells #[.int .i64 x.1, .int .i64 x.2.1, .int .i64 x.2.2] 35)).alloc (.cells #[.int .i64 6, .slice none 0 0] 25)).heap.size ((wr.alloc (.cells #[.int .i64 x.1, .int .i64 x.2.1, .int .i64 x.2.2] 35)).alloc (.cells #[.int .i64 6, .slice none 0 0] 25)) w5 → w5.cell? ⟨wr.heap.size + 1, 1, none⟩ = some (.slice none 0 0) ∧ w5.frozen? ⟨wr.heap.size + 1, 1, none⟩ = false := fun w5 hb5 => ⟨(hgb.below hb5 (by rw [hz2]; omega)).cell 1, (hgb.below hb5 (by rw [hz2]; omega)).frozen 1⟩
              have HQ := Lib.hid hq
              have HZ2 := Lib.hid hz2
              have hle2 : wr.heap.size + 2 ≤ ((wr.alloc (.cells #[.int .i64 x.1, .int .i64 x.2.1, .int .i64 x.2.2] 35)).alloc (.cells #[.int .i64 6, .slice none 0 0] 25)).heap.size := by rw [hz2]; exact Nat.le_refl _
              have HLE := Lib.hid hle2
              clear hst hvs hS2 heb hgb hq hz2 hle2 hx
              go_upto_region 22 with (at_builtin; refine wpList_append_any _ rfl (.tmp 85) (.tmp 87) 23 rfl (wr.heap.size + 2) 35 i0 (.agg #[.int .i64 0, .int .i64 0, .int .i64 0]) 3 24 Tryd.underlying23 HI0.out HZ0.out hz1 hz2 rfl (by decide) (.slice none 0 0) 0 [] rfl (World.ownsRow_nil _ _ _ _) _ (some ⟨bm, om, none⟩) 5 c (rcs edgC millL) rfl HRD.out HE1.out (by unfold maxLen; omega) (by omega) HLE.out ?_; intro v3 y2 h2 h3 h4; rw [Nat.zero_add, List.nil_append] at h2; obtain ⟨g5, cap5, rfl, hg5⟩ := h2.form (by decide); have HO2 := Lib.hid h2; have HG2 := Lib.hid ((Below.refl _ _).grown h3 (Nat.le_refl _) (fun k hk => by cases hk)); obtain ⟨q1, q2⟩ := HQ.out y2 HG2.out; clear h2 h3 h4 hg5)
              have hfin := kn_fin x HST0.out HVS0.out hkN HG2.out HO2.out
              obtain ⟨y3, hy3⟩ : ∃ W, y2.setCell ⟨wr.heap.size + 1, 1, none⟩ (.slice (some ⟨g5, 0, none⟩) 5 cap5) = W := ⟨_, rfl⟩
              rw [hy3] at hfin ⊢
              obtain ⟨⟨⟨e0, e1, e2, g1⟩, ⟨r0, r1, r2, c0, c1, c2⟩, z0, z1, z2⟩, hv⟩ := hfin
              obtain ⟨M, hM⟩ : ∃ M, millL.set k x = M := ⟨_, rfl⟩
              have hMl : M.length = 5 := by rw [← hM, List.length_set]; rfl
              rw [hM] at hv
              have HV := Lib.hid hv; have HM := Lib.hid hMl
              clear hv hMl hM HG2 HO2 HQ HLE HZ2 HRD HS2 HST0 HVS0 HEB HGB q1 q2 hy3 x1 x2 x3 m1
              go_upto_region 23 with fail
              clear e0 e1 e2 g1 r0 r1 r2 c0 c1 c2 z0 z1 z2
              generalize hy4 : ((y3.setCell ⟨g5, k * 3, none⟩ (.int .i64 x.1)).setCell ⟨g5, k * 3 + 1, none⟩ (.int .i64 x.2.1)).setCell ⟨g5, k * 3 + 2, none⟩ (.int .i64 x.2.2) = y4 at HV ⊢
              clear hy4
              have HV0 := HV
              clear HV
              obtain ⟨b0, b1, e0, g0, g1⟩ := HV0.out.cells
              go_wp2_with fail
              refine (kCheck _ 6 (some ⟨g5, 0, none⟩) cap5 M HM.out HV0.out.row (firsts_below HF.out HV0.out.st.below hz)).mono ?_
              clear b0 b1 e0 g0 g1
              rintro e y1 ⟨rfl, hb1⟩
              have HV1 := Lib.hid (HV0.out.step hb1)
              clear hb1 HV0
              obtain ⟨b0, b1, e0, g0, g1⟩ := HV1.out.cells
              go_wp2_with fail
              refine (kBack _ 6 (some ⟨g5, 0, none⟩) cap5 M HM.out HV1.out.row (firsts_below HF.out HV1.out.st.below hz) ⟨#[]⟩).mono ?_
              clear b0 b1 e0 g0 g1
              rintro e y2 ⟨rfl, hb2⟩
              have HV2 := Lib.hid (HV1.out.step hb2)
              clear hb2 HV1
              obtain ⟨b0, b1, e0, g0, g1⟩ := HV2.out.cells
              go_wp2_with fail
              refine (kEdges _ 6 (some ⟨g5, 0, none⟩) cap5 M HM.out HV2.out.row (firsts_below HF.out HV2.out.st.below hz) x.1).mono ?_
              clear b0 b1 e0 g0 g1
              rintro e y3 ⟨rfl, hb3⟩
              have HV3 := Lib.hid (HV2.out.step hb3)
              clear hb3 HV2
              obtain ⟨b0, b1, e0, g0, g1⟩ := HV3.out.cells
              go_wp2_with fail
              refine (kEdges _ 6 (some ⟨g5, 0, none⟩) cap5 M HM.out HV3.out.row (firsts_below HF.out HV3.out.st.below hz) (k : Int)).mono ?_
              clear b0 b1 e0 g0 g1
              rintro e y4 ⟨rfl, hb4⟩
              have HV4 := Lib.hid (HV3.out.step hb4)
              clear hb4 HV3
              obtain ⟨b0, b1, e0, g0, g1⟩ := HV4.out.cells
              go_wp2_with fail
              refine (kSame _ 6 (some ⟨g5, 0, none⟩) cap5 M HM.out HV4.out.row (firsts_below HF.out HV4.out.st.below hz) 6 (some ⟨bm, om, none⟩) c millL rfl HV4.out.st.rs).mono ?_
              clear b0 b1 e0 g0 g1
              rintro e y5 ⟨rfl, hb5⟩
              have HV5 := Lib.hid (HV4.out.step hb5)
              clear hb5 HV4
              go_wp2
              go_roundg gf2
              case measure => omega
              case rel => exact ⟨j + 1, by go_num, by omega, HV5.out.st, HV5.out.vs⟩
    | succ gf =>
      have hiI : (i : Int) < (T.size : Int) := by omega
      have hiN : i < T.size := by omega
      have HST := Lib.hid hst
      have HIN := Lib.hid (show KnS w (wr.alloc (.cells bytC 5)) w1.heap.size (some ⟨bm, om, none⟩) c from hst.alloc _)
      have HBY := Lib.hid (Blk.new wr 5 bytC)
      clear hst
      go_wp2
      go_loopg [28] 7 (fun gf vi wx => ∃ j : Nat, vi = .int .i64 j ∧ j + gf = 7 ∧ KnS w wx w1.heap.size (some ⟨bm, om, none⟩) c ∧ Blk wx wr.heap.size 5 bytC)
      case atStart => exact ⟨0, rfl, by omega, HIN.out, HBY.out⟩
      case round =>
        clear HIN HBY HST
        obtain ⟨j, rfl, hj, hst, hby⟩ := hrel
        cases gk with
        | zero =>
          obtain rfl : j = 7 := by omega
          have HST := Lib.hid hst
          clear hst hby
          go_wp2
          go_roundg gf
          case measure => omega
          case rel => exact ⟨i + 1, by go_num, by omega, HST.out⟩
        | succ gf2 =>
          have hjI : (j : Int) < 7 := by omega
          have hjN : j < 7 := by omega
          obtain ⟨x, hx, hx0, hx1⟩ := bytC_at hjN
          have hcx := hby.cell j
          rw [hx] at hcx
          obtain ⟨C, cap, R, c0, hcv, q1, q2, hback⟩ := put_all T i hiN x hx0 hx1 wr
          have hbk1 := hback _ (Below.refl _ _)
          have hb2 : Below wr.heap.size wr (((wr.alloc (.cells C 5 (C.size, C.size + 1))).setCell ⟨wr.heap.size, i, none⟩ (.int .u8 x)).drew) := below_drewN (((Below.refl _ _).alloc (Nat.le_refl _) _).setCell (p := ⟨wr.heap.size, i, none⟩) (Nat.le_refl _) _) 1
          have HSX := Lib.hid (hst.step hb2); have HBX := Lib.hid (hby.below hb2 hby.lt)
          have HBACK := Lib.hid hback
          clear hst hby hback hx hb2
          go_wp2_with fail
          refine (lawParse_any R _ (firsts_below HF.out HSX.out.below hz)).mono ?_
          rintro e w4 ⟨rfl, hb4⟩
          have HS4 := Lib.hid (HSX.out.step hb4); have HB4 := Lib.hid (HBX.out.below hb4 HBX.out.lt)
          have hbk2 := HBACK.out w4 (hb4.mono (by simp))
          have g0 := HS4.out.box.cell 0; have g1 := HS4.out.box.cell 1
          simp only [List.getElem?_toArray, List.getElem?_cons_zero, List.getElem?_cons_succ] at g0 g1
          clear hb4 HSX HBX HBACK hcv q1 q2 hbk1 hcx
          by_cases h35 : x = 35
          · subst h35
            go_wp2_with fail
            refine (kBack _ 6 (some ⟨bm, om, none⟩) c millL rfl HS4.out.rs (firsts_below HF.out HS4.out.below hz) R).mono ?_
            clear g0 g1 hbk2
            rintro e w5 ⟨rfl, hb5⟩
            have HS5 := Lib.hid (HS4.out.step hb5); have HB5 := Lib.hid (HB4.out.below hb5 HB4.out.lt)
            clear hb5 HS4 HB4
            go_wp2
            go_roundg gf2
            case measure => omega
            case rel => exact ⟨j + 1, by go_num, by omega, HS5.out, HB5.out⟩
          · go_wp2
            go_roundg gf2
            case measure => omega
            case rel => exact ⟨j + 1, by go_num, by omega, HS4.out, HB4.out⟩
end Go.Proofs.YtknigkjbnaoldaaDoor
