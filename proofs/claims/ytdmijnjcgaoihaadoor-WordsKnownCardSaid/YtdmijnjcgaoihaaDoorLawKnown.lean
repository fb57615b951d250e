/- WordsKnown: the closed statement of layer 3. -/
import Derived.Test.YtdmijnjcgaoihaaDoorLawLines
import Derived.Test.YtdmijnjcgaoihaaDoorLawWords
import Derived.Test.YtdmijnjcgaoihaaDoorLawPrint
import Derived.Test.YtdmijnjcgaoihaaDoorLawDigit
namespace Go.Proofs.YtdmijnjcgaoihaaDoor
open Go.RowKit

theorem one_byte (i : Nat) : (strOfNums [(i : Int)]).size = 1 := by
  unfold strOfNums
  rw [Lib.size_eq]; simp
theorem rd_vals (w : World) (l : List Value) (t : TypeId) (g : Nat) (hg : w.heap.size = g) : Rd (w.alloc (.cells l.toArray t)) 1 (some ⟨g, 0, none⟩) l.length l := by
  refine ⟨by simp, fun _ => ⟨_, rfl, by simp [← hg], fun j u hu => ?_⟩⟩
  exact cells_new w _ t g hg j u hu
theorem app_size (a c : ByteArray) (n : Nat) (h : a.size + c.size = n) : (a ++ c).size = n := by rw [ByteArray.size_append]; exact h
set_option maxRecDepth 100000 in
set_option maxHeartbeats 4000000 in
theorem lawKnown_any (w : World) (hF : Firsts w) :
    Calls Tryd.prog 8 #[] w fun e w' => e = .returned (.bool true) ∧ Below w.heap.size w w' := by
  have hB := Below.refl w.heap.size w
  have hz := firsts_lt hF
  go_enter Tryd.func8, Tryd.ntmps8
  go_wp2_with fail
  go_loopg [1] 256 (fun gf v wr => ∃ (i : Nat), v = .int .i64 i ∧ i + gf = 256 ∧ Below w.heap.size w wr)
  case atStart => exact ⟨0, rfl, rfl, hB⟩
  case round =>
    obtain ⟨i, rfl, hi, hBr⟩ := hrel
    cases gk with
    | zero =>
      obtain rfl : i = 256 := by omega
      obtain ⟨RL, hRL⟩ : ∃ RL : List Int, RL = [-1, 0, 47, 48, 57, 58, 159, 160, 161, 1631, 1632, 1633, 1641, 1642, 65295, 65296, 65305, 65306, 65533, 1114111, 127, 128, 8232] := ⟨_, rfl⟩
      have hrl : RL.length = 23 := by rw [hRL]; rfl
      have hrb : ∀ r ∈ RL, -2147483648 ≤ r ∧ r ≤ 2147483647 := by rw [hRL]; decide
      have hr0 := rd_vals wr (RL.map (Value.int .i32)) 21 wr.heap.size rfl
      have hB2 := hBr.alloc hBr.size (.cells (RL.map (Value.int .i32)).toArray 21)
      rw [List.length_map, hrl] at hr0
      have hWe : (.cells (RL.map (Value.int .i32)).toArray 21 : Obj) = .cells #[.int .i32 (-1), .int .i32 0, .int .i32 47, .int .i32 48, .int .i32 57, .int .i32 58, .int .i32 159, .int .i32 160, .int .i32 161, .int .i32 1631, .int .i32 1632, .int .i32 1633, .int .i32 1641, .int .i32 1642, .int .i32 65295, .int .i32 65296, .int .i32 65305, .int .i32 65306, .int .i32 65533, .int .i32 1114111, .int .i32 127, .int .i32 128, .int .i32 8232] 21 := by rw [hRL]; rfl
      go_wp2_with fail
      rw [← hWe]
      clear hWe hRL
      generalize (wr.alloc (.cells (RL.map (Value.int .i32)).toArray 21)) = W2 at *
      generalize (⟨wr.heap.size, 0, none⟩ : Addr) = A0 at *
      go_loopg [67] 23 (fun gf v wr' => ∃ (k : Nat), v = .int .i64 k ∧ k + gf = 23 ∧ Below w.heap.size w wr' ∧ Below W2.heap.size W2 wr')
      case atStart => exact ⟨0, rfl, rfl, hB2, Below.refl _ _⟩
      case round =>
        obtain ⟨k, rfl, hk, hBk, hBw⟩ := hrel
        have hrk := hr0.below hBw
        have hFk := firsts_below hF hBk hz
        cases gk with
        | zero =>
          obtain rfl : k = 23 := by omega
          clear hr0 hrb hrl hBr hB2 hBw hrk
          obtain ⟨NL, hNL⟩ : ∃ NL : List Int, NL = [0, 1, 9, 10, 99, 100, 4611686018427387904, 4611686018427387905, 9223372036854775807, -1, -9223372036854775808, 4611686018427387899] := ⟨_, rfl⟩
          have hnl : NL.length = 12 := by rw [hNL]; rfl
          have hnb : ∀ r ∈ NL, -9223372036854775808 ≤ r ∧ r ≤ 9223372036854775807 := by rw [hNL]; decide
          have hn0 := rd_vals wr (NL.map (Value.int .i64)) 2 wr.heap.size rfl
          have hC2 := hBk.alloc hBk.size (.cells (NL.map (Value.int .i64)).toArray 2)
          rw [List.length_map, hnl] at hn0
          have hNe : (.cells (NL.map (Value.int .i64)).toArray 2 : Obj) = .cells #[.int .i64 0, .int .i64 1, .int .i64 9, .int .i64 10, .int .i64 99, .int .i64 100, .int .i64 4611686018427387904, .int .i64 4611686018427387905, .int .i64 9223372036854775807, .int .i64 (-1), .int .i64 (-9223372036854775808), .int .i64 4611686018427387899] 2 := by rw [hNL]; rfl
          go_wp2_with fail
          rw [← hNe]
          clear hNe hNL
          generalize (wr.alloc (.cells (NL.map (Value.int .i64)).toArray 2)) = W3 at *
          generalize (⟨wr.heap.size, 0, none⟩ : Addr) = A1 at *
          go_loopg [118] 12 (fun gf v wr' => ∃ (k : Nat), v = .int .i64 k ∧ k + gf = 12 ∧ Below w.heap.size w wr' ∧ Below W3.heap.size W3 wr')
          case atStart => exact ⟨0, rfl, rfl, hC2, Below.refl _ _⟩
          case round =>
            obtain ⟨k, rfl, hk, hBk, hBw⟩ := hrel
            have hrk := hn0.below hBw
            cases gk with
            | zero =>
              obtain rfl : k = 12 := by omega
              clear hn0 hnb hnl hC2 hBw hrk
              obtain ⟨SL, hSL⟩ : ∃ SL : List ByteArray, SL = [⟨#[]⟩, ⟨#[48, 48]⟩, ⟨#[48, 49]⟩, ⟨#[48]⟩, ⟨#[52, 54, 49, 49, 54, 56, 54, 48, 49, 56, 52, 50, 55, 51, 56, 55, 57, 48, 52]⟩, ⟨#[52, 54, 49, 49, 54, 56, 54, 48, 49, 56, 52, 50, 55, 51, 56, 55, 57, 48, 53]⟩, ⟨#[52, 54, 49, 49, 54, 56, 54, 48, 49, 56, 52, 50, 55, 51, 56, 55, 57, 48, 52, 48]⟩, ⟨#[57, 57, 57, 57, 57, 57, 57, 57, 57, 57, 57, 57, 57, 57, 57, 57, 57, 57, 57, 57, 57, 57, 57, 57, 57, 57]⟩, ⟨#[48, 48, 48, 48, 48, 48, 48, 48, 48, 48, 48, 48, 48, 48, 48, 48, 48, 48, 48, 48, 48, 48, 49]⟩, ⟨#[43, 49]⟩, ⟨#[45, 49]⟩, ⟨#[49, 46, 48]⟩, ⟨#[217, 161, 32, 50]⟩, ⟨#[217, 160, 217, 161]⟩, ⟨#[239, 188, 148, 239, 188, 150]⟩] := ⟨_, rfl⟩
              have hsl : SL.length = 15 := by rw [hSL]; rfl
              have hs0 := rd_vals wr (SL.map Value.string) 9 wr.heap.size rfl
              have hD2 := hBk.alloc hBk.size (.cells (SL.map Value.string).toArray 9)
              rw [List.length_map, hsl] at hs0
              have hSe : (.cells (SL.map Value.string).toArray 9 : Obj) = .cells #[.string ⟨#[]⟩, .string ⟨#[48, 48]⟩, .string ⟨#[48, 49]⟩, .string ⟨#[48]⟩, .string ⟨#[52, 54, 49, 49, 54, 56, 54, 48, 49, 56, 52, 50, 55, 51, 56, 55, 57, 48, 52]⟩, .string ⟨#[52, 54, 49, 49, 54, 56, 54, 48, 49, 56, 52, 50, 55, 51, 56, 55, 57, 48, 53]⟩, .string ⟨#[52, 54, 49, 49, 54, 56, 54, 48, 49, 56, 52, 50, 55, 51, 56, 55, 57, 48, 52, 48]⟩, .string ⟨#[57, 57, 57, 57, 57, 57, 57, 57, 57, 57, 57, 57, 57, 57, 57, 57, 57, 57, 57, 57, 57, 57, 57, 57, 57, 57]⟩, .string ⟨#[48, 48, 48, 48, 48, 48, 48, 48, 48, 48, 48, 48, 48, 48, 48, 48, 48, 48, 48, 48, 48, 48, 49]⟩, .string ⟨#[43, 49]⟩, .string ⟨#[45, 49]⟩, .string ⟨#[49, 46, 48]⟩, .string ⟨#[217, 161, 32, 50]⟩, .string ⟨#[217, 160, 217, 161]⟩, .string ⟨#[239, 188, 148, 239, 188, 150]⟩] 9 := by rw [hSL]; rfl
              go_wp2_with fail
              rw [← hSe]
              clear hSe hSL
              generalize (wr.alloc (.cells (SL.map Value.string).toArray 9)) = W4 at *
              generalize (⟨wr.heap.size, 0, none⟩ : Addr) = A2 at *
              go_loopg [133] 15 (fun gf v wr' => ∃ (k : Nat), v = .int .i64 k ∧ k + gf = 15 ∧ Below w.heap.size w wr' ∧ Below W4.heap.size W4 wr')
              case atStart => exact ⟨0, rfl, rfl, hD2, Below.refl _ _⟩
              case round =>
                obtain ⟨k, rfl, hk, hBq, hBw⟩ := hrel
                have hrk := hs0.below hBw
                have hFq := firsts_below hF hBq hz
                cases gk with
                | zero =>
                  obtain rfl : k = 15 := by omega
                  clear hs0 hsl hD2 hBw hrk
                  go_wp2_with fail
                  refine (lawLines_any _ wr (firsts_below hF hBq hz)).mono ?_
                  rintro e z1 ⟨rfl, hc1⟩
                  have hBz1 := hBq.trans (hc1.mono hBq.size)
                  clear hc1 hBq
                  go_wp2_with fail
                  refine (lawLines_any _ z1 (firsts_below hF hBz1 hz)).mono ?_
                  rintro e z2 ⟨rfl, hc2⟩
                  have hBz2 := hBz1.trans (hc2.mono hBz1.size)
                  clear hc2 hBz1
                  go_wp2_with fail
                  refine (lawLines_any _ z2 (firsts_below hF hBz2 hz)).mono ?_
                  rintro e z3 ⟨rfl, hc3⟩
                  have hBz3 := hBz2.trans (hc3.mono hBz2.size)
                  clear hc3 hBz2
                  go_wp2_with fail
                  refine (lawLines_any _ z3 (firsts_below hF hBz3 hz)).mono ?_
                  rintro e z4 ⟨rfl, hc4⟩
                  have hBz4 := hBz3.trans (hc4.mono hBz3.size)
                  clear hc4 hBz3
                  go_wp2_with fail
                  refine (works_any z4 (firsts_below hF hBz4 hz)).mono ?_
                  rintro e z5 ⟨rfl, hc5⟩
                  go_wp2
                  go_ret
                  exact ⟨rfl, hBz4.trans (hc5.mono hBz4.size)⟩
                | succ gf3 =>
                  obtain ⟨ad, u, hae, hx, hc⟩ := hrk.at_ (k := k) (by omega)
                  injection hae with hae
                  subst hae
                  rw [List.getElem?_map, Option.map_eq_some_iff] at hx
                  obtain ⟨x, hx, rfl⟩ := hx
                  clear hx
                  go_wp2_with fail
                  refine (lawNumber_any x wr hFq).mono ?_
                  rintro e y1 ⟨rfl, hb1⟩
                  have hBq1 := hBq.trans (hb1.mono hBq.size)
                  have hBw1 := hBw.trans (hb1.mono hBw.size)
                  go_wp2_with fail
                  go_roundg gf3
                  case measure => omega
                  case rel => exact ⟨k + 1, by go_num, by omega, hBq1, hBw1⟩
            | succ gf3 =>
              obtain ⟨ad, u, hae, hx, hc⟩ := hrk.at_ (k := k) (by omega)
              injection hae with hae
              subst hae
              rw [List.getElem?_map, Option.map_eq_some_iff] at hx
              obtain ⟨n, hx, rfl⟩ := hx
              have hn := hnb n (List.mem_of_getElem? hx)
              clear hx
              go_wp2_with fail
              rw [show decide ((k : Int) < 12) = true by simp; omega]
              go_loopg [10] 5 (fun gf v wr' => ∃ (j : Nat), v = .int .i64 ((j : Int) - 1) ∧ j + gf = 5 ∧ Below w.heap.size w wr' ∧ Below W3.heap.size W3 wr')
              case atStart => exact ⟨0, rfl, rfl, hBk, hBw⟩
              case round =>
                obtain ⟨j, rfl, hj, hBj, hBv⟩ := hrel
                have hFj := firsts_below hF hBj hz
                cases gk with
                | zero =>
                  obtain rfl : j = 5 := by omega
                  go_wp2_with fail
                  go_roundg gf3
                  case measure => omega
                  case rel => exact ⟨k + 1, by go_num, by omega, hBj, hBv⟩
                | succ gf4 =>
                  go_wp2_with fail
                  refine (lawPrint_any n _ wr hn.1 hn.2 hFj).mono ?_
                  rintro e y1 ⟨rfl, hb1⟩
                  have hBj1 := hBj.trans (hb1.mono hBj.size)
                  have hBv1 := hBv.trans (hb1.mono hBv.size)
                  go_wp2_with fail
                  go_roundg gf4
                  case measure => omega
                  case rel => exact ⟨j + 1, by go_num, by omega, hBj1, hBv1⟩
        | succ gf2 =>
          obtain ⟨ad, u, hae, hx, hc⟩ := hrk.at_ (k := k) (by omega)
          injection hae with hae
          subst hae
          rw [List.getElem?_map, Option.map_eq_some_iff] at hx
          obtain ⟨r, hx, rfl⟩ := hx
          have hr := hrb r (List.mem_of_getElem? hx)
          have hes := encode_size_le r
          clear hx
          obtain ⟨s, hse⟩ : ∃ s, Utf8.encode r = s := ⟨_, rfl⟩
          rw [hse] at hes
          have h1 : ((⟨#[97]⟩ : ByteArray) ++ s).size ≤ 5 := by rw [ByteArray.size_append]; have : (ByteArray.mk #[97]).size = 1 := rfl; omega
          have h2 : (s ++ ⟨#[97, 32]⟩).size ≤ 6 := by rw [ByteArray.size_append]; have : (ByteArray.mk #[97, 32]).size = 2 := rfl; omega
          go_wp2_with fail
          clear hse
          refine (lawDigit_any r wr hr.1 hr.2 hFk).mono ?_
          rintro e y1 ⟨rfl, hb1⟩
          have hBk1 := hBk.trans (hb1.mono hBk.size)
          have hBw1 := hBw.trans (hb1.mono hBw.size)
          clear hb1 
          go_wp2_with fail
          refine (lawNumber_any s y1 (firsts_below hF hBk1 hz)).mono ?_
          rintro e y2 ⟨rfl, hb2⟩
          have hBk2 := hBk1.trans (hb2.mono hBk1.size)
          have hBw2 := hBw1.trans (hb2.mono hBw1.size)
          clear hb2 hBk1 hBw1
          go_wp2_with fail
          refine (lawNumber_any _ y2 (firsts_below hF hBk2 hz)).mono ?_
          rintro e y3 ⟨rfl, hb3⟩
          have hBk3 := hBk2.trans (hb3.mono hBk2.size)
          have hBw3 := hBw2.trans (hb3.mono hBw2.size)
          clear hb3 hBk2 hBw2
          go_wp2_with fail
          refine (lawNumber_any _ y3 (firsts_below hF hBk3 hz)).mono ?_
          rintro e y4 ⟨rfl, hb4⟩
          have hBk4 := hBk3.trans (hb4.mono hBk3.size)
          have hBw4 := hBw3.trans (hb4.mono hBw3.size)
          clear hb4 hBk3 hBw3
          go_wp2_with fail
          refine (lawNumber_any _ y4 (firsts_below hF hBk4 hz)).mono ?_
          rintro e y5 ⟨rfl, hb5⟩
          have hBk5 := hBk4.trans (hb5.mono hBk4.size)
          have hBw5 := hBw4.trans (hb5.mono hBw4.size)
          clear hb5 hBk4 hBw4
          go_wp2_with fail
          refine (lawWords_any _ y5 (firsts_below hF hBk5 hz)).mono ?_
          rintro e y6 ⟨rfl, hb6⟩
          have hBk6 := hBk5.trans (hb6.mono hBk5.size)
          have hBw6 := hBw5.trans (hb6.mono hBw5.size)
          clear hb6 hBk5 hBw5
          go_wp2_with fail
          refine (lawWords_any _ y6 (firsts_below hF hBk6 hz)).mono ?_
          rintro e y7 ⟨rfl, hb7⟩
          have hBk7 := hBk6.trans (hb7.mono hBk6.size)
          have hBw7 := hBw6.trans (hb7.mono hBw6.size)
          clear hb7 hBk6 hBw6
          go_wp2_with fail
          go_roundg gf2
          case measure => omega
          case rel => exact ⟨k + 1, by go_num, by omega, hBk7, hBw7⟩
    | succ gf =>
      have hFr := firsts_below hF hBr hz
      have hcell : ∀ j, j < 1 → (wr.alloc (.cells #[.int .u8 i] 5)).cell? ⟨wr.heap.size, 0 + j, none⟩ = some (.int .u8 ([(i : Int)].getD j 0)) := by
        intro j hj
        obtain rfl : j = 0 := by omega
        exact cells_new wr [.int .u8 i] 5 _ rfl 0 _ rfl
      have hcv := run_convert_bytes_arg (P := Tryd.prog) (wr.alloc (.cells #[.int .u8 i] 5)) 36 5 Tryd.underlying36 Tryd.underlying5 wr.heap.size 0 1 1 [(i : Int)] rfl hcell 9 Tryd.underlying9
      have hcs := one_byte i
      generalize strOfNums [(i : Int)] = c at *
      have h1 := app_size ⟨#[97]⟩ c 2 (by rw [hcs]; rfl)
      have h2 := app_size ⟨#[97, 32]⟩ c 3 (by rw [hcs]; rfl)
      have h3 := app_size ⟨#[13]⟩ c 2 (by rw [hcs]; rfl)
      clear hcell
      go_wp2_with fail
      have hB1 := (hBr.alloc hBr.size (.cells #[.int .u8 i] 5))
      have hr0 := rd_new (wr.alloc (.cells #[.int .u8 i] 5)) [c, ⟨#[97]⟩ ++ c ++ ⟨#[98]⟩, c ++ ⟨#[35]⟩, ⟨#[35]⟩ ++ c, ⟨#[97, 32]⟩ ++ c ++ ⟨#[32, 98]⟩, ⟨#[97]⟩ ++ c, c ++ ⟨#[10]⟩, ⟨#[13]⟩ ++ c ++ ⟨#[10, 13, 10]⟩, ⟨#[49]⟩ ++ c, ⟨#[97, 194]⟩ ++ c, ⟨#[239, 191]⟩ ++ c] 9 (wr.heap.size + 1) (by simp)
      have hB2 := hB1.alloc hB1.size (.cells ([c, ⟨#[97]⟩ ++ c ++ ⟨#[98]⟩, c ++ ⟨#[35]⟩, ⟨#[35]⟩ ++ c, ⟨#[97, 32]⟩ ++ c ++ ⟨#[32, 98]⟩, ⟨#[97]⟩ ++ c, c ++ ⟨#[10]⟩, ⟨#[13]⟩ ++ c ++ ⟨#[10, 13, 10]⟩, ⟨#[49]⟩ ++ c, ⟨#[97, 194]⟩ ++ c, ⟨#[239, 191]⟩ ++ c].map Value.string).toArray 9)
      obtain ⟨L, hL⟩ : ∃ L, L = [c, ⟨#[97]⟩ ++ c ++ ⟨#[98]⟩, c ++ ⟨#[35]⟩, ⟨#[35]⟩ ++ c, ⟨#[97, 32]⟩ ++ c ++ ⟨#[32, 98]⟩, ⟨#[97]⟩ ++ c, c ++ ⟨#[10]⟩, ⟨#[13]⟩ ++ c ++ ⟨#[10, 13, 10]⟩, ⟨#[49]⟩ ++ c, ⟨#[97, 194]⟩ ++ c, ⟨#[239, 191]⟩ ++ c] := ⟨_, rfl⟩
      have hLl : L.length = 11 := by rw [hL]; rfl
      rw [← hL] at hr0 hB2
      rw [hLl] at hr0
      have hWe : ((wr.alloc (.cells #[.int .u8 i] 5)).alloc (.cells #[.string c, .string (⟨#[97]⟩ ++ c ++ ⟨#[98]⟩), .string (c ++ ⟨#[35]⟩), .string (⟨#[35]⟩ ++ c), .string (⟨#[97, 32]⟩ ++ c ++ ⟨#[32, 98]⟩), .string (⟨#[97]⟩ ++ c), .string (c ++ ⟨#[10]⟩), .string (⟨#[13]⟩ ++ c ++ ⟨#[10, 13, 10]⟩), .string (⟨#[49]⟩ ++ c), .string (⟨#[97, 194]⟩ ++ c), .string (⟨#[239, 191]⟩ ++ c)] 9)) = (wr.alloc (.cells #[.int .u8 i] 5)).alloc (.cells (L.map Value.string).toArray 9) := by rw [hL]; rfl
      rw [hWe]
      clear hWe hcv
      generalize (wr.alloc (.cells #[.int .u8 i] 5)).alloc (.cells (L.map Value.string).toArray 9) = W2 at *
      generalize (⟨wr.heap.size + 1, 0, none⟩ : Addr) = A0 at *
      rw [show decide ((i : Int) < 256) = true by simp; omega]
      go_loopg [47] 11 (fun gf v wr' => ∃ (k : Nat), v = .int .i64 k ∧ k + gf = 11 ∧ Below w.heap.size w wr' ∧ Below W2.heap.size W2 wr')
      case atStart => exact ⟨0, rfl, rfl, hB2, Below.refl _ _⟩
      case round =>
        obtain ⟨k, rfl, hk, hBk, hBw⟩ := hrel
        have hrk := hr0.below hBw
        have hFk := firsts_below hF hBk hz
        cases gk with
        | zero =>
          obtain rfl : k = 11 := by omega
          go_wp2_with fail
          go_roundg gf
          case measure => omega
          case rel => exact ⟨i + 1, by go_num, by omega, hBk⟩
        | succ gf2 =>
          obtain ⟨ad, u, hae, hx, hc⟩ := hrk.at_ (k := k) (by omega)
          injection hae with hae
          subst hae
          rw [List.getElem?_map, Option.map_eq_some_iff] at hx
          obtain ⟨x, hx, rfl⟩ := hx
          clear hx
          go_wp2_with fail
          refine (lawLines_any x wr hFk).mono ?_
          rintro e y1 ⟨rfl, hb1⟩
          have hBk1 := hBk.trans (hb1.mono hBk.size)
          have hBw1 := hBw.trans (hb1.mono hBw.size)
          clear hb1
          go_wp2_with fail
          refine (lawWords_any x y1 (firsts_below hF hBk1 hz)).mono ?_
          rintro e y2 ⟨rfl, hb2⟩
          have hBk2 := hBk1.trans (hb2.mono hBk1.size)
          have hBw2 := hBw1.trans (hb2.mono hBw1.size)
          clear hb2 hBk1 hBw1
          go_wp2_with fail
          refine (lawNumber_any x y2 (firsts_below hF hBk2 hz)).mono ?_
          rintro e y3 ⟨rfl, hb3⟩
          have hBk3 := hBk2.trans (hb3.mono hBk2.size)
          have hBw3 := hBw2.trans (hb3.mono hBw2.size)
          clear hb3 hBk2 hBw2
          go_wp2_with fail
          go_roundg gf2
          case measure => omega
          case rel => exact ⟨k + 1, by go_num, by omega, hBk3, hBw3⟩
end Go.Proofs.YtdmijnjcgaoihaaDoor
