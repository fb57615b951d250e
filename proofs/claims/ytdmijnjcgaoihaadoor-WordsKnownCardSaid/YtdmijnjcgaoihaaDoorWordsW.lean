/- The contracts of layer 3 in the form in which callers take them, and the walk of 'works'. -/
import Derived.Test.YtdmijnjcgaoihaaDoorWordsD
import Derived.Test.YtdmijnjcgaoihaaDoorWordsF
import Derived.Test.YtdmijnjcgaoihaaDoorWordsG
import Derived.Test.YtdmijnjcgaoihaaDoorLinesA
import Derived.Test.YtdmijnjcgaoihaaDoorLinesC
import Derived.Test.YtdmijnjcgaoihaaDoorSameTexts
namespace Go.Proofs.YtdmijnjcgaoihaaDoor
open Go.RowKit

/-- a row of strings as it is handed back -/
def Gives (l : List ByteArray) (w : World) (e : Ending) (w' : World) : Prop :=
  ∃ A c, e = .returned (.slice A l.length c) ∧ Rd w' 1 A l.length (l.map Value.string) ∧ Below w.heap.size w w'
theorem gives_of_own {l : List ByteArray} {w w' : World} {e : Ending} {v : Value} (he : e = .returned v) (ho : w'.ownsRow w.heap.size 9 1 v l.length (l.map Value.string)) (hB : Below w.heap.size w w') : Gives l w e w' := by
  obtain ⟨A, c, rfl⟩ := own_shape ho
  exact ⟨A, c, he, Rd.of_own ho, hB⟩
theorem linesP_rd (s : ByteArray) (w : World) (hs : s.size ≤ 4294967296) : Calls Tryd.prog 10 #[.string s] w (Gives (linesP s) w) :=
  (linesP_any s w hs).mono fun _ _ ⟨_, he, ho, hB⟩ => gives_of_own he ho hB
theorem linesR_rd (s : ByteArray) (w : World) (hs : s.size ≤ 4294967296) : Calls Tryd.prog 12 #[.string s] w (Gives (linesR s) w) :=
  (linesR_any s w hs).mono fun _ _ ⟨_, he, ho, hB⟩ => gives_of_own he ho hB
/-- words, or none and an error -/
def GivesW (o : Option (List ByteArray)) (w : World) (e : Ending) (w' : World) : Prop :=
  ∃ A c, e = .returned (.tuple #[.slice A (o.getD []).length c, .int .i64 (if o.isSome then 0 else 30)]) ∧ Rd w' 1 A (o.getD []).length ((o.getD []).map Value.string) ∧ Below w.heap.size w w'
theorem givesW_of {o : Option (List ByteArray)} {w w' : World} {e : Ending} (h : WPost o w e w') : GivesW o w e w' := by
  obtain ⟨v, he, ho, hB⟩ := h
  obtain ⟨A, c, rfl⟩ := own_shape ho
  exact ⟨A, c, he, Rd.of_own ho, hB⟩
theorem wordsP_rd (s : ByteArray) (w : World) (hs : s.size ≤ 4294967296) : Calls Tryd.prog 13 #[.string s] w (GivesW (wordsP s) w) :=
  (wordsP_any s w hs).mono fun _ _ h => givesW_of h
theorem wordsR_rd (s : ByteArray) (w : World) (hs : s.size ≤ 4294967296) : Calls Tryd.prog 14 #[.string s] w (GivesW (wordsR s) w) :=
  (wordsR_any s w hs).mono fun _ _ h => givesW_of h
theorem sameTexts_rd (A B : Option Addr) (n m c d : Nat) (xs ys : List ByteArray) (b : Bool) (w : World) (ha : Rd w 1 A n (xs.map Value.string)) (hb : Rd w 1 B m (ys.map Value.string)) (hn : n ≤ maxLen) (hm : m ≤ maxLen) (hd : decide (xs = ys) = b) :
    Calls Tryd.prog 11 #[.slice A n c, .slice B m d] w fun e w' => e = .returned (.bool b) ∧ Below w.heap.size w w' := by
  refine (sameTexts_any A B n m c d xs ys w ha hb hn hm).mono ?_
  rintro e w' ⟨he, q, rfl⟩
  exact ⟨by rw [he, hd], below_drewN (Below.refl _ _) q⟩
theorem number_at (s : ByteArray) (a b : Int) (w : World) (hs : s.size ≤ 4294967296) (hF : Firsts w) (h : numP (runes s) = (a, b)) :
    Calls Tryd.prog 17 #[.string s] w fun e w' => e = .returned (.tuple #[.int .i64 a, .int .i64 b]) ∧ Below w.heap.size w w' := by
  have := number_any s w (by omega) hF
  rwa [h] at this
theorem print_at (n k : Int) (s : ByteArray) (w : World) (h1 : -9223372036854775808 ≤ n) (h2 : n ≤ 9223372036854775807) (hF : Firsts w) (h : printOf n k = s) :
    Calls Tryd.prog 19 #[.int .i64 n, .int .i64 k] w fun e w' => e = .returned (.string s) ∧ Below w.heap.size w w' := by
  refine (print_any n k w h1 h2 hF).mono ?_
  rintro e w' ⟨he, q, rfl⟩
  exact ⟨by rw [he, h], below_drewN (Below.refl _ _) q⟩
/-- a row of strings that was just laid -/
theorem rd_new (w : World) (l : List ByteArray) (t : TypeId) (g : Nat) (hg : w.heap.size = g) : Rd (w.alloc (.cells (l.map Value.string).toArray t)) 1 (some ⟨g, 0, none⟩) l.length (l.map Value.string) := by
  refine ⟨by simp, fun _ => ⟨_, rfl, by simp [← hg], fun j u hu => ?_⟩⟩
  exact cells_new w _ t g hg j u hu

theorem w1 : linesP ⟨#[97, 13, 10, 10, 98]⟩ = [⟨#[97]⟩, ⟨#[]⟩, ⟨#[98]⟩] := by decide +kernel
theorem w2 : wordsP ⟨#[32, 97, 194, 160, 98, 32, 35, 32, 99]⟩ = some [⟨#[97]⟩, ⟨#[98]⟩] := by decide +kernel
theorem w3 : numP (runes ⟨#[49, 50]⟩) = (12, 0) := by decide +kernel
theorem w4 : numP (runes ⟨#[217, 161, 217, 162]⟩) = (12, 0) := by decide +kernel
theorem w5 : numP (runes ⟨#[217, 161, 50]⟩) = (0, 30) := by decide +kernel
theorem w6 : numP (runes ⟨#[48, 49]⟩) = (0, 30) := by decide +kernel
theorem w7 : numP (runes ⟨#[]⟩) = (0, 30) := by decide +kernel
theorem w8 : numP (runes ⟨#[52, 54, 49, 49, 54, 56, 54, 48, 49, 56, 52, 50, 55, 51, 56, 55, 57, 48, 53]⟩) = (0, 50) := by decide +kernel
theorem w9 : printOf 12 0 = ⟨#[49, 50]⟩ := by decide +kernel

set_option maxRecDepth 100000 in
set_option maxHeartbeats 2000000 in
theorem works_any (w : World) (hF : Firsts w) : Calls Tryd.prog 9 #[] w fun e w' => e = .returned (.bool true) ∧ Below w.heap.size w w' := by
  have hB := Below.refl w.heap.size w
  have hz := firsts_lt hF
  go_enter Tryd.func9, Tryd.ntmps9
  go_wp2_with fail
  refine (linesP_rd _ w (by decide)).mono ?_
  rw [w1]
  rintro e x1 ⟨A1, c1, rfl, hr1, hb1⟩
  have hB1 := hB.trans hb1
  clear hB hb1
  go_wp2_with fail
  refine (wordsP_rd _ x1 (by decide)).mono ?_
  rw [w2]
  rintro e x2 ⟨A2, c2, rfl, hr2, hb2⟩
  have hr1' := hr1.below hb2
  have hB2 := hB1.trans (hb2.mono hB1.size)
  clear hr1 hb2 hB1
  simp only [Option.getD_some, Option.isSome_some, if_true]
  go_wp2_with fail
  refine (number_at _ 12 0 x2 (by decide) (firsts_below hF hB2 hz) w3).mono ?_
  rintro e x3 ⟨rfl, hb3⟩
  have hr1' := hr1'.below hb3
  have hr2 := hr2.below hb3
  have hB3 := hB2.trans (hb3.mono hB2.size)
  clear hb3 hB2
  go_wp2_with fail
  refine (number_at _ 12 0 x3 (by decide) (firsts_below hF hB3 hz) w4).mono ?_
  rintro e x4 ⟨rfl, hb4⟩
  have hr1' := hr1'.below hb4
  have hr2 := hr2.below hb4
  have hB4 := hB3.trans (hb4.mono hB3.size)
  clear hb4 hB3
  go_wp2_with fail
  refine (number_at _ 0 30 x4 (by decide) (firsts_below hF hB4 hz) w5).mono ?_
  rintro e x5 ⟨rfl, hb5⟩
  have hr1' := hr1'.below hb5
  have hr2 := hr2.below hb5
  have hB5 := hB4.trans (hb5.mono hB4.size)
  clear hb5 hB4
  go_wp2_with fail
  refine (number_at _ 0 30 x5 (by decide) (firsts_below hF hB5 hz) w6).mono ?_
  rintro e x6 ⟨rfl, hb6⟩
  have hr1' := hr1'.below hb6
  have hr2 := hr2.below hb6
  have hB6 := hB5.trans (hb6.mono hB5.size)
  clear hb6 hB5
  go_wp2_with fail
  refine (number_at _ 0 30 x6 (by decide) (firsts_below hF hB6 hz) w7).mono ?_
  rintro e x7 ⟨rfl, hb7⟩
  have hr1' := hr1'.below hb7
  have hr2 := hr2.below hb7
  have hB7 := hB6.trans (hb7.mono hB6.size)
  clear hb7 hB6
  go_wp2_with fail
  refine (number_at _ 0 50 x7 (by decide) (firsts_below hF hB7 hz) w8).mono ?_
  rintro e x8 ⟨rfl, hb8⟩
  have hr1' := hr1'.below hb8
  have hr2 := hr2.below hb8
  have hB8 := hB7.trans (hb8.mono hB7.size)
  clear hb8 hB7
  have hn1 := rd_new x8 [⟨#[97]⟩, ⟨#[]⟩, ⟨#[98]⟩] 9 _ rfl
  have hr1a := hr1'.alloc (.cells ([(⟨#[97]⟩ : ByteArray), ⟨#[]⟩, ⟨#[98]⟩].map Value.string).toArray 9)
  have hr2a := hr2.alloc (.cells ([(⟨#[97]⟩ : ByteArray), ⟨#[]⟩, ⟨#[98]⟩].map Value.string).toArray 9)
  have hBa := hB8.alloc hB8.size (.cells ([(⟨#[97]⟩ : ByteArray), ⟨#[]⟩, ⟨#[98]⟩].map Value.string).toArray 9)
  go_wp2_with fail
  refine (sameTexts_rd _ _ _ _ _ _ _ _ true _ hr1a hn1 (by unfold maxLen; decide) (by unfold maxLen; decide) (by decide +kernel)).mono ?_
  rintro e x9 ⟨rfl, hb9⟩
  have hr2b := hr2a.below hb9
  have hB9 := hBa.trans (hb9.mono hBa.size)
  have hn2 := rd_new x9 [⟨#[97]⟩, ⟨#[98]⟩] 9 _ rfl
  have hr2c := hr2b.alloc (.cells ([(⟨#[97]⟩ : ByteArray), ⟨#[98]⟩].map Value.string).toArray 9)
  have hBb := hB9.alloc hB9.size (.cells ([(⟨#[97]⟩ : ByteArray), ⟨#[98]⟩].map Value.string).toArray 9)
  clear hn1 hr1a hr2 hr2a hr2b hb9 hBa hB9 hB8 hr1'
  go_wp2_with fail
  refine (sameTexts_rd _ _ _ _ _ _ _ _ true _ hr2c hn2 (by unfold maxLen; decide) (by unfold maxLen; decide) (by decide +kernel)).mono ?_
  rintro e x10 ⟨rfl, hb10⟩
  have hB10 := hBb.trans (hb10.mono hBb.size)
  clear hn2 hr2c hb10 hBb
  go_wp2_with fail
  refine (print_at 12 0 _ x10 (by omega) (by omega) (firsts_below hF hB10 hz) w9).mono ?_
  rintro e x11 ⟨rfl, hb11⟩
  have hB11 := hB10.trans (hb11.mono hB10.size)
  clear hb11 hB10
  go_wp2_with fail
  refine (digitW 55 x11 (by omega) (by omega) (firsts_below hF hB11 hz)).mono ?_
  rintro e x12 ⟨rfl, rfl⟩
  have hd : digitOf 55 = 7 := by decide
  go_wp2
  go_ret
  exact ⟨rfl, hB11⟩
end Go.Proofs.YtdmijnjcgaoihaaDoor
