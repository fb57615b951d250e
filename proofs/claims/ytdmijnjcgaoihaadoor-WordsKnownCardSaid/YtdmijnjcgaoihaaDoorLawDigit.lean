/- WordsDigit: of any rune the program tells the digit that the document says. -/
import Derived.Test.YtdmijnjcgaoihaaDoorWordsW
namespace Go.Proofs.YtdmijnjcgaoihaaDoor
open Go.RowKit

set_option maxHeartbeats 1000000 in
theorem lawDigit_any (r : Int) (w : World) (h1 : -2147483648 ≤ r) (h2 : r ≤ 2147483647) (hF : Firsts w) :
    Calls Tryd.prog 5 #[.int .i32 r] w fun e w' => e = .returned (.bool true) ∧ Below w.heap.size w w' := by
  have hB := Below.refl w.heap.size w
  have hz := firsts_lt hF
  go_enter Tryd.func5, Tryd.ntmps5
  go_wp2_with fail
  refine (digitW r w h1 h2 hF).mono ?_
  rintro e x1 ⟨rfl, rfl⟩
  go_wp2_with fail
  refine (digitR r w h1 h2).mono ?_
  rintro e x2 ⟨rfl, hb2⟩
  have hB2 := hB.trans (hb2.mono hB.size)
  clear hB hb2
  go_wp2_with fail
  refine (works_any x2 (firsts_below hF hB2 hz)).mono ?_
  rintro e x3 ⟨rfl, hb3⟩
  have hB3 := hB2.trans (hb3.mono hB2.size)
  go_wp2
  go_ret
  exact ⟨rfl, hB3⟩
end Go.Proofs.YtdmijnjcgaoihaaDoor
