/- WordsLines: the lines of any text are the document's; with a byte 10 behind each, they are the same lines again. -/
import Derived.Test.YtdmijnjcgaoihaaDoorLawNumber
import Derived.Test.YtdmijnjcgaoihaaDoorLinesL
namespace Go.Proofs.YtdmijnjcgaoihaaDoor
open Go.RowKit

/-- does none of the first lines end in a byte 13? -/
def noEnd (l : List ByteArray) : Nat → Bool
  | 0 => true
  | i + 1 => noEnd l i && !end13 (l.getD i ByteArray.empty)
theorem noEnd_all (l : List ByteArray) : ∀ i, i ≤ l.length → noEnd l i = true → ∀ w ∈ l.take i, end13 w = false := by
  intro i
  induction i with
  | zero => intro _ _ w hw; simp at hw
  | succ i ih =>
    intro hi h w hw
    rw [noEnd, Bool.and_eq_true] at h
    have hg : l.getD i ByteArray.empty = l[i] := by rw [List.getD_eq_getElem?_getD, List.getElem?_eq_getElem (by omega)]; rfl
    rw [hg] at h
    rw [takeS l i (by omega)] at hw
    rcases List.mem_append.1 hw with hw | hw
    · exact ih (by omega) h.1 w hw
    · simp at hw; subst hw; simpa using h.2
theorem linesP_length (s : ByteArray) : (linesP s).length ≤ s.size + 1 := by
  have h4 := lin_size s.data.toList []
  have h5 : (linesP s).length = (lin s.data.toList []).length := by rw [linesP_eq, List.length_map]
  have h6 : ∀ l : List (List UInt8), l.length ≤ (l.map fun g => g.length + 1).sum := by
    intro l
    induction l with
    | nil => simp
    | cons a l ih => simp; omega
  have := h6 (lin s.data.toList [])
  rw [← Lib.size_eq] at h4
  simp at h4
  omega
set_option maxHeartbeats 2000000 in
theorem lawLines_any (s : ByteArray) (w : World) (hF : Firsts w) :
    Calls Tryd.prog 3 #[.string s] w fun e w' => e = .returned (.bool true) ∧ Below w.heap.size w w' := by
  have hB := Below.refl w.heap.size w
  have hz := firsts_lt hF
  by_cases hl : 2000 < s.size
  · go_enter Tryd.func3, Tryd.ntmps3
    go_wp2_with fail
    refine (works_any w hF).mono ?_
    rintro e x1 ⟨rfl, hb1⟩
    go_wp2
    go_ret
    exact ⟨rfl, hb1⟩
  · have hlen := linesP_length s
    have hjoin := lines_joined s
    have hagain := lines_again s
    have HL := Lib.hid (linesP_rd s w (by omega))
    have HR := Lib.hid fun w => linesR_rd s w (by omega)
    rw [← lines_eq s] at HR
    obtain ⟨l, hl'⟩ : ∃ l, linesP s = l := ⟨_, rfl⟩
    rw [hl'] at HL HR hlen hjoin hagain
    have HJ := Lib.hid hjoin; have HA := Lib.hid hagain
    clear hl' hjoin hagain
    go_enter Tryd.func3, Tryd.ntmps3
    go_wp2_with fail
    refine HL.out.mono ?_
    rintro e x1 ⟨A1, c1, rfl, hr1, hb1⟩
    have hB1 := hB.trans hb1
    clear hB hb1 HL
    go_wp2_with fail
    go_loopw [4, 5] (fun t i wr => ∃ k q : Nat, k ≤ l.length ∧ i = .int .i64 k ∧ t = .string (lT l k) ∧ wr = x1.drewN q) (fun _ i _ => l.length - (intOf i).toNat)
    case atStart => exact ⟨0, 0, Nat.zero_le _, rfl, rfl, rfl⟩
    case round =>
      obtain ⟨k, q, hk, rfl, rfl, rfl⟩ := hrel
      by_cases hlt : k < l.length
      · obtain ⟨ad, u, rfl, hx, hc⟩ := hr1.at_ hlt
        rw [List.getElem?_map, Option.map_eq_some_iff] at hx
        obtain ⟨x, hx, rfl⟩ := hx
        have hs1 : (lT l k).size + x.size ≤ 2000 := by
          have h1 := HJ.out (k + 1) (by omega)
          rw [lT, List.getD_eq_getElem?_getD, hx, ByteArray.size_append, ByteArray.size_append, size_ba] at h1
          simp at h1; omega
        have hs2 : (lT l k ++ x).size ≤ 2000 := by rw [ByteArray.size_append]; exact hs1
        have H1 := Lib.hid hx
        clear hx
        go_wp2
        go_roundw
        case rel => exact ⟨k + 1, q, by omega, by go_num, by rw [lT, List.getD_eq_getElem?_getD, H1.out]; rfl, rfl⟩
        case measure => simp [intOf]; omega
      · obtain rfl : k = l.length := by omega
        have hr2 := hr1.drewN q
        have hB2 : Below w.heap.size w (x1.drewN q) := below_drewN hB1 q
        generalize x1.drewN q = x2 at *
        clear hr1 hB1
        go_wp2_with fail
        go_loopw [6, 7] (fun t i wr => ∃ k q : Nat, k ≤ l.length ∧ i = .int .i64 k ∧ t = .bool (noEnd l k) ∧ wr = x2.drewN q) (fun _ i _ => l.length - (intOf i).toNat)
        case atStart => exact ⟨0, 0, Nat.zero_le _, rfl, rfl, rfl⟩
        case round =>
          obtain ⟨k, q, hk, rfl, rfl, rfl⟩ := hrel
          by_cases hlt : k < l.length
          · obtain ⟨ad, u, rfl, hx, hc⟩ := hr2.at_ hlt
            rw [List.getElem?_map, Option.map_eq_some_iff] at hx
            obtain ⟨x, hx, rfl⟩ := hx
            have hne : noEnd l (k + 1) = (noEnd l k && !end13 x) := by rw [noEnd, List.getD_eq_getElem?_getD, hx]; rfl
            have hxs : x.size ≤ 2000 := by
              have h1 := HJ.out (k + 1) (by omega)
              rw [lT, List.getD_eq_getElem?_getD, hx, ByteArray.size_append, ByteArray.size_append, size_ba] at h1
              simp at h1; omega
            clear hx
            cases hno : noEnd l k with
            | false =>
              rw [hno, Bool.false_and] at hne
              have HE := Lib.hid hne
              clear hne hno
              go_wp2
              go_roundw
              case rel => exact ⟨k + 1, q, by omega, by go_num, by rw [HE.out], rfl⟩
              case measure => simp [intOf]; omega
            | true =>
              rw [hno, Bool.true_and] at hne
              by_cases h0 : x.size = 0
              · have h1 : end13 x = false := by unfold end13; rw [h0]; rfl
                rw [h1] at hne
                have HE := Lib.hid hne
                clear hne hno h1
                go_wp2
                go_roundw
                case rel => exact ⟨k + 1, q, by omega, by go_num, by rw [HE.out]; rfl, rfl⟩
                case measure => simp [intOf]; omega
              · have h5 : x.size - 1 < x.size := by omega
                have h0b : (x.size == 0) = false := by rw [beq_eq_false_iff_ne]; exact h0
                have h0i : ((x.size : Int) == 0) = false := by rw [beq_eq_false_iff_ne]; omega
                have hee : (((x[x.size - 1]'h5).toNat : Int) != 13) = !end13 x := by
                  unfold end13
                  rw [h0b, bt_lt x _ h5]
                  by_cases h13 : (x[x.size - 1]'h5).toNat = 13
                  · rw [h13]; rfl
                  · have e1 : (((x[x.size - 1]'h5).toNat : Int) != 13) = true := by rw [bne_iff_ne]; omega
                    have e2 : ((x[x.size - 1]'h5).toNat == 13) = false := by rw [beq_eq_false_iff_ne]; exact h13
                    rw [e1, e2]; rfl
                generalize (!end13 x) = eb at *
                have HE := Lib.hid hne
                clear hne hno
                go_wp2
                go_roundw
                case rel => exact ⟨k + 1, q, by omega, by go_num, by rw [HE.out], rfl⟩
                case measure => simp [intOf]; omega
          · obtain rfl : k = l.length := by omega
            have hr3 := hr2.drewN q
            have hB3 : Below w.heap.size w (x2.drewN q) := below_drewN hB2 q
            generalize x2.drewN q = x3 at *
            have hF3 := firsts_below hF hB3 hz
            clear hr2 hB2
            go_wp2_with fail
            refine (HR.out x3).mono ?_
            rintro e x4 ⟨A2, c2, rfl, hr4, hb4⟩
            have hr3 := hr3.below hb4
            have hB4 := hB3.trans (hb4.mono hB3.size)
            clear hb4 hB3 hF3
            have hmx : l.length ≤ maxLen := by unfold maxLen; omega
            go_wp2_with fail
            refine (sameTexts_rd _ _ _ _ _ _ l l true x4 hr3 hr4 hmx hmx (decide_eq_true rfl)).mono ?_
            rintro e x5 ⟨rfl, hb5⟩
            have hr5 := hr3.below hb5
            have hB5 := hB4.trans (hb5.mono hB4.size)
            have hF5 := firsts_below hF hB5 hz
            clear hb5 hB4 hr3 hr4
            cases hno : noEnd l l.length with
            | false =>
              go_wp2_with fail
              refine (works_any x5 hF5).mono ?_
              rintro e x6 ⟨rfl, hb6⟩
              go_wp2
              go_ret
              exact ⟨rfl, hB5.trans (hb6.mono hB5.size)⟩
            | true =>
              have hag := HA.out fun w hw => noEnd_all l l.length (Nat.le_refl _) hno w (by rw [List.take_length]; exact hw)
              have hlt2 := HJ.out l.length (Nat.le_refl _)
              have HL := Lib.hid (linesP_rd (lT l l.length) x5 (by omega))
              rw [hag] at HL
              clear hag
              go_wp2_with fail
              refine HL.out.mono ?_
              rintro e x6 ⟨A3, c3, rfl, hr6, hb6⟩
              have hr5 := hr5.below hb6
              have hB6 := hB5.trans (hb6.mono hB5.size)
              clear HL hb6 hB5
              go_wp2_with fail
              refine (sameTexts_rd _ _ _ _ _ _ l l true x6 hr6 hr5 hmx hmx (decide_eq_true rfl)).mono ?_
              rintro e x7 ⟨rfl, hb7⟩
              have hB7 := hB6.trans (hb7.mono hB6.size)
              have hF7 := firsts_below hF hB7 hz
              clear hb7 hB6 hr5 hr6
              go_wp2_with fail
              refine (works_any x7 hF7).mono ?_
              rintro e x8 ⟨rfl, hb8⟩
              go_wp2
              go_ret
              exact ⟨rfl, hB7.trans (hb8.mono hB7.size)⟩
end Go.Proofs.YtdmijnjcgaoihaaDoor
