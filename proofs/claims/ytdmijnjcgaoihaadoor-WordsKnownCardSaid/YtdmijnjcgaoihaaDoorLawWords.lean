/- WordsWords: the words of any line are the document's, or it is refused; they have no blanks; one blank between, they are its words again. -/
import Derived.Test.YtdmijnjcgaoihaaDoorLawNumber
import Derived.Test.YtdmijnjcgaoihaaDoorWordsM
namespace Go.Proofs.YtdmijnjcgaoihaaDoor
open Go.RowKit

theorem sum_len (ws : List ByteArray) : ws.length ≤ (ws.map fun w => w.size + 1).sum := by
  induction ws with
  | nil => simp
  | cons a l ih => simp; omega
theorem jT_mono (l : List ByteArray) (i : Nat) : (jT l i).size ≤ (jT l (i + 1)).size := by
  rw [jT, ByteArray.size_append]
  split
  · rw [ByteArray.size_append]; omega
  · omega
set_option maxHeartbeats 4000000 in
theorem lawWords_any (s : ByteArray) (w : World) (hF : Firsts w) :
    Calls Tryd.prog 4 #[.string s] w fun e w' => e = .returned (.bool true) ∧ Below w.heap.size w w' := by
  have hB := Below.refl w.heap.size w
  have hz := firsts_lt hF
  by_cases hl : 2000 < s.size
  · go_enter Tryd.func4, Tryd.ntmps4
    go_wp2_with fail
    refine (works_any w hF).mono ?_
    rintro e x1 ⟨rfl, hb1⟩
    go_wp2
    go_ret
    exact ⟨rfl, hb1⟩
  · obtain ⟨ws, er, hws, hne, hagain, hsz, hlen⟩ : ∃ (ws : List ByteArray) (er : Int), (∀ w, Calls Tryd.prog 13 #[.string s] w fun e w' => ∃ A c, e = .returned (.tuple #[.slice A ws.length c, .int .i64 er]) ∧ Rd w' 1 A ws.length (ws.map Value.string) ∧ Below w.heap.size w w') ∧
        (∀ w ∈ ws, w ≠ ByteArray.empty) ∧ wordsP (jT ws ws.length) = some ws ∧ (∀ i, i ≤ ws.length → (jT ws i).size ≤ 4001) ∧ ws.length ≤ 4001 ∧
        (∀ w, Calls Tryd.prog 14 #[.string s] w fun e w' => ∃ A c, e = .returned (.tuple #[.slice A ws.length c, .int .i64 er]) ∧ Rd w' 1 A ws.length (ws.map Value.string) ∧ Below w.heap.size w w') := by
      have h1 := fun w => wordsP_rd s w (by omega)
      have h2 := fun w => wordsR_rd s w (by omega)
      rw [← words_eq s] at h2
      unfold GivesW at h1 h2
      cases hw : wordsP s with
      | none =>
        rw [hw] at h1 h2
        refine ⟨[], 30, h1, by simp, by decide, fun i hi => ?_, by simp, h2⟩
        obtain rfl : i = 0 := by simpa using hi
        decide
      | some ws =>
        rw [hw] at h1 h2
        obtain ⟨g1, g2⟩ := words_again s ws hw
        have g3 := words_size s ws hw
        have g4 := sum_len ws
        exact ⟨ws, 0, h1, g1, g2, fun i hi => by have := words_joined s ws hw i hi; omega, by omega, h2⟩
    obtain ⟨hlen, href⟩ := hlen
    have HW := Lib.hid hws; have HR := Lib.hid href; have HN := Lib.hid hne; have HA := Lib.hid hagain; have HJ := Lib.hid hsz
    clear hws href hne hagain hsz
    have hmx : ws.length ≤ maxLen := by unfold maxLen; omega
    go_enter Tryd.func4, Tryd.ntmps4
    go_wp2_with fail
    refine (HW.out w).mono ?_
    rintro e x1 ⟨A1, c1, rfl, hr1, hb1⟩
    have hB1 := hB.trans hb1
    clear hB hb1 HW
    go_wp2_with fail
    refine (HR.out x1).mono ?_
    rintro e x2 ⟨A2, c2, rfl, hr2, hb2⟩
    have hr1 := hr1.below hb2
    have hB2 := hB1.trans (hb2.mono hB1.size)
    clear HR hb2 hB1
    have hee : (er != er) = false := by simp
    go_wp2_with fail
    refine (sameTexts_rd _ _ _ _ _ _ ws ws true x2 hr1 hr2 hmx hmx (decide_eq_true rfl)).mono ?_
    rintro e x3 ⟨rfl, hb3⟩
    have hr3 := hr1.below hb3
    have hB3 := hB2.trans (hb3.mono hB2.size)
    clear hb3 hB2 hr1 hr2
    go_wp2_with fail
    go_loopw [7, 8] (fun t i wr => ∃ k q : Nat, k ≤ ws.length ∧ i = .int .i64 k ∧ t = .string (jT ws k) ∧ wr = x3.drewN q) (fun _ i _ => ws.length - (intOf i).toNat)
    case atStart => exact ⟨0, 0, Nat.zero_le _, rfl, rfl, rfl⟩
    case round =>
      obtain ⟨k, q, hk, rfl, rfl, rfl⟩ := hrel
      by_cases hlt : k < ws.length
      · obtain ⟨ad, u, rfl, hx, hc⟩ := hr3.at_ hlt
        rw [List.getElem?_map, Option.map_eq_some_iff] at hx
        obtain ⟨x, hx, rfl⟩ := hx
        have hxn := HN.out x (List.mem_of_getElem? hx)
        have hxe : x.toList.isEmpty = false := word_isEmpty fun h => hxn (empty_of_size h)
        have hsum := HJ.out (k + 1) (by omega)
        have hj : jT ws (k + 1) = (if 0 < k then jT ws k ++ ba [32] else jT ws k) ++ x := by rw [jT, List.getD_eq_getElem?_getD, hx]; rfl
        rw [hj] at hsum
        clear hx hxn
        by_cases hk0 : 0 < k
        · rw [if_pos hk0] at hj hsum
          have hs2 : (jT ws k ++ ⟨#[32]⟩).size + x.size ≤ 4001 := by rw [ByteArray.size_append] at hsum; exact hsum
          have hs1 : (jT ws k).size ≤ 4000 := by rw [ByteArray.size_append] at hs2; have : (ByteArray.mk #[32]).size = 1 := rfl; omega
          have HE := Lib.hid hj
          clear hj hsum
          go_wp2
          go_roundw
          case rel => exact ⟨k + 1, q, by omega, by go_num, by rw [HE.out]; rfl, rfl⟩
          case measure => simp [intOf]; omega
        · rw [if_neg hk0] at hj hsum
          have hs1 : (jT ws k).size + x.size ≤ 4001 := by rw [ByteArray.size_append] at hsum; exact hsum
          have HE := Lib.hid hj
          clear hj hsum
          go_wp2
          go_roundw
          case rel => exact ⟨k + 1, q, by omega, by go_num, by rw [HE.out], rfl⟩
          case measure => simp [intOf]; omega
      · obtain rfl : k = ws.length := by omega
        have hr4 := hr3.drewN q
        have hB4 : Below w.heap.size w (x3.drewN q) := below_drewN hB3 q
        generalize x3.drewN q = x4 at *
        clear hr3 hB3
        have hjs := HJ.out ws.length (Nat.le_refl _)
        have HW := Lib.hid (wordsP_rd (jT ws ws.length) x4 (by omega))
        rw [HA.out] at HW
        go_wp2_with fail
        refine HW.out.mono ?_
        rintro e x5 ⟨A5, c5, rfl, hr5, hb5⟩
        simp only [Option.getD_some, Option.isSome_some, if_true] at hr5 ⊢
        have hr4 := hr4.below hb5
        have hB5 := hB4.trans (hb5.mono hB4.size)
        clear HW hb5 hB4
        go_wp2_with fail
        refine (sameTexts_rd _ _ _ _ _ _ ws ws true x5 hr4 hr5 hmx hmx (decide_eq_true rfl)).mono ?_
        rintro e x6 ⟨rfl, hb6⟩
        have hB6 := hB5.trans (hb6.mono hB5.size)
        have hF6 := firsts_below hF hB6 hz
        clear hb6 hB5 hr4 hr5
        go_wp2_with fail
        refine (works_any x6 hF6).mono ?_
        rintro e x7 ⟨rfl, hb7⟩
        go_wp2
        go_ret
        exact ⟨rfl, hB6.trans (hb7.mono hB6.size)⟩
end Go.Proofs.YtdmijnjcgaoihaaDoor
