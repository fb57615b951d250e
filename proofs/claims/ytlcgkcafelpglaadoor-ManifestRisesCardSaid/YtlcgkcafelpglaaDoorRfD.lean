/- The reference's names of files: Digits, Name. -/
import Derived.Test.YtlcgkcafelpglaaDoorMaT
import Derived.Deep.LoopGhost
namespace Go.Proofs.YtlcgkcafelpglaaDoor
open Go.RowKit Go.Maps

/-- the digits that are still to come -/
def dn (u : Nat) : List UInt8 := if u = 0 then [] else Lib.decDigits u
theorem dn_step (u : Nat) : dn (u / 10) ++ [UInt8.ofNat (48 + u % 10)] = Lib.decDigits u := by
  rw [Lib.decDigits]
  by_cases h : u < 10
  · rw [dif_pos h, show u / 10 = 0 by omega, show u % 10 = u by omega]; rfl
  · rw [dif_neg h]
    unfold dn
    rw [if_neg (by omega)]
def digS : ByteArray := ⟨#[48, 49, 50, 51, 52, 53, 54, 55, 56, 57]⟩
theorem digS_at (k : Nat) (h : k < 10) : digS.extract k (k + 1) = ⟨#[UInt8.ofNat (48 + k)]⟩ := by
  have : k = 0 ∨ k = 1 ∨ k = 2 ∨ k = 3 ∨ k = 4 ∨ k = 5 ∨ k = 6 ∨ k = 7 ∨ k = 8 ∨ k = 9 := by omega
  rcases this with rfl | rfl | rfl | rfl | rfl | rfl | rfl | rfl | rfl | rfl <;> decide +kernel
/-- what has been put together -/
def DgR (n u : Nat) (s : ByteArray) : Prop := (s.size = 0 ∧ u = n) ∨ (0 < s.size ∧ dn u ++ s.data.toList = Lib.decDigits n)
theorem DgR.step {n u : Nat} {s : ByteArray} (h : DgR n u s) (h2 : 0 < u ∨ s.size = 0) : DgR n (u / 10) (⟨#[UInt8.ofNat (48 + u % 10)]⟩ ++ s) := by
  refine .inr ⟨by rw [ByteArray.size_append]; show 0 < 1 + s.size; omega, ?_⟩
  rw [ByteArray.data_append, Array.toList_append]
  show dn (u / 10) ++ ([UInt8.ofNat (48 + u % 10)] ++ s.data.toList) = _
  rw [← List.append_assoc, dn_step]
  rcases h with ⟨h0, rfl⟩ | ⟨h0, h1⟩
  · have : s.data.toList = [] := List.eq_nil_of_length_eq_zero (by simpa using h0)
    rw [this, List.append_nil]
  · have hu : 0 < u := by omega
    unfold dn at h1
    rwa [if_neg (by omega)] at h1
theorem DgR.done {n : Nat} {s : ByteArray} (h : DgR n 0 s) (h0 : 0 < s.size) : s = ⟨(Lib.itoa (n : Int)).toArray⟩ := by
  rcases h with ⟨h1, _⟩ | ⟨_, h1⟩
  · omega
  · rw [Lib.itoa_nonneg, ← h1]
    unfold dn
    simp
theorem DgR.size {n u : Nat} {s : ByteArray} (h : DgR n u s) (hn : n ≤ 9223372036854775807) : s.size ≤ 21 := by
  rcases h with ⟨h1, _⟩ | ⟨_, h1⟩
  · omega
  · have h2 := Lib.itoa_length_le (n : Int) (by omega) (by omega)
    rw [Lib.itoa_nonneg, ← h1, List.length_append] at h2
    have : s.data.toList.length = s.size := by simp
    omega
set_option maxRecDepth 100000 in
set_option maxHeartbeats 4000000 in
theorem rdigits_any (w : World) (n : Nat) (hn : n ≤ 9223372036854775807) : Calls Tryd.prog 47 #[.int .i64 n] w fun e w' => e = .returned (.string ⟨(Lib.itoa (n : Int)).toArray⟩) ∧ w' = w := by
  have h0 : DgR n n ⟨#[]⟩ := .inl ⟨rfl, rfl⟩
  have H0 := Lib.hid h0
  clear h0
  go_enter Tryd.func47, Tryd.ntmps47
  go_wp2
  go_loopg [0, 3] (n + 1) (fun gf a b wr => ∃ (u : Nat) (s : ByteArray), a = .int .i64 u ∧ b = .string s ∧ gf = u + (if s.size = 0 then 1 else 0) ∧ u ≤ n ∧ DgR n u s ∧ wr = w)
  case atStart => exact ⟨n, ⟨#[]⟩, rfl, rfl, rfl, Nat.le_refl _, H0.out, rfl⟩
  case round =>
    clear H0
    obtain ⟨u, s, rfl, rfl, hg, hun, hd, rfl⟩ := hrel
    have hsz := hd.size hn
    by_cases hc : 0 < u ∨ s.size = 0
    · have hst := hd.step hc
      have hk : u % 10 < 10 := Nat.mod_lt _ (by decide)
      have hx := digS_at (u % 10) hk
      have HST := Lib.hid hst; have HX := Lib.hid hx
      have hszI : (s.size : Int) ≤ 21 := by omega
      have hlt : u / 10 + 0 < gk := by
        rcases hc with h | h
        · have : u / 10 < u := Nat.div_lt_self h (by decide)
          omega
        · rw [if_pos h] at hg; omega
      clear hst hx hd
      by_cases hu : 0 < u
      · have huI : (0 : Int) < (u : Int) := by omega
        have hub : decide ((0 : Int) < (u : Int)) = true := by simpa using hu
        go_wp2
        go_roundg (u / 10 + 0)
        case measure => exact hlt
        case rel => exact ⟨u / 10, ⟨#[UInt8.ofNat (48 + u % 10)]⟩ ++ s, by go_num, by rw [← HX.out]; rfl, by rw [if_neg (by rw [ByteArray.size_append]; show ¬ 1 + s.size = 0; omega)], by omega, HST.out, rfl⟩
      · obtain rfl : u = 0 := by omega
        have hs0 : s.size = 0 := by omega
        have hse : (s.toList == []) = true := by
          have h1 : s.toList = [] := by rw [ByteArray.toList_eq]; exact List.eq_nil_of_length_eq_zero (by simpa using hs0)
          rw [h1]; rfl
        have hse2 : s.toList = [] := by simpa using hse
        have hgk : 0 < gk := by rw [if_pos hs0] at hg; omega
        go_wp2
        go_roundg 0
        case measure => exact hgk
        case rel => exact ⟨0, ⟨#[UInt8.ofNat (48 + 0 % 10)]⟩ ++ s, rfl, by rw [← HX.out]; rfl, by rw [if_neg (by rw [ByteArray.size_append]; show ¬ 1 + s.size = 0; omega)], by omega, HST.out, rfl⟩
    · obtain rfl : u = 0 := by omega
      have hs0 : 0 < s.size := by omega
      have hfin := hd.done hs0
      have hne : s.toList ≠ [] := by
        rw [ByteArray.toList_eq]
        intro h
        have h2 : s.data.toList.length = 0 := by rw [h]; rfl
        have h3 : s.data.toList.length = s.size := by simp
        omega
      have hne2 : (s.toList == []) = false := by simpa using hne
      have hne3 : s.toList.isEmpty = false := by simpa using hne
      have HFIN := Lib.hid hfin
      clear hfin hd hc hg hun hne
      go_wp2
      go_ret
      exact ⟨by rw [← HFIN.out]; rfl, rfl⟩
/-- the reference's name of a manifest's file -/
theorem rname_any (w : World) (n : Int) (h0 : 0 ≤ n) (h1 : n ≤ 9223372036854775807) : Calls Tryd.prog 21 #[.int .i64 n] w fun e w' => e = .returned (.string (nameM n)) ∧ w' = w := by
  obtain ⟨k, rfl⟩ : ∃ k : Nat, n = k := ⟨n.toNat, by omega⟩
  have hsz := (nameM_size (n := (k : Int)) ⟨by omega, h1⟩).2
  unfold nameM at hsz
  rw [ByteArray.size_append] at hsz
  have h3 : (⟨#[109, 102, 46]⟩ : ByteArray).size = 3 := rfl
  rw [h3] at hsz
  have HC := Lib.hid (rdigits_any w k (by omega))
  have HN : Hid (nameM (k : Int) = ⟨#[109, 102, 46]⟩ ++ ⟨(Lib.itoa (k : Int)).toArray⟩) := Lib.hid rfl
  obtain ⟨s, hs⟩ : ∃ s : ByteArray, ⟨(Lib.itoa (k : Int)).toArray⟩ = s := ⟨_, rfl⟩
  rw [hs] at hsz HC HN
  clear hs h3 h0 h1
  go_enter Tryd.func21, Tryd.ntmps21
  go_wp2_with fail
  refine HC.out.mono ?_
  rintro e w' ⟨rfl, rfl⟩
  go_wp2
  go_ret
  exact ⟨by rw [HN.out]; rfl, rfl⟩
end Go.Proofs.YtlcgkcafelpglaaDoor
