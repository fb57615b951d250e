/- The disk's gate: what names may not be, asked, find. -/
import Derived.Test.YtmgnpcoihehelaaDiskB
import Derived.Lib.Strings
namespace Go.Proofs.Ytmgnpcoihehelaa
open Go.RowKit

/-- a name that may not be -/
def badN (s : ByteArray) : Bool := s.size == 0 || decide (128 < s.size)
set_option maxHeartbeats 1000000 in
theorem bad_any (s : ByteArray) (w : World) : Calls Try.prog 44 #[.string s] w fun e w' => e = .returned (.bool (badN s)) ∧ w' = w := by
  unfold badN
  by_cases h0 : s.size = 0
  · have he : s.toList.isEmpty = true := by
      rw [ByteArray.toList_eq, List.isEmpty_iff]
      exact List.eq_nil_of_length_eq_zero (by rw [← Lib.size_eq]; exact h0)
    go_enter Try.func44, Try.ntmps44
    go_wp2
    go_ret
    exact ⟨by simp [h0], rfl⟩
  · have he : s.toList.isEmpty = false := by
      rw [Bool.eq_false_iff]
      intro h
      rw [ByteArray.toList_eq, List.isEmpty_iff] at h
      exact h0 (by rw [Lib.size_eq, h]; rfl)
    by_cases h1 : 128 < s.size
    · have h1I : (128 : Int) < (s.size : Int) := by omega
      go_enter Try.func44, Try.ntmps44
      go_wp2
      go_ret
      exact ⟨by simp [h1], rfl⟩
    · have h1I : ¬ (128 : Int) < (s.size : Int) := by omega
      go_enter Try.func44, Try.ntmps44
      go_wp2
      go_ret
      exact ⟨by simp [h0], rfl⟩
set_option maxHeartbeats 2000000 in
theorem index_any (w : World) (A : Option Addr) (c : Nat) (names : List ByteArray) (h : Rd w 1 A names.length (names.map Value.string)) (hn : names.length ≤ 1000) :
    Calls Try.prog 60 #[.slice A names.length c, .func (.func 44) #[] #[]] w fun e w' => ∃ r : Int, e = .returned (.int .i64 r) ∧ decide (0 ≤ r) = names.any badN ∧ -1 ≤ r ∧ r ≤ 1000 ∧ w' = w := by
  go_enter Try.func60, Try.ntmps60
  go_wp2
  go_loopg [8] names.length (fun gf v wr => ∃ k : Nat, v = .int .i64 k ∧ k + gf = names.length ∧ (names.take k).any badN = false ∧ wr = w)
  case atStart => exact ⟨0, rfl, by omega, by simp, rfl⟩
  case round =>
    obtain ⟨k, rfl, hk, hno, rfl⟩ := hrel
    have HN := Lib.hid hno
    clear hno
    cases gk with
    | zero =>
      obtain rfl : k = names.length := by omega
      go_wp2
      go_ret
      exact ⟨-1, rfl, by have := HN.out; rw [List.take_length] at this; rw [this]; rfl, by omega, by omega, rfl⟩
    | succ gf =>
      obtain ⟨ad, u, rfl, hx, hc⟩ := h.at_ (k := k) (by omega)
      rw [List.getElem?_map, Option.map_eq_some_iff] at hx
      obtain ⟨x, hx, rfl⟩ := hx
      have HX := Lib.hid hx
      have hkI : (k : Int) < (names.length : Int) := by omega
      clear hx
      go_wp2_with fail
      refine (bad_any x _).mono ?_
      rintro e w1 ⟨rfl, rfl⟩
      cases hb : badN x with
      | true =>
        have HB := Lib.hid hb
        go_wp2
        go_ret
        refine ⟨k, rfl, ?_, by omega, by omega, rfl⟩
        have h1 : names.any badN = true := List.any_eq_true.2 ⟨x, List.mem_of_getElem? HX.out, HB.out⟩
        rw [h1]; simp
      | false =>
        have HB := Lib.hid hb
        go_wp2
        go_roundg gf
        case measure => omega
        case rel => exact ⟨k + 1, by go_num, by omega, by rw [List.take_add_one, HX.out, List.any_append, HN.out]; simp [HB.out], rfl⟩
theorem contains_any (w : World) (A : Option Addr) (c : Nat) (names : List ByteArray) (h : Rd w 1 A names.length (names.map Value.string)) (hn : names.length ≤ 1000) :
    Calls Try.prog 43 #[.slice A names.length c, .func (.func 44) #[] #[]] w fun e w' => e = .returned (.bool (names.any badN)) ∧ w' = w := by
  have HI := Lib.hid (index_any w A c names h hn)
  go_enter Try.func43, Try.ntmps43
  go_wp2_with fail
  refine HI.out.mono ?_
  rintro e w1 ⟨r, rfl, hr, h1, h2, rfl⟩
  go_wp2
  go_ret
  exact ⟨by rw [← hr]; rfl, rfl⟩
/-- what refuses a call -/
def DiskD.asked (D : DiskD) (names : List ByteArray) : Int := if D.off = true then 160 else if names.any badN = true then 2 else 0
set_option maxHeartbeats 1000000 in
theorem asked_any (w : World) (base p : Nat) (v : Value) (D : DiskD) (h : DiskIs w base p v D) (A : Option Addr) (c : Nat) (names : List ByteArray) (hr : Rd w 1 A names.length (names.map Value.string)) (hn : names.length ≤ 1000) :
    Calls Try.prog 26 #[.pointer (some ⟨p, 0, none⟩), .slice A names.length c] w fun e w' => e = .returned (.int .i64 (D.asked names)) ∧ w' = w := by
  have c4 := h.blk.cell 4
  simp only [List.getElem?_toArray, List.getElem?_cons_zero, List.getElem?_cons_succ] at c4
  have HC := Lib.hid (contains_any w A c names hr hn)
  unfold DiskD.asked
  cases ho : D.off with
  | true =>
    rw [ho] at c4
    go_enter Try.func26, Try.ntmps26
    go_wp2
    go_ret
    exact ⟨by simp, rfl⟩
  | false =>
    rw [ho] at c4
    cases hb : names.any badN with
    | true =>
      rw [hb] at HC
      go_enter Try.func26, Try.ntmps26
      go_wp2_with fail
      refine HC.out.mono ?_
      rintro e w1 ⟨rfl, rfl⟩
      go_wp2
      go_ret
      exact ⟨by simp, rfl⟩
    | false =>
      rw [hb] at HC
      go_enter Try.func26, Try.ntmps26
      go_wp2_with fail
      refine HC.out.mono ?_
      rintro e w1 ⟨rfl, rfl⟩
      go_wp2
      go_ret
      exact ⟨by simp, rfl⟩
set_option maxHeartbeats 1000000 in
theorem find_any (w : World) (base p : Nat) (v : Value) (D : DiskD) (h : DiskIs w base p v D) (t : ByteArray) (hn : D.files.length ≤ 4294967296) :
    Calls Try.prog 27 #[.pointer (some ⟨p, 0, none⟩), .string t] w fun e w' =>
      e = .returned (.tuple #[.int .i64 (findN (D.files.map (·.name)) t).1, .bool (findN (D.files.map (·.name)) t).2]) ∧ Below w.heap.size w w' := by
  have c0 := h.blk.cell 0
  simp only [List.getElem?_toArray, List.getElem?_cons_zero] at c0
  obtain ⟨rows, hr, hR⟩ := h.row
  have hS := search_any w base v rows t hR (by have := congrArg List.length hr; simp at this; omega)
  have hm : rows.map (·.1.name) = D.files.map (·.name) := by rw [← hr, List.map_map]; rfl
  rw [hm] at hS
  obtain ⟨A, c, rfl⟩ := own_shape hR.1
  have HS := Lib.hid hS
  clear hS hm hR hr h
  go_enter Try.func27, Try.ntmps27
  go_wp2_with fail
  refine HS.out.mono ?_
  rintro e w1 ⟨rfl, hb⟩
  go_wp2
  go_ret2
  exact ⟨rfl, hb⟩
end Go.Proofs.Ytmgnpcoihehelaa
