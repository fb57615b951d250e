/- Walks of words.Print and of the reference's Print. Walk of the reference's Print. -/
import Derived.Test.YtggegefeagkhkaaDoorWordsB
import Derived.Laws.Cover4
namespace Go.Proofs.YtggegefeagkhkaaDoor
open Go.RowKit

theorem quiet_at {P : Program} {f : FuncId} {args : Array Value} {w : World} {x : Nat} {v : Value}
    (h : Calls P f args (w.drewN x) fun e w' => e = .returned v ∧ ∃ m, w' = (w.drewN x).drewN m) :
    Calls P f args (w.drewN x) fun e w'' => e = .returned v ∧ ∃ n, w'' = w.drewN n :=
  h.mono fun _ _ ⟨he, m, hm⟩ => ⟨he, x + m, by rw [hm, World.drewN_drewN]⟩
theorem firsts_drewN {w : World} (h : Firsts w) (n : Nat) : Firsts (w.drewN n) := h
theorem firsts_at {w : World} (hF : Firsts w) (K : Nat) (hk : (K : Int) ≤ 2) : w.cell? ⟨1, K, none⟩ = some (.int .i32 (firstOf K)) := by
  rcases (show K = 0 ∨ K = 1 ∨ K = 2 by omega) with rfl | rfl | rfl
  · exact hF.1
  · exact hF.2.1
  · exact hF.2.2
set_option maxHeartbeats 1000000 in
theorem print_small (K N f : Nat) (hk2 : (K : Int) ≤ 2) (hlt : N < 10) (w : World) (hF : Firsts w) :
    Calls Tryd.prog 34 #[.int .i64 N, .int .i64 K] w fun e w' => e = .returned (.string (encD K (digs (f + 1) N))) ∧ ∃ q, w' = w.drewN q := by
  have hc := firsts_at hF K hk2
  have hfb := firstOf_bd K
  go_enter Tryd.func34, Tryd.ntmps34
  go_wp2
  go_ret
  refine ⟨?_, 0, rfl⟩
  rw [digs, if_pos hlt, encD_one]
  rfl
theorem ret_str {a b : ByteArray} (h : a = b) : Ending.returned (.string a) = .returned (.string b) := by rw [h]
set_option maxHeartbeats 1000000 in
theorem print_big (K N f : Nat) (hk2 : (K : Int) ≤ 2) (hlt : 10 ≤ N) (hN : (N : Int) ≤ 9223372036854775807) (w : World) (hF : Firsts w) (hf : f ≤ 19)
    (ih : ∀ x, Calls Tryd.prog 34 #[.int .i64 ((N : Int) / 10), .int .i64 K] (w.drewN x) fun e w' => e = .returned (.string (encD K (digs f (N / 10)))) ∧ ∃ q, w' = w.drewN q) :
    Calls Tryd.prog 34 #[.int .i64 N, .int .i64 K] w fun e w' => e = .returned (.string (encD K (digs (f + 1) N))) ∧ ∃ q, w' = w.drewN q := by
  have hc := firsts_at hF K hk2
  have hfb := firstOf_bd K
  have hw1 : IntKind.i64.wrap ((N : Int) / 10) = (N : Int) / 10 := IntWalk.i64_in _ (by omega)
  have hb0 : 0 ≤ (N : Int) / 10 := by omega
  have ht : (N : Int).tmod 10 = (N : Int) % 10 := Int.tmod_eq_emod_of_nonneg (by omega)
  have hw2 : IntKind.i32.wrap ((N : Int) % 10) = (N : Int) % 10 := IntWalk.i32_in _ (by omega)
  have hw3 : IntKind.i32.wrap (firstOf K + (N : Int) % 10) = firstOf K + (N : Int) % 10 := IntWalk.i32_in _ (by omega)
  have hsz : (encD K (digs f (N / 10))).size + (Utf8.encode (firstOf K + (N : Int) % 10)).size ≤ 9223372036854775807 := by
    have h1 := encD_size K (digs f (N / 10))
    have h2 := digs_length f (N / 10)
    have h3 := encode_size_le (firstOf K + (N : Int) % 10)
    omega
  have hfin : encD K (digs f (N / 10)) ++ Utf8.encode (firstOf K + (N : Int) % 10) = encD K (digs (f + 1) N) := by
    conv => rhs; rw [digs, if_neg (by omega), encD_snoc]
    rw [Int.natCast_emod]; rfl
  have HFin := Lib.hid hfin
  have HI := Lib.hid ih
  clear ih hfin
  go_enter Tryd.func34, Tryd.ntmps34
  go_wp2_with fail
  go_quiet ((go_at_call 34; exact HI.out _))
  go_wp2
  go_ret
  exact ⟨ret_str HFin.out, _, rfl⟩
theorem print_nat (K : Nat) (hk2 : (K : Int) ≤ 2) : ∀ (f N : Nat) (w : World), N < 10 ^ (f + 1) → (N : Int) ≤ 9223372036854775807 → f ≤ 18 → Firsts w →
    Calls Tryd.prog 34 #[.int .i64 N, .int .i64 K] w fun e w' => e = .returned (.string (encD K (digs (f + 1) N))) ∧ ∃ q, w' = w.drewN q := by
  intro f
  induction f with
  | zero => intro N w h hN hf hF; exact print_small K N 0 hk2 (by omega) w hF
  | succ f ih =>
    intro N w h hN hf hF
    by_cases hlt : N < 10
    · exact print_small K N _ hk2 hlt w hF
    · refine print_big K N (f + 1) hk2 (by omega) hN w hF (by omega) fun x => ?_
      have := ih (N / 10) (w.drewN x) (by rw [Nat.pow_succ] at h; omega) (by omega) (by omega) (firsts_drewN hF x)
      rw [Int.natCast_ediv] at this
      refine this.mono ?_
      rintro e w' ⟨he, q, hq⟩
      exact ⟨he, x + q, by rw [hq, World.drewN_drewN]⟩
theorem print_any (n kind : Int) (w : World) (h1 : -9223372036854775808 ≤ n) (h2 : n ≤ 9223372036854775807) (hF : Firsts w) :
    Calls Tryd.prog 34 #[.int .i64 n, .int .i64 kind] w fun e w' => e = .returned (.string (printOf n kind)) ∧ ∃ q, w' = w.drewN q := by
  by_cases h : 0 ≤ n ∧ 0 ≤ kind ∧ kind ≤ 2
  · obtain ⟨a, b, c⟩ := h
    obtain ⟨K, rfl⟩ := Int.eq_ofNat_of_zero_le b
    obtain ⟨N, rfl⟩ := Int.eq_ofNat_of_zero_le a
    rw [printOf, if_pos ⟨a, b, c⟩]
    exact print_nat K c 18 N w (by omega) h2 (by omega) hF
  · have HP : printOf n kind = ⟨#[]⟩ := by rw [printOf, if_neg h]
    rw [HP]
    have hor : n < 0 ∨ (0 ≤ n ∧ kind < 0) ∨ (0 ≤ n ∧ 0 ≤ kind ∧ 3 ≤ kind) := by omega
    clear h HP
    rcases hor with h | ⟨h, h'⟩ | ⟨h, h', h''⟩
    all_goals
      go_enter Tryd.func34, Tryd.ntmps34
      go_wp2
      go_ret
      exact ⟨rfl, 0, rfl⟩
end Go.Proofs.YtggegefeagkhkaaDoor
namespace Go.Proofs.YtggegefeagkhkaaDoor
open Go.RowKit

set_option maxHeartbeats 2000000 in
theorem printR_any (n kind : Int) (w : World) (h1 : -9223372036854775808 ≤ n) (h2 : n ≤ 9223372036854775807) :
    Calls Tryd.prog 53 #[.int .i64 n, .int .i64 kind] w fun e w' => e = .returned (.string (printOf n kind)) ∧ Below w.heap.size w w' := by
  by_cases h : 0 ≤ n ∧ 0 ≤ kind ∧ kind ≤ 2
  · have hP : printOf n kind = encD kind (digs 19 n.toNat) := by rw [printOf, if_pos h]
    obtain ⟨a, b, c⟩ := h
    obtain ⟨K, rfl⟩ := Int.eq_ofNat_of_zero_le b
    obtain ⟨N, rfl⟩ := Int.eq_ofNat_of_zero_le a
    rw [hP, Int.toNat_natCast]
    have hfb := firstOf_bd K
    clear hP
    go_enter Tryd.func53, Tryd.ntmps53
    go_wp2
    go_loopw [0, 5] (fun n s wr => ∃ (g m : Nat) (l : List Nat), n = .int .i64 m ∧ s = .string (encD K l) ∧ m < 10 ^ (g + 1) ∧ (m : Int) ≤ 9223372036854775807 ∧ digs 19 N = digs (g + 1) m ++ l ∧ l.length + g ≤ 18 ∧ Below w.heap.size w wr)
      (fun n _ _ => (intOf n).toNat)
    case atStart => exact ⟨18, N, [], rfl, rfl, by omega, h2, by simp, by simp, Below.refl _ _⟩
    case round =>
      obtain ⟨g, m, l, rfl, rfl, hm, hm2, hd, hl, hB⟩ := hrel
      have hls := encD_size K l
      have hes := encode_size_le (firstOf K + (m : Int) % 10)
      have hes' := encode_size_le (firstOf K + (m : Int))
      by_cases hlt : m < 10
      · have hfin : Utf8.encode (firstOf K + (m : Int)) ++ encD K l = encD K (digs 19 N) := by
          rw [hd, digs, if_pos hlt, encD_append, encD_one]
        have HF := Lib.hid hfin
        clear hfin hd
        go_wp2_with (go_at_call 65; refine (first_any _ _ (by omega) (by omega)).mono ?_; rintro e w' ⟨rfl, hb⟩; have hB := hB.trans (hb.mono hB.size); clear hb)
        go_ret
        exact ⟨ret_str HF.out, hB⟩
      · obtain ⟨g, rfl⟩ : ∃ g', g = g' + 1 := ⟨g - 1, by
          cases g with
          | zero => omega
          | succ g => omega⟩
        have hm' : m / 10 < 10 ^ (g + 1) := by rw [Nat.pow_succ] at hm; omega
        have hd' : digs 19 N = digs (g + 1) (m / 10) ++ (m % 10 :: l) := by
          rw [hd, digs, if_neg hlt]; simp
        have he' : Utf8.encode (firstOf K + (m : Int) % 10) ++ encD K l = encD K (m % 10 :: l) := by
          rw [show (m % 10 :: l) = [m % 10] ++ l from rfl, encD_append, encD_one, Int.natCast_emod]; rfl
        have HD := Lib.hid hd'; have HE := Lib.hid he'; have HM := Lib.hid hm'
        clear hd hd' he' hm' hm
        go_wp2_with (go_at_call 65; refine (first_any _ _ (by omega) (by omega)).mono ?_; rintro e w' ⟨rfl, hb⟩; have hB := hB.trans (hb.mono hB.size); clear hb)
        go_roundw
        case rel => exact ⟨g, m / 10, m % 10 :: l, by go_num, by rw [← HE.out], HM.out, by omega, HD.out, by simp; omega, hB⟩
        case measure => simp [intOf]; omega
  · have HP : printOf n kind = ⟨#[]⟩ := by rw [printOf, if_neg h]
    rw [HP]
    have hor : n < 0 ∨ (0 ≤ n ∧ kind < 0) ∨ (0 ≤ n ∧ 0 ≤ kind ∧ 2 < kind) := by omega
    clear h HP
    rcases hor with h | ⟨h, h'⟩ | ⟨h, h', h''⟩
    all_goals
      go_enter Tryd.func53, Tryd.ntmps53
      go_wp2
      go_ret
      exact ⟨rfl, Below.refl _ _⟩
end Go.Proofs.YtggegefeagkhkaaDoor
