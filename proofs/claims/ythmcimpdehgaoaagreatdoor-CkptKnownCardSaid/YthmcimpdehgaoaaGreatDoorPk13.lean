/- fields.Open; Reader: Byte, Word, Long. A checkpoint's file: its bytes. -/
import Derived.Test.YthmcimpdehgaoaaGreatDoorPk12
import Derived.Laws.BitsAllLaws
import Derived.Test.YthmcimpdehgaoaaGreatDoorPk8
import Derived.Test.YthmcimpdehgaoaaGreatDoorPk11
namespace Go.Proofs.YthmcimpdehgaoaaGreatDoor
open Go.RowKit

theorem next_size (r : RdD) (W : Nat) : (r.next (W : Int)).1.size = 0 ∨ (r.next (W : Int)).1.size = W := by
  unfold RdD.next
  split
  · exact .inl rfl
  · rename_i h
    right
    have : ¬ ((r.b.size : Int) - (r.at_ : Int) < (W : Int)) := fun e => h (by unfold RdD.falls; simp [e])
    show (r.b.extract r.at_ (r.at_ + (W : Int).toNat)).size = W
    rw [ByteArray.size_extract]
    omega
set_option maxHeartbeats 2000000 in
theorem cloneR_any (w : World) (v : Value) (s : ByteArray) (h : BtR w v s) (hs : s.size ≤ 1000000000) :
    Calls Tryz.prog 80 #[v] w fun e w' => ∃ v', e = .returned v' ∧ Bt w' v' s ∧ w'.ownsRow w.heap.size 5 1 v' s.size (ucells s) ∧ Below w.heap.size w w' := by
  obtain ⟨A, c, rfl, hc, hr⟩ := h
  obtain ⟨i0, hi, hz0, hz1, hz2⟩ := parts infoU
  have hnil : ∀ m, Sem.run Tryz.prog (binOp .eql 33 (.slice A m c) (.slice none 0 0)) w = .ok (.bool A.isNone) w := fun m => Lib.run_eql_slice_nil (P := Tryz.prog) w 33 5 A m c 0 0 Tryz.underlying33
  cases A with
  | none =>
    have h0 : s.size = 0 := by
      rcases Nat.eq_zero_or_pos s.size with h | h
      · exact h
      · obtain ⟨_, h', _⟩ := hr.2 h; cases h'
    have hn0 : Sem.run Tryz.prog (binOp .eql 33 (.slice none 0 c) (.slice none 0 0)) w = .ok (.bool true) w := hnil 0
    rw [h0]
    clear hnil
    have H0 := Lib.hid h0
    clear hr hc hs h0 hi hz0 hz1 hz2
    go_enter Tryz.func80, Tryz.ntmps80
    go_wp2
    go_ret
    have h0 := H0.out
    have ho : w.ownsRow w.heap.size 5 1 (.slice none 0 0) s.size (ucells s) := ⟨by rw [ucells_length, Nat.mul_one], .inl ⟨rfl, h0⟩⟩
    exact ⟨.slice none 0 0, rfl, Bt.of_own ho, by rw [h0] at ho; exact ho, Below.refl _ _⟩
  | some ad =>
    have hn1 : Sem.run Tryz.prog (binOp .eql 33 (.slice (some ad) s.size c) (.slice none 0 0)) w = .ok (.bool false) w := hnil _
    clear hnil
    have hrA := hr.alloc (Nat.le_refl _) (.cells #[] 5)
    have ho : (w.alloc (.cells #[] 5)).ownsRow w.heap.size 5 1 (.slice (some ⟨w.heap.size, 0, none⟩) 0 0) 0 [] := ⟨by simp, .inr ⟨w.heap.size, 0, #[], rfl, Nat.le_refl _, heap_alloc_new w _, Nat.le_refl _, by unfold maxLen; omega, rfl, by simp⟩⟩
    have hBA := (Below.refl w.heap.size w).alloc (Nat.le_refl _) (.cells #[] 5)
    have HR := Lib.hid hrA; have HO := Lib.hid ho; have HB := Lib.hid hBA
    clear hrA ho hBA hr
    go_enter Tryz.func80, Tryz.ntmps80
    go_wp2_with (at_builtin; refine wpList_append_any _ rfl (.tmp 5) (.tmp 6) 33 rfl w.heap.size 5 i0 (.int .u8 0) 1 1 Tryz.underlying33 hi hz0 hz1 hz2 rfl (by decide) _ _ _ rfl HO.out _ _ _ _ (ucells s) rfl HR.out (ucells_one s) (by unfold maxLen; omega) (by omega) (by simp) ?_; intro v3 w3 h2 h3 h4; have HO3 := Lib.hid h2; have HG3 := Lib.hid h3; clear h2 h3 h4)
    go_ret
    have ho3 := HO3.out
    rw [Nat.zero_add, List.nil_append] at ho3
    exact ⟨_, rfl, Bt.of_own ho3, ho3, HB.out.grown HG3.out (by simp) (fun k hk => (HO.out.lt k hk).1)⟩
set_option maxRecDepth 100000 in
set_option maxHeartbeats 1000000 in
theorem ropen_any (w : World) (v : Value) (b : ByteArray) (h : BtR w v b) (hb : b.size ≤ 1000000000) :
    Calls Tryz.prog 48 #[v] w fun e w' => ∃ g, e = .returned (.pointer (some ⟨g, 0, none⟩)) ∧ RdIs w' g ⟨b, 0, false⟩ ∧ Below w.heap.size w w' ∧ w.heap.size ≤ g := by
  have HC := Lib.hid (cloneR_any w v b h hb)
  obtain ⟨A, c, rfl, -, -⟩ := h
  go_enter Tryz.func48, Tryz.ntmps48
  go_wp2_with fail
  refine HC.out.mono ?_
  rintro e w1 ⟨v1, rfl, hbt, ho, hb1⟩
  have hR : RdIs (w1.alloc (.cells #[v1, .int .i64 0, .bool false] 134)) w1.heap.size ⟨b, 0, false⟩ := ⟨Nat.zero_le _, hb, v1, Blk.new w1 _ _, hbt.below ((Below.refl _ _).alloc (Nat.le_refl _) _)⟩
  have hB := hb1.alloc hb1.size (.cells #[v1, .int .i64 0, .bool false] 134)
  have HR := Lib.hid hR; have HB := Lib.hid hB
  have hle := hb1.size
  obtain ⟨A1, c1, rfl, -, -⟩ := id hbt
  clear hR hB hbt ho hb1 HC
  go_wp2
  go_ret
  exact ⟨w1.heap.size, rfl, HR.out, HB.out, hle⟩
set_option maxRecDepth 100000 in
set_option maxHeartbeats 4000000 in
theorem read_u8 (w : World) (g : Nat) (r : RdD) (h : RdIs w g r) :
    Calls Tryz.prog 92 #[.pointer (some ⟨g, 0, none⟩)] w fun e w' => e = .returned (.int .u8 (numB (r.next 1).1)) ∧ RdIs w' g (r.next 1).2 ∧ Moved w w' g none := by
  have HN := Lib.hid (next_any w g r 1 h (by decide))
  have hsz := next_size r 1
  rw [show ((1 : Nat) : Int) = 1 from rfl] at hsz
  obtain ⟨s, hs⟩ : ∃ s, (r.next 1).1 = s := ⟨_, rfl⟩
  obtain ⟨r2, hr2⟩ : ∃ r2, (r.next 1).2 = r2 := ⟨_, rfl⟩
  rw [hs] at hsz HN ⊢
  rw [hr2] at HN ⊢
  have hss : s.size ≤ 1 := by omega
  have hall := Lib.hid (numL_all s)
  clear hs hr2 hsz h
  go_enter Tryz.func92, Tryz.ntmps92
  go_wp2_with (go_at_call 125; refine (width_u8 _).mono ?_; rintro e w' ⟨rfl, rfl⟩)
  refine HN.out.mono ?_
  rintro e w1 ⟨v, rfl, hb, hR, hM⟩
  obtain ⟨A, c, rfl, hc, hrd⟩ := id hb
  have HR := Lib.hid hR; have HM := Lib.hid hM
  clear hb hR hM HN
  go_wp2
  go_loopg [2, 9] s.size (fun gf a b wr => ∃ k : Nat, a = .int .u8 (numL (s.data.toList.take k) : Nat) ∧ b = .int .i64 k ∧ k + gf = s.size ∧ wr = w1)
  case atStart => exact ⟨0, rfl, rfl, by omega, rfl⟩
  case round =>
    obtain ⟨k, rfl, rfl, hk, rfl⟩ := hrel
    cases gk with
    | zero =>
      obtain rfl : k = s.size := by omega
      go_wp2
      go_ret
      exact ⟨by rw [hall.out]; rfl, HR.out, HM.out⟩
    | succ gf =>
      have hkN : k < s.size := by omega
      have hkI : (k : Int) < (s.size : Int) := by omega
      obtain ⟨blk, off, cs, fz, rfl, hh, hx⟩ := hrd (by omega)
      have cb := cell_of_row wr blk (off + k) cs 5 fz hh
      rw [hx k hkN] at cb
      have hsn := numL_take_succ s k hkN
      have hlt := numL_take_lt s k
      have hlt2 := numL_take_lt s (k + 1)
      rw [hsn] at hlt2
      obtain ⟨n, hn⟩ : ∃ n, numL (s.data.toList.take k) = n := ⟨_, rfl⟩
      obtain ⟨b, hb⟩ : ∃ b : UInt8, s.get! k = b := ⟨_, rfl⟩
      rw [hn] at hsn hlt hlt2 ⊢
      rw [hb] at cb hsn hlt2
      have hb8 := b.toNat_lt
      have hp : 256 ^ (k + 1) ≤ 256 ^ 1 := Nat.pow_le_pow_right (by decide) (by omega)
      have hn2 : n * 256 + b.toNat < 256 ^ 1 := by omega
      have hor : bits .or .u8 ((n : Int) * 256) (b.toNat : Int) = ((n * 256 + b.toNat : Nat) : Int) := by
        have h0 := u8_or_nat (n * 256) b.toNat (by omega) (by omega)
        rw [nat_join 8 (n * 256) b.toNat (by omega) (by omega)] at h0
        rw [← h0]; congr 1
      obtain ⟨m, hm⟩ : ∃ m, n * 256 + b.toNat = m := ⟨_, rfl⟩
      rw [hm] at hor hsn
      have hn3 : n * 256 < 256 ^ 1 := by omega
      have hnI : (n : Int) * 256 < 256 := by omega
      clear hlt hlt2 hp hx hh hb hn hm
      have HSN := Lib.hid hsn
      clear hsn
      go_wp2
      go_roundg gf
      case measure => omega
      case rel => exact ⟨k + 1, by rw [HSN.out], by go_num, by omega, rfl⟩
set_option maxRecDepth 100000 in
set_option maxHeartbeats 4000000 in
theorem read_u32 (w : World) (g : Nat) (r : RdD) (h : RdIs w g r) :
    Calls Tryz.prog 94 #[.pointer (some ⟨g, 0, none⟩)] w fun e w' => e = .returned (.int .u32 (numB (r.next 4).1)) ∧ RdIs w' g (r.next 4).2 ∧ Moved w w' g none := by
  have HN := Lib.hid (next_any w g r 4 h (by decide))
  have hsz := next_size r 4
  rw [show ((4 : Nat) : Int) = 4 from rfl] at hsz
  obtain ⟨s, hs⟩ : ∃ s, (r.next 4).1 = s := ⟨_, rfl⟩
  obtain ⟨r2, hr2⟩ : ∃ r2, (r.next 4).2 = r2 := ⟨_, rfl⟩
  rw [hs] at hsz HN ⊢
  rw [hr2] at HN ⊢
  have hss : s.size ≤ 4 := by omega
  have hall := Lib.hid (numL_all s)
  clear hs hr2 hsz h
  go_enter Tryz.func94, Tryz.ntmps94
  go_wp2_with (go_at_call 127; refine (width_u32 _).mono ?_; rintro e w' ⟨rfl, rfl⟩)
  refine HN.out.mono ?_
  rintro e w1 ⟨v, rfl, hb, hR, hM⟩
  obtain ⟨A, c, rfl, hc, hrd⟩ := id hb
  have HR := Lib.hid hR; have HM := Lib.hid hM
  clear hb hR hM HN
  go_wp2
  go_loopg [2, 9] s.size (fun gf a b wr => ∃ k : Nat, a = .int .u32 (numL (s.data.toList.take k) : Nat) ∧ b = .int .i64 k ∧ k + gf = s.size ∧ wr = w1)
  case atStart => exact ⟨0, rfl, rfl, by omega, rfl⟩
  case round =>
    obtain ⟨k, rfl, rfl, hk, rfl⟩ := hrel
    cases gk with
    | zero =>
      obtain rfl : k = s.size := by omega
      go_wp2
      go_ret
      exact ⟨by rw [hall.out]; rfl, HR.out, HM.out⟩
    | succ gf =>
      have hkN : k < s.size := by omega
      have hkI : (k : Int) < (s.size : Int) := by omega
      obtain ⟨blk, off, cs, fz, rfl, hh, hx⟩ := hrd (by omega)
      have cb := cell_of_row wr blk (off + k) cs 5 fz hh
      rw [hx k hkN] at cb
      have hsn := numL_take_succ s k hkN
      have hlt := numL_take_lt s k
      have hlt2 := numL_take_lt s (k + 1)
      rw [hsn] at hlt2
      obtain ⟨n, hn⟩ : ∃ n, numL (s.data.toList.take k) = n := ⟨_, rfl⟩
      obtain ⟨b, hb⟩ : ∃ b : UInt8, s.get! k = b := ⟨_, rfl⟩
      rw [hn] at hsn hlt hlt2 ⊢
      rw [hb] at cb hsn hlt2
      have hb8 := b.toNat_lt
      have hp : 256 ^ (k + 1) ≤ 256 ^ 4 := Nat.pow_le_pow_right (by decide) (by omega)
      have hn2 : n * 256 + b.toNat < 256 ^ 4 := by omega
      have hor : bits .or .u32 ((n : Int) * 256) (b.toNat : Int) = ((n * 256 + b.toNat : Nat) : Int) := by
        have h0 := u32_or_nat (n * 256) b.toNat (by omega) (by omega)
        rw [nat_join 8 (n * 256) b.toNat (by omega) (by omega)] at h0
        rw [← h0]; congr 1
      obtain ⟨m, hm⟩ : ∃ m, n * 256 + b.toNat = m := ⟨_, rfl⟩
      rw [hm] at hor hsn
      have hn3 : n * 256 < 256 ^ 4 := by omega
      have hnI : (n : Int) * 256 < 4294967296 := by omega
      clear hlt hlt2 hp hx hh hb hn hm
      have HSN := Lib.hid hsn
      clear hsn
      go_wp2
      go_roundg gf
      case measure => omega
      case rel => exact ⟨k + 1, by rw [HSN.out], by go_num, by omega, rfl⟩
set_option maxRecDepth 100000 in
set_option maxHeartbeats 4000000 in
theorem read_u64 (w : World) (g : Nat) (r : RdD) (h : RdIs w g r) :
    Calls Tryz.prog 93 #[.pointer (some ⟨g, 0, none⟩)] w fun e w' => e = .returned (.int .u64 (numB (r.next 8).1)) ∧ RdIs w' g (r.next 8).2 ∧ Moved w w' g none := by
  have HN := Lib.hid (next_any w g r 8 h (by decide))
  have hsz := next_size r 8
  rw [show ((8 : Nat) : Int) = 8 from rfl] at hsz
  obtain ⟨s, hs⟩ : ∃ s, (r.next 8).1 = s := ⟨_, rfl⟩
  obtain ⟨r2, hr2⟩ : ∃ r2, (r.next 8).2 = r2 := ⟨_, rfl⟩
  rw [hs] at hsz HN ⊢
  rw [hr2] at HN ⊢
  have hss : s.size ≤ 8 := by omega
  have hall := Lib.hid (numL_all s)
  clear hs hr2 hsz h
  go_enter Tryz.func93, Tryz.ntmps93
  go_wp2_with (go_at_call 126; refine (width_u64 _).mono ?_; rintro e w' ⟨rfl, rfl⟩)
  refine HN.out.mono ?_
  rintro e w1 ⟨v, rfl, hb, hR, hM⟩
  obtain ⟨A, c, rfl, hc, hrd⟩ := id hb
  have HR := Lib.hid hR; have HM := Lib.hid hM
  clear hb hR hM HN
  go_wp2
  go_loopg [2, 9] s.size (fun gf a b wr => ∃ k : Nat, a = .int .u64 (numL (s.data.toList.take k) : Nat) ∧ b = .int .i64 k ∧ k + gf = s.size ∧ wr = w1)
  case atStart => exact ⟨0, rfl, rfl, by omega, rfl⟩
  case round =>
    obtain ⟨k, rfl, rfl, hk, rfl⟩ := hrel
    cases gk with
    | zero =>
      obtain rfl : k = s.size := by omega
      go_wp2
      go_ret
      exact ⟨by rw [hall.out]; rfl, HR.out, HM.out⟩
    | succ gf =>
      have hkN : k < s.size := by omega
      have hkI : (k : Int) < (s.size : Int) := by omega
      obtain ⟨blk, off, cs, fz, rfl, hh, hx⟩ := hrd (by omega)
      have cb := cell_of_row wr blk (off + k) cs 5 fz hh
      rw [hx k hkN] at cb
      have hsn := numL_take_succ s k hkN
      have hlt := numL_take_lt s k
      have hlt2 := numL_take_lt s (k + 1)
      rw [hsn] at hlt2
      obtain ⟨n, hn⟩ : ∃ n, numL (s.data.toList.take k) = n := ⟨_, rfl⟩
      obtain ⟨b, hb⟩ : ∃ b : UInt8, s.get! k = b := ⟨_, rfl⟩
      rw [hn] at hsn hlt hlt2 ⊢
      rw [hb] at cb hsn hlt2
      have hb8 := b.toNat_lt
      have hp : 256 ^ (k + 1) ≤ 256 ^ 8 := Nat.pow_le_pow_right (by decide) (by omega)
      have hn2 : n * 256 + b.toNat < 256 ^ 8 := by omega
      have hor : bits .or .u64 ((n : Int) * 256) (b.toNat : Int) = ((n * 256 + b.toNat : Nat) : Int) := by
        have h0 := u64_or_nat (n * 256) b.toNat (by omega) (by omega)
        rw [nat_join 8 (n * 256) b.toNat (by omega) (by omega)] at h0
        rw [← h0]; congr 1
      obtain ⟨m, hm⟩ : ∃ m, n * 256 + b.toNat = m := ⟨_, rfl⟩
      rw [hm] at hor hsn
      have hn3 : n * 256 < 256 ^ 8 := by omega
      have hnI : (n : Int) * 256 < 18446744073709551616 := by omega
      clear hlt hlt2 hp hx hh hb hn hm
      have HSN := Lib.hid hsn
      clear hsn
      go_wp2
      go_roundg gf
      case measure => omega
      case rel => exact ⟨k + 1, by rw [HSN.out], by go_num, by omega, rfl⟩
set_option maxRecDepth 100000 in
set_option maxHeartbeats 1000000 in
theorem rByte_any (w : World) (g : Nat) (r : RdD) (h : RdIs w g r) :
    Calls Tryz.prog 49 #[.pointer (some ⟨g, 0, none⟩)] w fun e w' => e = .returned (.int .u8 (numB (r.next 1).1)) ∧ RdIs w' g (r.next 1).2 ∧ Moved w w' g none := by
  have HC := Lib.hid (read_u8 w g r h)
  clear h
  go_enter Tryz.func49, Tryz.ntmps49
  go_wp2_with fail
  refine HC.out.mono ?_
  rintro e w1 ⟨rfl, hR, hM⟩
  have HR := Lib.hid hR; have HM := Lib.hid hM
  clear hR hM HC
  go_wp2
  go_ret
  exact ⟨rfl, HR.out, HM.out⟩
set_option maxRecDepth 100000 in
set_option maxHeartbeats 1000000 in
theorem rWord_any (w : World) (g : Nat) (r : RdD) (h : RdIs w g r) :
    Calls Tryz.prog 51 #[.pointer (some ⟨g, 0, none⟩)] w fun e w' => e = .returned (.int .u32 (numB (r.next 4).1)) ∧ RdIs w' g (r.next 4).2 ∧ Moved w w' g none := by
  have HC := Lib.hid (read_u32 w g r h)
  clear h
  go_enter Tryz.func51, Tryz.ntmps51
  go_wp2_with fail
  refine HC.out.mono ?_
  rintro e w1 ⟨rfl, hR, hM⟩
  have HR := Lib.hid hR; have HM := Lib.hid hM
  clear hR hM HC
  go_wp2
  go_ret
  exact ⟨rfl, HR.out, HM.out⟩
set_option maxRecDepth 100000 in
set_option maxHeartbeats 1000000 in
theorem rLong_any (w : World) (g : Nat) (r : RdD) (h : RdIs w g r) :
    Calls Tryz.prog 50 #[.pointer (some ⟨g, 0, none⟩)] w fun e w' => e = .returned (.int .u64 (numB (r.next 8).1)) ∧ RdIs w' g (r.next 8).2 ∧ Moved w w' g none := by
  have HC := Lib.hid (read_u64 w g r h)
  clear h
  go_enter Tryz.func50, Tryz.ntmps50
  go_wp2_with fail
  refine HC.out.mono ?_
  rintro e w1 ⟨rfl, hR, hM⟩
  have HR := Lib.hid hR; have HM := Lib.hid hM
  clear hR hM HC
  go_wp2
  go_ret
  exact ⟨rfl, HR.out, HM.out⟩
set_option maxRecDepth 100000 in
set_option maxHeartbeats 1000000 in
theorem rRaw_any (w : World) (g : Nat) (r : RdD) (n : Int) (h : RdIs w g r) (hn : n ≤ 4611686018427387904) :
    Calls Tryz.prog 52 #[.pointer (some ⟨g, 0, none⟩), .int .i64 n] w fun e w' => ∃ v, e = .returned v ∧ w'.ownsRow w.heap.size 5 1 v (r.next n).1.size (ucells (r.next n).1) ∧ RdIs w' g (r.next n).2 ∧ Moved w w' g none := by
  have HC := Lib.hid (next_any w g r n h hn)
  have hsz : (r.next n).1.size ≤ 1000000000 := by
    obtain ⟨h1, h2, _⟩ := h
    unfold RdD.next
    split
    · exact Nat.zero_le _
    · show (r.b.extract r.at_ (r.at_ + n.toNat)).size ≤ _
      rw [ByteArray.size_extract]; omega
  clear h
  go_enter Tryz.func52, Tryz.ntmps52
  go_wp2_with fail
  refine HC.out.mono ?_
  rintro e w1 ⟨v, rfl, hbt, hR, hM⟩
  have HK := Lib.hid (cloneB_any w1 v _ hbt hsz)
  have HR := Lib.hid hR; have HM := Lib.hid hM
  clear hR hM HC hbt
  go_wp2_with fail
  refine HK.out.mono ?_
  rintro e w2 ⟨v2, rfl, -, ho, hb⟩
  have HO := Lib.hid (own_mono ho HM.out.size); have HR2 := Lib.hid (HR.out.below hb); have HM2 := Lib.hid (HM.out.trans (Moved.of_below hb g none) (.inl rfl))
  clear ho hb HK HR HM
  go_wp2
  go_ret
  exact ⟨_, rfl, HO.out, HR2.out, HM2.out⟩
end Go.Proofs.YthmcimpdehgaoaaGreatDoor
namespace Go.Proofs.YthmcimpdehgaoaaGreatDoor
open Go.RowKit Go.Maps

set_option maxRecDepth 100000 in
set_option maxHeartbeats 2000000 in
theorem wRaw_any (w : World) (gw : Nat) (T s : ByteArray) (bv : Value) (hb : BtR w bv s) (h : WrIs w gw T) (hT : T.size + s.size ≤ 999999999) :
    Calls Tryz.prog 85 #[.pointer (some ⟨gw, 0, none⟩), bv] w fun e w' => e = .returned (.tuple #[]) ∧ WrIs w' gw (T ++ s) ∧ Moved w w' gw none := by
  have HD := Lib.hid (cloneR_any w bv s hb (by omega)); have HW := Lib.hid h
  have hlt := h.lt
  clear h hb
  go_enter Tryz.func85, Tryz.ntmps85
  go_wp2_with fail
  refine HD.out.mono ?_
  clear HD
  rintro e w1 ⟨v, rfl, hbt, -, hb⟩
  have hw1 := HW.out.below hb
  have HP := Lib.hid (put_all w1 gw T s v hw1 hbt (by omega))
  have HM := Lib.hid (Moved.of_below hb gw none)
  clear hb hw1 hbt HW
  go_wp2_with fail
  refine HP.out.mono ?_
  rintro e w2 ⟨rfl, h2, hm⟩
  have H2 := Lib.hid h2; have HM2 := Lib.hid (HM.out.trans hm (.inl rfl))
  clear HP h2 hm HM
  go_wp2
  go_end0
  exact ⟨rfl, H2.out, HM2.out⟩
/-- amid a file's bytes -/
structure FS (w wr : World) (g : Nat) (T : ByteArray) : Prop where
  is : WrIs wr g T
  below : Below w.heap.size w wr
  ge : w.heap.size ≤ g
theorem FS.mv {w w1 w2 : World} {g : Nat} {T T2 : ByteArray} (a : FS w w1 g T) (h : WrIs w2 g T2) (m : Moved w1 w2 g none) : FS w w2 g T2 :=
  ⟨h, a.below.trans (m.below a.ge (by simp) a.below.size), a.ge⟩
theorem FS.below_ {w w1 w2 : World} {g : Nat} {T : ByteArray} (a : FS w w1 g T) (hb : Below w1.heap.size w1 w2) : FS w w2 g T :=
  ⟨a.is.below hb, a.below.trans (hb.mono a.below.size), a.ge⟩
set_option maxRecDepth 100000 in
set_option maxHeartbeats 4000000 in
theorem cfile_any (w : World) (n : Nat) (hn : n ≤ 1073741824) (bv : Value) (b : ByteArray) (hb : BtR w bv b) (hbs : b.size ≤ 4194304) :
    Calls Tryz.prog 38 #[.int .i64 n, bv] w fun e w' => ∃ v, e = .returned v ∧ w'.ownsRow w.heap.size 5 1 v (fileC n b).size (ucells (fileC n b)) ∧ Below w.heap.size w w' := by
  obtain ⟨A, c, rfl, hc, -⟩ := id hb
  have h0 : FS w (w.alloc (.cells #[.pointer none, .int .i64 0] 118)) w.heap.size ⟨#[]⟩ := ⟨WrIs.new w, (Below.refl _ _).alloc (Nat.le_refl _) _, Nat.le_refl _⟩
  obtain ⟨g, hg⟩ : ∃ g, w.heap.size = g := ⟨_, rfl⟩
  have h1 := wByte_any (w.alloc (.cells #[.pointer none, .int .i64 0] 118)) w.heap.size ⟨#[]⟩ 67 (by decide) h0.is (by decide)
  simp only [Int.cast_ofNat_Int] at h1
  rw [hg] at h1 h0
  have hwn : IntKind.u64.wrap (n : Int) = (n : Int) := by rw [IntKind.wrap_u64]; omega
  have hwb : IntKind.u32.wrap (b.size : Int) = (b.size : Int) := by rw [IntKind.wrap_u32]; omega
  have HB := Lib.hid hb; have H0 := Lib.hid h0; have H1 := Lib.hid h1; have HG := Lib.hid hg
  clear hb h0 h1
  go_enter Tryz.func38, Tryz.ntmps38
  go_wp2_with fail
  refine H1.out.mono ?_
  rintro e w1 ⟨rfl, hw1, hm1⟩
  have h2 := H0.out.mv hw1 hm1
  have e1 : (⟨#[]⟩ ++ digB 1 67 : ByteArray) = ⟨#[67]⟩ := rfl
  rw [e1] at h2
  have HC := Lib.hid (wLong_any w1 g _ n (by omega) h2.is (by show (1 : Nat) ≤ _; decide)); have H2 := Lib.hid h2
  clear hw1 hm1 h2 e1 H1 H0
  go_wp2_with fail
  refine HC.out.mono ?_
  rintro e w2 ⟨rfl, hw2, hm2⟩
  have h3 := H2.out.mv hw2 hm2
  have s3 : (⟨#[67]⟩ ++ digB 8 n : ByteArray).size = 9 := by rw [ByteArray.size_append, digB_size]; rfl
  have HC := Lib.hid (wWord_any w2 g _ b.size (by omega) h3.is (by omega)); have H3 := Lib.hid h3
  clear hw2 hm2 h3 H2
  go_wp2_with fail
  refine HC.out.mono ?_
  rintro e w3 ⟨rfl, hw3, hm3⟩
  have h4 := H3.out.mv hw3 hm3
  have s4 : ((⟨#[67]⟩ ++ digB 8 n) ++ digB 4 b.size : ByteArray).size = 13 := by rw [ByteArray.size_append, digB_size, s3]
  have HC := Lib.hid (wRaw_any w3 g _ b _ (HB.out.below h4.below) h4.is (by omega)); have H4 := Lib.hid h4
  clear hw3 hm3 h4 H3
  go_wp2_with fail
  refine HC.out.mono ?_
  rintro e w4 ⟨rfl, hw4, hm4⟩
  have h5 : FS w w4 g (headC n b) := H4.out.mv hw4 hm4
  have s5 := headC_size n b
  have HC := Lib.hid (out_any w4 g _ h5.is (by omega)); have H5 := Lib.hid h5
  clear hw4 hm4 h5 H4
  go_wp2_with fail
  refine HC.out.mono ?_
  rintro e w5 ⟨v5, rfl, ho5, hb5⟩
  have h6 := H5.out.below_ hb5
  have HC := Lib.hid (sum_any w5 v5 (headC n b) (Bt.of_own ho5) (by omega)); have H6 := Lib.hid h6
  clear ho5 hb5 h6 H5
  go_wp2_with fail
  refine HC.out.mono ?_
  rintro e w6 ⟨rfl, hb6⟩
  have h7 := H6.out.below_ hb6
  have HC := Lib.hid (wWord_any w6 g _ (crcN (headC n b)) (crcN_lt _) h7.is (by omega)); have H7 := Lib.hid h7
  clear hb6 h7 H6
  go_wp2_with fail
  refine HC.out.mono ?_
  rintro e w7 ⟨rfl, hw7, hm7⟩
  have h8 : FS w w7 g (fileC n b) := H7.out.mv hw7 hm7
  have s8 := fileC_size n b
  have HC := Lib.hid (out_any w7 g _ h8.is (by omega)); have H8 := Lib.hid h8
  clear hw7 hm7 h8 H7
  go_wp2_with fail
  refine HC.out.mono ?_
  rintro e w8 ⟨v8, rfl, ho8, hb8⟩
  have HO := Lib.hid (own_mono ho8 H8.out.below.size); have HB8 := Lib.hid (H8.out.below_ hb8).below
  clear ho8 hb8 H8 HC
  go_wp2
  go_ret
  exact ⟨_, rfl, HO.out, HB8.out⟩
end Go.Proofs.YthmcimpdehgaoaaGreatDoor
