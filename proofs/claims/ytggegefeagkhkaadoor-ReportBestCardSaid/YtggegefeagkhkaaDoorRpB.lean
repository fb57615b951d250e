/- The reference's digits, and its text of a number in fixed point. -/
import Derived.Test.YtggegefeagkhkaaDoorRpA
import Derived.Lib.ItoaNum
import Derived.Lib.ItoaLen
import Derived.Laws.IdiomStrings
namespace Go.Proofs.YtggegefeagkhkaaDoor
open Go.RowKit

theorem dg_conv (u : Nat) (hu : u < 10) (w : World) : (convert 58 9 (.slice (some ⟨w.heap.size, 0, none⟩) 1 1)).run Tryd.prog (w.alloc (.cells #[.int .u8 (48 + (u : Int))] 5)) = .ok (.string ⟨#[UInt8.ofNat (48 + u)]⟩) (w.alloc (.cells #[.int .u8 (48 + (u : Int))] 5)) :=
  run_convert_bytes_back (P := Tryd.prog) _ 58 9 5 ⟨w.heap.size, 0, none⟩ 1 [UInt8.ofNat (48 + u)] Tryd.underlying58 Tryd.underlying5 Tryd.underlying9 (fun j hj => by
    obtain rfl : j = 0 := by simpa using hj
    have := (Blk.new w 5 #[.int .u8 (48 + (u : Int))]).cell 0
    have h2 : ((UInt8.ofNat (48 + u)).toNat : Int) = 48 + (u : Int) := by
      rw [UInt8.toNat_ofNat']
      omega
    simp only [List.getElem_cons_zero, h2]
    exact this)
theorem dec_small (n : Nat) (h : n < 10) : Lib.decDigits n = [UInt8.ofNat (48 + n)] := by rw [Lib.decDigits, dif_pos h]
theorem dec_step (n : Nat) (h : ¬ n < 10) : Lib.decDigits n = Lib.decDigits (n / 10) ++ [UInt8.ofNat (48 + n % 10)] := by rw [Lib.decDigits, dif_neg h]
theorem dec_len (n : Nat) (h : n ≤ 9223372036854775807) : (Lib.decDigits n).length ≤ 100 := by
  have h1 := Lib.itoa_length_le (n : Int) (by omega) (by omega)
  rw [Lib.itoa_nonneg] at h1
  omega
set_option maxRecDepth 100000 in
set_option maxHeartbeats 4000000 in
theorem rdig_any (w : World) (n : Nat) (hn : n ≤ 9223372036854775807) : Calls Tryd.prog 54 #[.int .i64 n] w fun e w' => e = .returned (.string ⟨(Lib.decDigits n).toArray⟩) ∧ Below w.heap.size w w' := by
  go_enter Tryd.func54, Tryd.ntmps54
  go_wp2
  go_loopg [0, 3] n (fun gf a b wr => ∃ (u : Nat) (s : ByteArray), a = .int .i64 u ∧ b = .string s ∧ gf = u ∧ u ≤ n ∧ Lib.decDigits u ++ s.data.toList = Lib.decDigits n ∧ s.size ≤ 100 ∧ Below w.heap.size w wr)
  case atStart => exact ⟨n, ⟨#[]⟩, rfl, rfl, rfl, Nat.le_refl _, by simp, by decide, Below.refl _ _⟩
  case round =>
    obtain ⟨u, s, rfl, rfl, rfl, hun, hd, hs, hb⟩ := hrel
    by_cases h9 : 9 < gk
    · have huI : (9 : Int) < (gk : Int) := by omega
      have hub : decide ((9 : Int) < (gk : Int)) = true := decide_eq_true huI
      have hcv := dg_conv (gk % 10) (Nat.mod_lt _ (by decide)) wr
      have hst := dec_step gk (by omega)
      rw [hst, List.append_assoc] at hd
      obtain ⟨t, ht⟩ : ∃ t, (⟨#[UInt8.ofNat (48 + gk % 10)]⟩ : ByteArray) = t := ⟨_, rfl⟩
      have hts : t.size = 1 := by rw [← ht]; rfl
      have hd : Lib.decDigits (gk / 10) ++ (t ++ s).data.toList = Lib.decDigits n := by rw [← hd, ← ht]; simp [ByteArray.data_append]
      have hsz : (t ++ s).size ≤ 100 := by
        have h1 := congrArg List.length hd
        have h2 := dec_len n hn
        rw [List.length_append] at h1
        have h3 : (t ++ s).data.toList.length = (t ++ s).size := Array.length_toList
        omega
      rw [ht] at hcv
      have hb2 : Below w.heap.size w (wr.alloc (.cells #[.int .u8 (48 + ((gk % 10 : Nat) : Int))] 5)) := hb.alloc hb.size _
      rw [show ((gk % 10 : Nat) : Int) = (gk : Int) % 10 by omega] at hcv hb2
      have HD := Lib.hid hd; have HSZ := Lib.hid hsz; have HB2 := Lib.hid hb2
      have hszI : (s.size : Int) ≤ 100 := by omega
      have hlt : gk / 10 < gk := by omega
      clear hst hd hsz hb2 ht hs
      go_wp2
      go_roundg (gk / 10)
      case measure => exact hlt
      case rel => exact ⟨gk / 10, t ++ s, by go_num, rfl, rfl, by omega, HD.out, HSZ.out, HB2.out⟩
    · have huI : ¬ (9 : Int) < (gk : Int) := by omega
      have hub : decide ((9 : Int) < (gk : Int)) = false := decide_eq_false huI
      have hcv := dg_conv gk (by omega) wr
      rw [dec_small gk (by omega)] at hd
      have hb2 : Below w.heap.size w (wr.alloc (.cells #[.int .u8 (48 + (gk : Int))] 5)) := hb.alloc hb.size _
      obtain ⟨t, ht⟩ : ∃ t, (⟨#[UInt8.ofNat (48 + gk)]⟩ : ByteArray) = t := ⟨_, rfl⟩
      have hts : t.size = 1 := by rw [← ht]; rfl
      have hfin : t ++ s = ⟨(Lib.decDigits n).toArray⟩ := by
        rw [← hd, ← ht]
        apply ByteArray.ext
        simp [ByteArray.data_append]
      rw [ht] at hcv
      have HFIN := Lib.hid hfin; have HB2 := Lib.hid hb2
      have hszI : (s.size : Int) ≤ 100 := by omega
      clear hd hb2 ht hs hfin
      go_wp2
      go_ret
      exact ⟨by rw [← HFIN.out]; rfl, HB2.out⟩
/-- nine digits behind the point -/
def fixD : Nat → Nat → List UInt8
  | 0, _ => []
  | n + 1, r => UInt8.ofNat (48 + r * 10 / 4294967296) :: fixD n (r * 10 % 4294967296)
def fixText (a : Nat) : ByteArray := ⟨(Lib.decDigits (a / 4294967296) ++ [46] ++ fixD 9 (a % 4294967296)).toArray⟩
theorem fixD_len : ∀ n r, (fixD n r).length = n := by
  intro n
  induction n with
  | zero => intro r; rfl
  | succ n ih => intro r; rw [fixD, List.length_cons, ih]
set_option maxHeartbeats 2000000 in
theorem rtext_neg (w : World) (a : Int) (ha : a < 0) : Calls Tryd.prog 39 #[.int .i64 a] w fun e w' => e = .returned (.string ⟨#[]⟩) ∧ Below w.heap.size w w' := by
  have hb : decide (a < 0) = true := decide_eq_true ha
  go_enter Tryd.func39, Tryd.ntmps39
  go_wp2
  go_ret
  exact ⟨rfl, Below.refl _ _⟩
set_option maxRecDepth 100000 in
set_option maxHeartbeats 4000000 in
theorem rtext_any (w : World) (a : Nat) (ha : a ≤ 9223372036854775807) : Calls Tryd.prog 39 #[.int .i64 a] w fun e w' => e = .returned (.string (fixText a)) ∧ Below w.heap.size w w' := by
  have h0 := rdig_any w (a / 4294967296) (by omega)
  rw [show ((a / 4294967296 : Nat) : Int) = (a : Int) / 4294967296 by omega] at h0
  have hl := dec_len (a / 4294967296) (by omega)
  have haI : ¬ (a : Int) < 0 := by omega
  obtain ⟨q, hq⟩ : ∃ q : ByteArray, ⟨(Lib.decDigits (a / 4294967296)).toArray⟩ = q := ⟨_, rfl⟩
  have hql : q.data.toList = Lib.decDigits (a / 4294967296) := by rw [← hq]
  have hqs : (q.size : Int) ≤ 100 := by
    have : q.data.toList.length = q.size := Array.length_toList
    rw [hql] at this
    omega
  have hinv : (q ++ ⟨#[46]⟩ : ByteArray).data.toList ++ fixD 9 (a % 4294967296) = (fixText a).data.toList := by
    unfold fixText
    simp [ByteArray.data_append, hql]
  have hq1 : (q ++ ⟨#[46]⟩ : ByteArray).size = q.size + 1 := by rw [ByteArray.size_append]; rfl
  rw [hq] at h0
  have H0 := Lib.hid h0; have HINV := Lib.hid hinv; have HQ1 := Lib.hid hq1
  clear h0 hq hql hinv hl hq1
  go_enter Tryd.func39, Tryd.ntmps39
  go_wp2_with fail
  refine H0.out.mono ?_
  rintro e w1 ⟨rfl, hb1⟩
  have HB1 := Lib.hid hb1
  clear hb1
  go_wp2
  go_loopg [3, 4, 5] 9 (fun gf v3 v4 v5 wr => ∃ (i r : Nat) (s : ByteArray), v3 = .string s ∧ v4 = .int .i64 r ∧ v5 = .int .i64 i ∧ i + gf = 9 ∧ r < 4294967296 ∧ s.data.toList ++ fixD gf r = (fixText a).data.toList ∧ s.size ≤ 101 + i ∧ Below w.heap.size w wr)
  case atStart => exact ⟨0, a % 4294967296, _, rfl, by go_num, rfl, rfl, Nat.mod_lt _ (by decide), HINV.out, by rw [HQ1.out]; omega, HB1.out⟩
  case round =>
    clear H0 HINV HQ1 HB1
    obtain ⟨i, r, s, rfl, rfl, rfl, hi, hr, hs, hsz, hb⟩ := hrel
    cases gk with
    | zero =>
      obtain rfl : i = 9 := by omega
      have hfin : s = fixText a := by
        apply ByteArray.ext
        apply Array.toList_inj.1
        rw [← hs, fixD, List.append_nil]
      have HFIN := Lib.hid hfin; have HB := Lib.hid hb
      clear hfin hs hb
      go_wp2
      go_ret
      exact ⟨by rw [← HFIN.out]; rfl, HB.out⟩
    | succ gf =>
      have hi9 : (i : Int) < 9 := by omega
      have hd := rdig_any wr (r * 10 / 4294967296) (by omega)
      rw [dec_small _ (by omega), show ((r * 10 / 4294967296 : Nat) : Int) = (r : Int) * 10 / 4294967296 by omega] at hd
      obtain ⟨t, ht⟩ : ∃ t : ByteArray, ⟨[UInt8.ofNat (48 + r * 10 / 4294967296)].toArray⟩ = t := ⟨_, rfl⟩
      rw [fixD] at hs
      have hs2 : (s ++ t).data.toList ++ fixD gf (r * 10 % 4294967296) = (fixText a).data.toList := by rw [← hs, ← ht]; simp [ByteArray.data_append]
      have hts : t.size = 1 := by rw [← ht]; rfl
      have hsz2 : (s ++ t).size ≤ 101 + (i + 1) := by rw [ByteArray.size_append]; omega
      rw [ht] at hd
      have hsI : (s.size : Int) ≤ 200 := by omega
      have HD := Lib.hid hd; have HS2 := Lib.hid hs2; have HSZ := Lib.hid hsz2; have HB := Lib.hid hb
      clear hd hs2 hsz2 hb ht hs hsz
      go_wp2_with fail
      refine HD.out.mono ?_
      rintro e w2 ⟨rfl, hb2⟩
      have HB2 := Lib.hid (HB.out.trans (hb2.mono HB.out.size))
      clear hb2 HD
      go_wp2
      go_roundg gf
      case measure => omega
      case rel => exact ⟨i + 1, r * 10 % 4294967296, s ++ t, rfl, by go_num, by go_num, by omega, Nat.mod_lt _ (by decide), HS2.out, HSZ.out, HB2.out⟩
end Go.Proofs.YtggegefeagkhkaaDoor
