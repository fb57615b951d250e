/- The manifest's bytes, as the program writes them: longs, may, bytes, Put. -/
import Derived.Test.YtlcgkcafelpglaaDoorMaE
import Derived.Test.YtlcgkcafelpglaaDoorMaG
import Derived.Test.YtlcgkcafelpglaaDoorMaP
import Derived.Test.YtlcgkcafelpglaaDoorRec2
namespace Go.Proofs.YtlcgkcafelpglaaDoor
open Go.RowKit Go.Maps

/-- a manifest's cells -/
def mCells (m : ManM) : Array Value := #[.int .i64 m.n, .int .i64 m.epoch, .int .i64 m.step, .int .i64 m.sum, .int .i64 m.most, .bool m.done, .int .u32 m.job]
theorem u64_int (z : Int) : ((u64 z : Nat) : Int) = z % 18446744073709551616 := by unfold u64; omega
def longT (T : ByteArray) (l : List Int) : ByteArray := l.foldl (fun T z => T ++ digB 8 (u64 z)) T
theorem longT_snoc (T : ByteArray) (l : List Int) (z : Int) : longT T (l ++ [z]) = longT T l ++ digB 8 (u64 z) := by unfold longT; rw [List.foldl_append]; rfl
theorem longT_size (T : ByteArray) (l : List Int) : (longT T l).size = T.size + 8 * l.length := by
  induction l generalizing T with
  | nil => rfl
  | cons z l ih =>
    show (longT (T ++ digB 8 (u64 z)) l).size = _
    rw [ih, ByteArray.size_append, digB_size, List.length_cons]; omega
theorem moved_blk {w w' : World} {p : Nat} {g : Option Nat} {k : Nat} {t : TypeId} {cs : Array Value} (h : Blk w k t cs) (m : Moved w w' p g) (hp : k ≠ p) (hg : some k ≠ g) : Blk w' k t cs := (m.block k h.lt hp hg).trans h
set_option maxRecDepth 100000 in
set_option maxHeartbeats 4000000 in
theorem longs_any (w : World) (gw gs : Nat) (T : ByteArray) (l : List Int) (c : Nat) (h : WrIs w gw T) (hT : T.size ≤ 1000000) (hl : l.length ≤ 1000) (hk : Blk w gs 2 (l.map (Value.int .i64)).toArray) (hne : gs ≠ gw) :
    Calls Tryd.prog 55 #[.pointer (some ⟨gw, 0, none⟩), .slice (some ⟨gs, 0, none⟩) l.length c] w fun e w' => e = .returned (.tuple #[]) ∧ WrIs w' gw (longT T l) ∧ Moved w w' gw none := by
  have HK := Lib.hid hk; have H := Lib.hid h
  clear hk h
  go_enter Tryd.func55, Tryd.ntmps55
  go_wp2
  go_loopg [8] l.length (fun gf a wr => ∃ k : Nat, a = .int .i64 k ∧ k + gf = l.length ∧ WrIs wr gw (longT T (l.take k)) ∧ Moved w wr gw none)
  case atStart => exact ⟨0, rfl, by omega, H.out, Moved.refl w gw none⟩
  case round =>
    clear H
    obtain ⟨k, rfl, hk, hW, hM⟩ := hrel
    cases gk with
    | zero =>
      obtain rfl : k = l.length := by omega
      rw [List.take_length] at hW
      have HW := Lib.hid hW; have HM := Lib.hid hM
      clear hW hM
      go_wp2
      go_end0
      exact ⟨rfl, HW.out, HM.out⟩
    | succ gf =>
      have hkN : k < l.length := by omega
      have hkI : (k : Int) < (l.length : Int) := by omega
      have hz := List.getElem?_eq_getElem hkN
      obtain ⟨z, hzz⟩ : ∃ z, l[k] = z := ⟨_, rfl⟩
      rw [hzz] at hz
      have htk : l.take (k + 1) = l.take k ++ [z] := take_snoc_ hz
      have hls := longT_snoc T (l.take k) z
      rw [← htk] at hls
      have ck := (moved_blk HK.out hM hne (by simp)).cell k
      rw [List.getElem?_toArray, List.getElem?_map, hz] at ck
      simp only [Option.map_some] at ck
      have hsz := longT_size T (l.take k)
      rw [List.length_take] at hsz
      have HC := Lib.hid (wLong_any wr gw (longT T (l.take k)) (u64 z) (u64_lt z) hW (by omega))
      rw [← hls] at HC
      have huz := u64_int z
      rw [huz] at HC
      have HM := Lib.hid hM
      clear hW hM hls htk hz hsz huz hzz
      go_wp2_with fail
      refine HC.out.mono ?_
      rintro e w2 ⟨rfl, hW2, hM2⟩
      have HW2 := Lib.hid hW2; have HM2 := Lib.hid (HM.out.trans hM2 (.inl rfl))
      clear hW2 hM2 HM HC
      go_wp2
      go_roundg gf
      case measure => omega
      case rel => exact ⟨k + 1, by go_num, by omega, HW2.out, HM2.out⟩
set_option maxRecDepth 100000 in
set_option maxHeartbeats 8000000 in
theorem may_any (m : ManM) (w : World) : Calls Tryd.prog 29 #[.agg (mCells m)] w fun e w' => e = .returned (.bool m.may) ∧ Below w.heap.size w w' := by
  have HB := Lib.hid ((Below.refl w.heap.size w).alloc (Nat.le_refl _) (.cells (mCells m) 24))
  obtain ⟨b, hb⟩ : ∃ b, m.may = b := ⟨_, rfl⟩
  rw [hb]
  unfold ManM.may at hb
  unfold mCells at HB ⊢
  by_cases c0 : 1 ≤ m.n
  case neg =>
    obtain rfl : b = false := by rw [← hb]; simp [c0]
    have d0 : m.n < 1 := by omega
    clear c0
    clear hb
    go_enter Tryd.func29, Tryd.ntmps29
    go_wp2
    go_ret
    exact ⟨rfl, HB.out⟩
  by_cases c1 : m.n ≤ 4611686018427387904
  case neg =>
    obtain rfl : b = false := by rw [← hb]; simp [c1]
    have d1 : 4611686018427387904 < m.n := by omega
    clear c1
    clear hb
    go_enter Tryd.func29, Tryd.ntmps29
    go_wp2
    go_ret
    exact ⟨rfl, HB.out⟩
  by_cases c2 : 1 ≤ m.epoch
  case neg =>
    obtain rfl : b = false := by rw [← hb]; simp [c2]
    have d2 : m.epoch < 1 := by omega
    clear c2
    clear hb
    go_enter Tryd.func29, Tryd.ntmps29
    go_wp2
    go_ret
    exact ⟨rfl, HB.out⟩
  by_cases c3 : m.epoch ≤ 4611686018427387904
  case neg =>
    obtain rfl : b = false := by rw [← hb]; simp [c3]
    have d3 : 4611686018427387904 < m.epoch := by omega
    clear c3
    clear hb
    go_enter Tryd.func29, Tryd.ntmps29
    go_wp2
    go_ret
    exact ⟨rfl, HB.out⟩
  by_cases c4 : -1 ≤ m.step
  case neg =>
    obtain rfl : b = false := by rw [← hb]; simp [c4]
    have d4 : m.step < -1 := by omega
    clear c4
    clear hb
    go_enter Tryd.func29, Tryd.ntmps29
    go_wp2
    go_ret
    exact ⟨rfl, HB.out⟩
  by_cases c5 : m.step ≤ 1073741824
  case neg =>
    obtain rfl : b = false := by rw [← hb]; simp [c5]
    have d5 : 1073741824 < m.step := by omega
    have q5 : decide (m.step ≤ 1073741824) = false := by simp [c5]
    clear c5
    clear hb
    go_enter Tryd.func29, Tryd.ntmps29
    go_wp2
    go_ret
    exact ⟨rfl, HB.out⟩
  obtain rfl : b = true := by rw [← hb]; simp [c0, c1, c2, c3, c4, c5]
  have q5 : decide (m.step ≤ 1073741824) = true := by simp [c5]
  clear hb
  go_enter Tryd.func29, Tryd.ntmps29
  go_wp2
  go_ret
  exact ⟨rfl, HB.out⟩
end Go.Proofs.YtlcgkcafelpglaaDoor
