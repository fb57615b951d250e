/- The disk's On, whole; name. -/
import Derived.Test.YtmgnpcoihehelaaDiskW
import Derived.Laws.BytesArg
import Derived.Laws.IdiomStrings
namespace Go.Proofs.Ytmgnpcoihehelaa
open Go.RowKit

set_option maxRecDepth 100000 in
set_option maxHeartbeats 4000000 in
theorem on_any (w : World) (base p : Nat) (v : Value) (D : DiskD) (h : DiskIs w base p v D) (A : Option Addr) (c : Nat) (keep : List Int) (hk : Rd w 1 A keep.length (keep.map (Value.int .i64))) (hkp : ∀ ad, A = some ad → ad.block ≠ p)
    (hl : D.files.length ≤ 100000000) (hkl : keep.length ≤ 100000000) (hb : ∀ f ∈ D.files, f.b.size ≤ 1000000000) (hso : ∀ f ∈ D.files, SafeOk f) (hbase : base ≤ w.heap.size) :
    Calls Try.prog 13 #[.pointer (some ⟨p, 0, none⟩), .slice A keep.length c] w fun e w' => e = .returned (.tuple #[]) ∧ Leaves w w' base p v (D.on keep) := by
  cases hoff : D.off with
  | true => exact on_off w base p v D h A c keep hk hkp hl hkl hb hso hbase hoff
  | false =>
    have hb0 := h.blk
    have c3 := hb0.cell 3; have c4 := hb0.cell 4
    simp only [List.getElem?_toArray, List.getElem?_cons_zero, List.getElem?_cons_succ] at c3 c4
    have f3 := hb0.frozen 3
    rw [hoff] at c4
    have hon : D.on keep = { D with left := -1 } := by unfold DiskD.on; rw [if_neg (by simp [hoff])]
    rw [hon]
    have hm := Moved.set_ w p 3 v.ownBlock (.int .i64 (-1))
    have hD := h.set_ (D' := { D with left := -1 }) (Moved.set_ w p 3 none (.int .i64 (-1))) (hb0.set_ 3 (.int .i64 (-1))) rfl
    have HL : Hid (Leaves w (w.setCell ⟨p, 3, none⟩ (.int .i64 (-1))) base p v { D with left := -1 }) := Lib.hid ⟨v, hD, hm, own_new (.inl rfl)⟩
    clear hD hm hb0 h hk hkp hso hb hon hoff
    go_enter Try.func13, Try.ntmps13
    go_wp2
    refine bodyPost_ret (results_none rfl _ _ _) rfl ?_
    exact ⟨rfl, HL.out⟩
theorem size_zero_empty {s : ByteArray} (h : s.size = 0) : s = ByteArray.empty := by
  cases s with
  | mk d =>
    have hd : d.size = 0 := h
    rw [Array.eq_empty_of_size_eq_zero hd]; rfl
/-- string(b) of bytes -/
theorem BtR.conv {w : World} {v : Value} {s : ByteArray} (h : BtR w v s) : (convert 22 9 v).run Try.prog w = .ok (.string s) w := by
  obtain ⟨A, c, rfl, hc, hr⟩ := h
  rcases Nat.eq_zero_or_pos s.size with h0 | h0
  · rw [h0, size_zero_empty h0]
    cases A with
    | none => exact run_convert_bytes_nil w 22 5 Try.underlying22 Try.underlying5 0 c 9 Try.underlying9
    | some ad => exact run_convert_bytes_back w 22 9 5 ad c [] Try.underlying22 Try.underlying5 Try.underlying9 (fun j hj => absurd hj (by simp))
  · obtain ⟨ad, rfl, hb, hx⟩ := hr.2 h0
    have hl : s.size = s.data.toList.length := by simp
    have := run_convert_bytes_back (P := Try.prog) w 22 9 5 ad c s.data.toList Try.underlying22 Try.underlying5 Try.underlying9 (fun j hj => by
      refine hx j _ ?_
      unfold ucells
      rw [List.getElem?_map, List.getElem?_eq_getElem hj]; rfl)
    rw [hl]
    exact this
theorem Bt.conv {w : World} {v : Value} {s : ByteArray} (h : Bt w v s) : (convert 22 9 v).run Try.prog w = .ok (.string s) w := h.btr.conv
theorem BtR.cut {w : World} {A : Option Addr} {c : Nat} {s : ByteArray} (h : BtR w (.slice A s.size c) s) (n : Nat) (hn : n ≤ s.size) {c' : Nat} (hc' : n ≤ c') : BtR w (.slice A n c') (s.extract 0 n) := by
  have hsz : (s.extract 0 n).size = n := by rw [ByteArray.size_extract]; omega
  obtain ⟨A2, c2, he, hc, hr⟩ := h
  simp only [Value.slice.injEq] at he
  obtain ⟨rfl, -, rfl⟩ := he
  refine ⟨A, c', by rw [hsz], by omega, by rw [ucells_length, Nat.mul_one], fun hs => ?_⟩
  obtain ⟨ad, rfl, hb, hx⟩ := hr.2 (by omega)
  refine ⟨ad, rfl, hb, fun j u hj => hx j u ?_⟩
  unfold ucells at hj ⊢
  rw [Lib.extract_data, List.getElem?_map, List.drop_zero, List.getElem?_take] at hj
  rw [List.getElem?_map]
  split at hj
  · exact hj
  · simp at hj
/-- the name of a number -/
def nm (i : Nat) : ByteArray := ⟨#[110, UInt8.ofNat (97 + i)]⟩
theorem nm_conv (i : Nat) (hi : i ≤ 100) (w : World) : (convert 22 9 (.slice (some ⟨w.heap.size, 0, none⟩) 1 1)).run Try.prog (w.alloc (.cells #[.int .u8 (97 + (i : Int))] 5)) = .ok (.string ⟨#[UInt8.ofNat (97 + i)]⟩) (w.alloc (.cells #[.int .u8 (97 + (i : Int))] 5)) :=
  run_convert_bytes_back (P := Try.prog) _ 22 9 5 ⟨w.heap.size, 0, none⟩ 1 [UInt8.ofNat (97 + i)] Try.underlying22 Try.underlying5 Try.underlying9 (fun j hj => by
    obtain rfl : j = 0 := by simpa using hj
    have := (Blk.new w 5 #[.int .u8 (97 + (i : Int))]).cell 0
    have h2 : ((UInt8.ofNat (97 + i)).toNat : Int) = 97 + (i : Int) := by
      rw [UInt8.toNat_ofNat']
      omega
    simp only [List.getElem_cons_zero, h2]
    exact this)
set_option maxRecDepth 100000 in
set_option maxHeartbeats 4000000 in
theorem name_any (i : Nat) (hi : i ≤ 100) (w : World) : Calls Try.prog 15 #[.int .i64 i] w fun e w' => e = .returned (.string (nm i)) ∧ Below w.heap.size w w' := by
  have hB := (Below.refl w.heap.size w).alloc (Nat.le_refl _) (.cells #[.int .u8 (97 + (i : Int))] 5)
  have HB := Lib.hid hB
  have hcv := nm_conv i hi w
  have hnm : nm i = ⟨#[110]⟩ ++ ⟨#[UInt8.ofNat (97 + i)]⟩ := by apply ByteArray.ext; simp [nm]
  rw [hnm]
  have hs1 : (⟨#[110]⟩ ++ (⟨#[UInt8.ofNat (97 + i)]⟩ : ByteArray)).size = 2 := by rw [ByteArray.size_append]; rfl
  have hs2 : (⟨#[UInt8.ofNat (97 + i)]⟩ : ByteArray).size = 1 := rfl
  generalize (⟨#[UInt8.ofNat (97 + i)]⟩ : ByteArray) = s1 at hcv hs1 hs2 ⊢
  clear hB hnm
  have hiI : (97 : Int) + (i : Int) ≤ 255 := by omega
  go_enter Try.func15, Try.ntmps15
  go_wp2
  go_ret
  exact ⟨rfl, HB.out⟩
end Go.Proofs.Ytmgnpcoihehelaa
