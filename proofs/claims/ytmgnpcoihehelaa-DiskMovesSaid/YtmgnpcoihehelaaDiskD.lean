/- slices.Clip, Clone of bytes and of files. -/
import Derived.Test.YtmgnpcoihehelaaDiskC
import Derived.Lib.AppendZeros
import Derived.Lib.SliceRun
namespace Go.Proofs.Ytmgnpcoihehelaa
open Go.RowKit

set_option maxHeartbeats 1000000 in
theorem clip_any (A : Option Addr) (n c : Nat) (w : World) (h : n ≤ c) : Calls Try.prog 33 #[.slice A n c] w fun e w' => e = .returned (.slice A n n) ∧ w' = w := by
  have hI : (n : Int) ≤ (c : Int) := by omega
  go_enter Try.func33, Try.ntmps33
  go_wp2
  go_ret
  exact ⟨rfl, rfl⟩
theorem infoU : (Try.prog.info? 5).map (fun i => (i.zero, i.size, i.bytes)) = some (some (.int .u8 0), 1, 1) := by kernel_rfl
theorem infoF : (Try.prog.info? 61).map (fun i => (i.zero, i.size, i.bytes)) = some (some (.agg #[.string ⟨#[]⟩, .slice none 0 0, .int .i64 0]), 3, 48) := by kernel_rfl
theorem parts {P : Program} {t : TypeId} {z : Value} {n b : Nat} (h : (P.info? t).map (fun i => (i.zero, i.size, i.bytes)) = some (some z, n, b)) : ∃ i, P.info? t = some i ∧ i.zero = some z ∧ i.size = n ∧ i.bytes = b := by
  cases hi : P.info? t with
  | none => rw [hi] at h; cases h
  | some i =>
    rw [hi] at h
    simp at h
    exact ⟨i, rfl, h.1, h.2.1, h.2.2⟩
/-- bytes as cells -/
def ucells (s : ByteArray) : List Value := s.data.toList.map fun b => .int .u8 (b.toNat : Int)
theorem ucells_length (s : ByteArray) : (ucells s).length = s.size := by simp [ucells]
theorem ucells_at (s : ByteArray) (j : Nat) (h : j < s.size) : (ucells s)[j]? = some (.int .u8 ((s.get! j).toNat : Int)) := by
  have h' : j < s.data.toList.length := by simpa using h
  unfold ucells
  rw [List.getElem?_map, List.getElem?_eq_getElem h']
  have : s.get! j = s.data.toList[j] := by
    cases s; rename_i d
    have hd : j < d.size := h
    simp [ByteArray.get!, getElem!_pos d j hd]
  rw [this]; rfl
theorem Bt.rd {w : World} {v : Value} {s : ByteArray} (h : Bt w v s) : ∃ A c, v = .slice A s.size c ∧ s.size ≤ c ∧ Reads w w.heap.size 1 A s.size (ucells s) := by
  obtain ⟨A, c, rfl, hc, hr⟩ := h
  refine ⟨A, c, rfl, hc, by rw [ucells_length, Nat.mul_one], fun hn => ?_⟩
  obtain ⟨blk, off, cs, fz, rfl, hh, hx⟩ := hr hn
  refine ⟨_, rfl, (Array.getElem?_eq_some_iff.1 hh).1, fun j u hu => ?_⟩
  have hj : j < s.size := by rw [← ucells_length]; exact (List.getElem?_eq_some_iff.1 hu).1
  rw [ucells_at s j hj] at hu
  injection hu with hu
  subst hu
  have := cell_of_row w blk (off + j) cs _ fz hh
  rw [hx j hj] at this
  unfold Addr.add
  split
  · rename_i h0; subst h0; simpa using this
  · exact this
/-- a []byte that reads as so many bytes, whatever its block is made for (an argument) -/
def BtR (w : World) (v : Value) (s : ByteArray) : Prop := ∃ A c, v = .slice A s.size c ∧ s.size ≤ c ∧ Reads w w.heap.size 1 A s.size (ucells s)
theorem Bt.btr {w : World} {v : Value} {s : ByteArray} (h : Bt w v s) : BtR w v s := h.rd
theorem BtR.below {w w' : World} {v : Value} {s : ByteArray} (h : BtR w v s) (hb : Below w.heap.size w w') : BtR w' v s := by
  obtain ⟨A, c, hv, hc, hr⟩ := h
  exact ⟨A, c, hv, hc, (hr.below hb).more hb.size⟩
theorem BtR.drew {w : World} {v : Value} {s : ByteArray} (h : BtR w v s) : BtR w.drew v s := h
theorem Bt.of_own {w : World} {base : Nat} {v : Value} {s : ByteArray} (h : w.ownsRow base 5 1 v s.size (ucells s)) : Bt w v s := by
  rcases h.2 with ⟨rfl, h0⟩ | ⟨g, cap, cur, rfl, _, hh, hc, _, hsz, ht⟩
  · exact ⟨none, 0, by rw [h0], by omega, fun hs => by omega⟩
  · refine ⟨_, cap, rfl, hc, fun _ => ⟨g, 0, cur, (0, 0), rfl, hh, fun j hj => ?_⟩⟩
    have := ucells_at s j hj
    rw [← ht, List.getElem?_take, if_pos (by omega), Array.getElem?_toList] at this
    rw [Nat.zero_add]; exact this
theorem ucells_one (s : ByteArray) : ∀ u ∈ ucells s, u.oneCell' = true := by
  intro u hu
  obtain ⟨b, _, rfl⟩ := List.mem_map.1 hu
  rfl
set_option maxHeartbeats 2000000 in
theorem cloneB_any (w : World) (v : Value) (s : ByteArray) (h : Bt w v s) (hs : s.size ≤ 1000000000) :
    Calls Try.prog 34 #[v] w fun e w' => ∃ v', e = .returned v' ∧ Bt w' v' s ∧ w'.ownsRow w.heap.size 5 1 v' s.size (ucells s) ∧ Below w.heap.size w w' := by
  obtain ⟨A, c, rfl, hc, hr⟩ := h.rd
  obtain ⟨i0, hi, hz0, hz1, hz2⟩ := parts infoU
  have hnil : ∀ m, Sem.run Try.prog (binOp .eql 22 (.slice A m c) (.slice none 0 0)) w = .ok (.bool A.isNone) w := fun m => Lib.run_eql_slice_nil (P := Try.prog) w 22 5 A m c 0 0 Try.underlying22
  cases A with
  | none =>
    have h0 : s.size = 0 := by
      rcases Nat.eq_zero_or_pos s.size with h | h
      · exact h
      · obtain ⟨_, h', _⟩ := hr.2 h; cases h'
    have hn0 : Sem.run Try.prog (binOp .eql 22 (.slice none 0 c) (.slice none 0 0)) w = .ok (.bool true) w := hnil 0
    rw [h0]
    clear hnil
    have H0 := Lib.hid h0
    clear h hr hc hs h0 hi hz0 hz1 hz2
    go_enter Try.func34, Try.ntmps34
    go_wp2
    go_ret
    have h0 := H0.out
    have ho : w.ownsRow w.heap.size 5 1 (.slice none 0 0) s.size (ucells s) := ⟨by rw [ucells_length, Nat.mul_one], .inl ⟨rfl, h0⟩⟩
    exact ⟨.slice none 0 0, rfl, Bt.of_own ho, by rw [h0] at ho; exact ho, Below.refl _ _⟩
  | some ad =>
    have hn1 : Sem.run Try.prog (binOp .eql 22 (.slice (some ad) s.size c) (.slice none 0 0)) w = .ok (.bool false) w := hnil _
    clear hnil
    have hrA := hr.alloc (Nat.le_refl _) (.cells #[] 5)
    have ho : (w.alloc (.cells #[] 5)).ownsRow w.heap.size 5 1 (.slice (some ⟨w.heap.size, 0, none⟩) 0 0) 0 [] := ⟨by simp, .inr ⟨w.heap.size, 0, #[], rfl, Nat.le_refl _, heap_alloc_new w _, Nat.le_refl _, by unfold maxLen; omega, rfl, by simp⟩⟩
    have hBA := (Below.refl w.heap.size w).alloc (Nat.le_refl _) (.cells #[] 5)
    have HR := Lib.hid hrA; have HO := Lib.hid ho; have HB := Lib.hid hBA
    clear hrA ho hBA hr h
    go_enter Try.func34, Try.ntmps34
    go_wp2_with (at_builtin; refine wpList_append_any _ rfl (.tmp 5) (.tmp 6) 22 rfl w.heap.size 5 i0 (.int .u8 0) 1 1 Try.underlying22 hi hz0 hz1 hz2 rfl (by decide) _ _ _ rfl HO.out _ _ _ _ (ucells s) rfl HR.out (ucells_one s) (by unfold maxLen; omega) (by omega) (by simp) ?_; intro v3 w3 h2 h3 h4; have HO3 := Lib.hid h2; have HG3 := Lib.hid h3; clear h2 h3 h4)
    go_ret
    have ho3 := HO3.out
    rw [Nat.zero_add, List.nil_append] at ho3
    exact ⟨_, rfl, Bt.of_own ho3, ho3, HB.out.grown HG3.out (by simp) (fun k hk => (HO.out.lt k hk).1)⟩
/-- a file's cells are cells -/
theorem rcells_one {w : World} {base : Nat} {v : Value} {rows : List (FileD × Value)} (h : RowD w base v rows) : ∀ u ∈ rcells rows, u.oneCell' = true := by
  intro u hu
  obtain ⟨x, hx, hu⟩ := List.mem_flatMap.1 hu
  obtain ⟨A, c, he, _⟩ := h.2 x hx
  simp only [fcells, List.mem_cons, List.not_mem_nil, or_false] at hu
  rcases hu with rfl | rfl | rfl
  · rfl
  · rw [he]; rfl
  · rfl
theorem RowD.rd {w : World} {base : Nat} {v : Value} {rows : List (FileD × Value)} (h : RowD w base v rows) : ∃ A c, v = .slice A rows.length c ∧ (A = none → rows = []) ∧ Reads w w.heap.size 3 A rows.length (rcells rows) := by
  obtain ⟨A, c, rfl⟩ := own_shape h.1
  refine ⟨A, c, rfl, fun hn => ?_, Reads.of_own h.1⟩
  subst hn
  rcases h.1.2 with ⟨_, h0⟩ | ⟨g, cap, cur, hv, _⟩
  · exact List.eq_nil_of_length_eq_zero h0
  · injection hv with hv; cases hv
set_option maxHeartbeats 2000000 in
theorem cloneF_any (w : World) (base : Nat) (v : Value) (rows : List (FileD × Value)) (h : RowD w base v rows) (hs : rows.length ≤ 1000000000) :
    Calls Try.prog 32 #[v] w fun e w' => ∃ v', e = .returned v' ∧ RowD w' w.heap.size v' rows ∧ Below w.heap.size w w' := by
  have h1 := rcells_one h
  have hk := h.2
  obtain ⟨A, c, rfl, hA, hr⟩ := h.rd
  obtain ⟨i0, hi, hz0, hz1, hz2⟩ := parts infoF
  have hnil : ∀ m, Sem.run Try.prog (binOp .eql 54 (.slice A m c) (.slice none 0 0)) w = .ok (.bool A.isNone) w := fun m => Lib.run_eql_slice_nil (P := Try.prog) w 54 61 A m c 0 0 Try.underlying54
  cases A with
  | none =>
    obtain rfl := hA rfl
    have hn0 : Sem.run Try.prog (binOp .eql 54 (.slice none 0 c) (.slice none 0 0)) w = .ok (.bool true) w := hnil 0
    clear hnil h hr hs hi hz0 hz1 hz2 hA h1 hk
    rw [List.length_nil]
    go_enter Try.func32, Try.ntmps32
    go_wp2
    go_ret
    exact ⟨.slice none 0 0, rfl, ⟨World.ownsRow_nil _ _ _ _, by simp⟩, Below.refl _ _⟩
  | some ad =>
    have hn1 : Sem.run Try.prog (binOp .eql 54 (.slice (some ad) rows.length c) (.slice none 0 0)) w = .ok (.bool false) w := hnil _
    clear hnil
    have hrA := hr.alloc (Nat.le_refl _) (.cells #[] 61)
    have ho : (w.alloc (.cells #[] 61)).ownsRow w.heap.size 61 3 (.slice (some ⟨w.heap.size, 0, none⟩) 0 0) 0 [] := ⟨by simp, .inr ⟨w.heap.size, 0, #[], rfl, Nat.le_refl _, heap_alloc_new w _, Nat.le_refl _, by unfold maxLen; omega, rfl, by simp⟩⟩
    have hBA := (Below.refl w.heap.size w).alloc (Nat.le_refl _) (.cells #[] 61)
    have HR := Lib.hid hrA; have HO := Lib.hid ho; have HB := Lib.hid hBA; have H1 := Lib.hid h1; have HK := Lib.hid hk
    clear hrA ho hBA hr h h1 hk
    go_enter Try.func32, Try.ntmps32
    go_wp2_with (at_builtin; refine wpList_append_any _ rfl (.tmp 5) (.tmp 6) 54 rfl w.heap.size 61 i0 (.agg #[.string ⟨#[]⟩, .slice none 0 0, .int .i64 0]) 3 48 Try.underlying54 hi hz0 hz1 hz2 rfl (by decide) _ _ _ rfl HO.out _ _ _ _ (rcells rows) rfl HR.out H1.out (by unfold maxLen; omega) (by omega) (by simp) ?_; intro v3 w3 h2 h3 h4; have HO3 := Lib.hid h2; have HG3 := Lib.hid h3; clear h2 h3 h4)
    go_ret
    have ho3 := HO3.out
    rw [Nat.zero_add, List.nil_append] at ho3
    have hb3 := HB.out.grown HG3.out (by simp) (fun k hk => (HO.out.lt k hk).1)
    exact ⟨_, rfl, ⟨ho3, fun x hx => (HK.out x hx).below hb3⟩, hb3⟩
end Go.Proofs.Ytmgnpcoihehelaa
