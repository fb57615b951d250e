/- What a cut and a removal make room for, in plain words. -/
import Derived.Test.YtcfcfpphhaknnaaDiskCut
import Derived.Test.YtcfcfpphhaknnaaDk5
namespace Go.Proofs.Ytcfcfpphhaknnaa
open Go.RowKit

/-- a [][]byte argument: its rows -/
structure Rows2 (w : World) (A : Option Addr) (xs : List (Value × ByteArray)) : Prop where
  rd : Rd w 1 A xs.length (xs.map (·.1))
  bt : ∀ x ∈ xs, BtR w x.1 x.2
theorem Rows2.at_ {w wi : World} {A : Option Addr} {xs : List (Value × ByteArray)} (h : Rows2 w A xs) (hb : Below w.heap.size w wi) {i : Nat} (hi : i < xs.length) :
    ∃ ad x A' c', A = some ad ∧ xs[i]? = some x ∧ x.1 = .slice A' x.2.size c' ∧ x.2.size ≤ c' ∧ ad.block < w.heap.size ∧ wi.cell? (ad.add i) = some (.slice A' x.2.size c') ∧ BtR wi (.slice A' x.2.size c') x.2 := by
  obtain ⟨ad, u, rfl, hx, hc⟩ := (h.rd.below hb).at_ hi
  rw [List.getElem?_map, Option.map_eq_some_iff] at hx
  obtain ⟨x, hx, rfl⟩ := hx
  have hbt := h.bt x (List.mem_of_getElem? hx)
  obtain ⟨A', c', hv, hcc, _⟩ := id hbt
  have hb2 := hbt.below hb
  rw [hv] at hc hb2
  obtain ⟨ad', e, hlt, _⟩ := h.rd.2 (by omega)
  injection e with e
  subst e
  exact ⟨ad, x, A', c', rfl, hx, hv, hcc, hlt, hc, hb2⟩
theorem Bt.drew {w : World} {v : Value} {s : ByteArray} (h : Bt w v s) : Bt w.drew v s := h
theorem badN_nm (i : Nat) : badN (nm i) = false := rfl
def zN : ByteArray := ⟨#[122]⟩
theorem nm_zN (i : Nat) : nm i ≠ zN := fun e => by
  have := congrArg ByteArray.size e
  cases this
/-- so many bytes that are 0 -/
def zerosB (n : Nat) : ByteArray := ⟨Array.replicate n 0⟩
theorem zerosB_size (n : Nat) : (zerosB n).size = n := by simp [zerosB, ByteArray.size]
theorem zerosB_cells (n : Nat) : madeCells (Value.int .u8 0).cells (n * 1) = (ucells (zerosB n)).toArray := by
  apply Array.ext'
  simp [madeCells, ucells, zerosB, Value.cells]
  rw [List.eq_replicate_iff]
  refine ⟨by simp, fun b hb => ?_⟩
  obtain ⟨x, _, rfl⟩ := List.mem_map.1 hb
  simp [Nat.mod_one]
theorem run_make_bytes (n : Nat) (hn : n ≤ 1000000000) (w : World) : (Instr.makeSlice 22 (.int .i64 (n : Int)) (.int .i64 (n : Int))).run Try.prog w = .ok (.slice (some ⟨w.heap.size, 0, none⟩) n n) (w.alloc (.cells (ucells (zerosB n)).toArray 5)) := by
  obtain ⟨i0, hi0, hz0, hz1, hz2⟩ := parts infoU
  have h := run_make_rowN (P := Try.prog) 22 5 i0 (.int .u8 0) Try.underlying22 hi0 hz0 .i64 .i64 n n (Nat.le_refl _) (by rw [hz2]; omega) (by omega) w
  rw [hz1, zerosB_cells] at h
  exact h
theorem bt_zeros (n : Nat) (w : World) : Bt (w.alloc (.cells (ucells (zerosB n)).toArray 5)) (.slice (some ⟨w.heap.size, 0, none⟩) n n) (zerosB n) := by
  have := bt_lit w (zerosB n) _ rfl
  rwa [zerosB_size] at this
theorem does_del {L : List FileD} {i : Nat} {m : Nat} {dst : ByteArray} {f : FileD} : doesL 3 L i m dst f = L.take i ++ L.drop (i + 1) := by
  unfold doesL; rw [if_pos rfl]
theorem room_plain {L : List FileD} {q n : Int} {f : FileD} (h : SortedF L) (hq : q ≤ 65535) (hf : f ∈ L) (hfn : f.name = nm 1) (hz : ∀ g ∈ L, g.name ≠ zN) (hl : L.length ≤ 100) (k : Nat) (hk : k ≤ f.b.size) (fr : Nat) (hfr : (fr : Int) = q - usedL L + f.b.size - k) :
    ∃ L1 L2 L3, (⟨L, q, n, -1, false⟩ : DiskD).step 1 (nm 1) (nm 1) k false = (0, ⟨L1, q, n + 1, -1, false⟩) ∧
      (⟨L1, q, n + 1, -1, false⟩ : DiskD).append zN (zerosB (fr + 1)) = (161, ⟨L1, q, n + 1, -1, false⟩) ∧
      (⟨L1, q, n + 1, -1, false⟩ : DiskD).append zN (zerosB fr) = (0, ⟨L2, q, n + 1 + 1, -1, false⟩) ∧ (usedL L2 : Int) = q ∧
      (⟨L2, q, n + 1 + 1, -1, false⟩ : DiskD).read (nm 1) = (0, f.b.extract 0 k) ∧
      (⟨L2, q, n + 1 + 1, -1, false⟩ : DiskD).step 3 zN zN 0 true = (0, ⟨L3, q, n + 1 + 1 + 1, -1, false⟩) ∧
      (⟨L3, q, n + 1 + 1 + 1, -1, false⟩ : DiskD).step 3 zN zN 0 true = (5, ⟨L3, q, n + 1 + 1 + 1, -1, false⟩) ∧ (usedL L3 : Int) = q - fr ∧
      (⟨L3, q, n + 1 + 1 + 1, -1, false⟩ : DiskD).step 1 (nm 1) (nm 1) (k + 1) false = (2, ⟨L3, q, n + 1 + 1 + 1, -1, false⟩) ∧
      (⟨L3, q, n + 1 + 1 + 1, -1, false⟩ : DiskD).step 1 (nm 1) (nm 1) (-1) false = (2, ⟨L3, q, n + 1 + 1 + 1, -1, false⟩) ∧
      (usedL L1 : Int) ≤ q ∧ L1.length ≤ 1000 ∧ L2.length ≤ 1000 ∧ L3.length ≤ 1000 := by
  have hbf : badN f.name = false := by rw [hfn]; rfl
  obtain ⟨i, hi, e1⟩ := step_ok (q := q) (n := n) h hf hbf (dst := nm 1) rfl 1 k false k (by simp) hk
  rw [hfn] at e1
  obtain ⟨hd1, hd2⟩ := does_safe h hi k (nm 1) (kind := 1) (.inr rfl)
  have hd2 := hd2 hk
  have hs1 : SortedF (doesL 1 L i k (nm 1) f) := by rw [hd1]; exact putF_sorted h _
  have hm1 : ∀ g, g ∈ doesL 1 L i k (nm 1) f ↔ g = ⟨f.name, f.b.extract 0 k, k⟩ ∨ g ∈ L ∧ g.name ≠ f.name := fun g => by rw [hd1]; exact mem_putF h _ g
  have hl1 : (doesL 1 L i k (nm 1) f).length ≤ 101 := by
    rw [hd1]
    have h2 : (putF L ⟨f.name, f.b.extract 0 k, k⟩).length ≤ L.length + 1 := put_len (D := ⟨L, q, n, -1, false⟩) ⟨f.name, f.b.extract 0 k, k⟩
    omega
  have hfu := size_le_used hf
  generalize doesL 1 L i k (nm 1) f = L1 at *
  have e2 := append_full (q := q) (n := n + 1) hs1 (t := zN) (b := zerosB (fr + 1)) rfl (by rw [zerosB_size]; omega) (by rw [zerosB_size]; omega)
  obtain ⟨fz, hzn, hzb, -, e3, hu2⟩ := append_ok (q := q) (n := n + 1) hs1 (t := zN) (b := zerosB fr) rfl (by rw [zerosB_size]; omega) (by rw [zerosB_size]; omega)
  have hz1 : ∀ g ∈ L1, g.name ≠ zN := fun g hg => by
    rcases (hm1 g).1 hg with rfl | ⟨hg, _⟩
    · show f.name ≠ zN
      rw [hfn]; exact nm_zN 1
    · exact hz g hg
  have hwas : (⟨L1, q, n + 1, -1, false⟩ : DiskD).was zN = ⟨zN, ByteArray.empty, -1⟩ := by
    unfold DiskD.was
    rw [at_no (D := ⟨L1, q, n + 1, -1, false⟩) hz1]
  rw [hwas] at hzb
  have hzs : fz.b.size = fr := by rw [hzb, ByteArray.size_append, zerosB_size]; show 0 + _ = _; omega
  have hs2 := putF_sorted hs1 fz
  have hm2 := mem_putF hs1 fz
  have hl2 : (putF L1 fz).length ≤ L1.length + 1 := put_len (D := ⟨L1, q, n + 1, -1, false⟩) fz
  have hl2' : (putF L1 fz).length ≤ 102 := by omega
  rw [zerosB_size] at hu2
  generalize putF L1 fz = L2 at *
  have hk2 : (⟨f.name, f.b.extract 0 k, k⟩ : FileD) ∈ L2 := (hm2 _).2 (.inr ⟨(hm1 _).2 (.inl rfl), by rw [hzn, hfn]; exact nm_zN 1⟩)
  have e5 := read_ok (q := q) (n := n + 1 + 1) hs2 hk2 hbf
  rw [hfn] at e5
  have hz2 : fz ∈ L2 := (hm2 _).2 (.inl rfl)
  obtain ⟨j, hj, e6⟩ := step_ok (q := q) (n := n + 1 + 1) hs2 hz2 (by rw [hzn]; rfl) (dst := zN) rfl 3 0 true fz.b.size (by simp) (Nat.le_refl _)
  rw [hzn, does_del] at e6
  have hs3 := del_sorted hs2 j
  have hm3 := mem_del hs2 hj
  have hu3 := usedL_split hj
  have hl3 : (L2.take j ++ L2.drop (j + 1)).length ≤ 102 := by rw [List.length_append, List.length_take, List.length_drop]; omega
  generalize L2.take j ++ L2.drop (j + 1) = L3 at *
  have hz3 : ∀ g ∈ L3, g.name ≠ zN := fun g hg => by rw [← hzn]; exact ((hm3 g).1 hg).2
  have hk3 : (⟨f.name, f.b.extract 0 k, k⟩ : FileD) ∈ L3 := (hm3 _).2 ⟨hk2, by rw [hzn]; show f.name ≠ zN; rw [hfn]; exact nm_zN 1⟩
  have hsz : (f.b.extract 0 k).size = k := by rw [ByteArray.size_extract]; omega
  have e9 := step_arg (q := q) (n := n + 1 + 1 + 1) hs3 hk3 hbf 1 (k + 1) (.inr (by show ((f.b.extract 0 k).size : Int) < _; rw [hsz]; omega))
  have e10 := step_arg (q := q) (n := n + 1 + 1 + 1) hs3 hk3 hbf 1 (-1) (.inl (by decide))
  rw [show (⟨f.name, f.b.extract 0 k, k⟩ : FileD).name = nm 1 from hfn] at e9 e10
  exact ⟨L1, L2, L3, e1, e2, e3, by omega, e5, e6, step_none hz3 rfl rfl 3 0 true, by omega, e9, e10, by omega, by omega, by omega, by omega⟩
end Go.Proofs.Ytcfcfpphhaknnaa
