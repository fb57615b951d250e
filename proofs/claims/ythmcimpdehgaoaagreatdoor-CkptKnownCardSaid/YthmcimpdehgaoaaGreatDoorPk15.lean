/- A checkpoint's file, as the reader takes it apart. A store of checkpoints: Read. -/
import Derived.Test.YthmcimpdehgaoaaGreatDoorPk13
import Derived.Test.YthmcimpdehgaoaaGreatDoorPk7
import Derived.Test.YthmcimpdehgaoaaGreatDoorCkC
import Derived.OrdersHeld
import Derived.Deep.RegionHeld3
import Derived.Deep.DeepCutAuto
namespace Go.Proofs.YthmcimpdehgaoaaGreatDoor
open Go.RowKit

theorem nextC_ok {r : RdD} {n : Nat} (hb : r.bad = false) (h : r.at_ + n ≤ r.b.size) : r.next (n : Int) = (r.b.extract r.at_ (r.at_ + n), ⟨r.b, r.at_ + n, false⟩) := by
  unfold RdD.next
  rw [if_neg (by unfold RdD.falls; simp [hb]; omega), hb]
  simp
theorem nextC_good {r : RdD} {n : Nat} (h : (r.next (n : Int)).2.bad = false) : r.bad = false ∧ r.at_ + n ≤ r.b.size := by
  unfold RdD.next at h
  split at h
  · cases h
  · rename_i hf
    unfold RdD.falls at hf
    simp at hf
    exact ⟨hf.1, by omega⟩
theorem ext_app (f : ByteArray) {i j k : Nat} (h1 : i ≤ j) (h2 : j ≤ k) : f.extract i j ++ f.extract j k = f.extract i k := by
  apply ByteArray.ext
  rw [ByteArray.data_append, ByteArray.data_extract, ByteArray.data_extract, ByteArray.data_extract, Array.extract_append_extract, Nat.min_eq_left h1, Nat.max_eq_right h2]
theorem ext_piece (a m c : ByteArray) : ((a ++ m) ++ c).extract a.size (a.size + m.size) = m := by
  apply ByteArray.ext
  have h2 : a.data.size = a.size := rfl
  have h3 : m.size = m.data.size := rfl
  rw [ByteArray.data_extract, ByteArray.data_append, ByteArray.data_append, Array.append_assoc]
  apply Array.ext'
  rw [Array.toList_extract]
  simp only [Array.toList_append, List.extract_eq_take_drop]
  rw [List.drop_append_of_le_length (by simp [h2]), List.drop_of_length_le (by simp [h2]), List.nil_append, List.take_append_of_le_length (by simp), List.take_of_length_le (by simp)]
/-- what the reader reads, in its order -/
def rc0 (f : ByteArray) : RdD := ⟨f, 0, false⟩
def rc1 (f : ByteArray) : RdD := ((rc0 f).next 1).2
def rc2 (f : ByteArray) : RdD := ((rc1 f).next 8).2
def rc3 (f : ByteArray) : RdD := ((rc2 f).next 4).2
def szC (f : ByteArray) : Nat := numB ((rc2 f).next 4).1
def rc4 (f : ByteArray) : RdD := ((rc3 f).next (szC f)).2
def rc5 (f : ByteArray) : RdD := ((rc4 f).next 4).2
/-- a file that is right -/
structure GoodC (n : Nat) (f : ByteArray) : Prop where
  bad : (rc5 f).bad = false
  left : (f.size : Int) - ((rc5 f).at_ : Int) ≤ 0
  tag : numB ((rc0 f).next 1).1 = 67
  num : numB ((rc1 f).next 8).1 = n
  size : szC f ≤ 4194304
  sum : numB ((rc4 f).next 4).1 = crcN (f.extract 0 (f.size - 4))
/-- the reads of a file that is long enough -/
theorem reads {f : ByteArray} (h17 : 17 ≤ f.size) : (rc0 f).next 1 = (f.extract 0 1, ⟨f, 1, false⟩) ∧ (rc1 f).next 8 = (f.extract 1 9, ⟨f, 9, false⟩) ∧ (rc2 f).next 4 = (f.extract 9 13, ⟨f, 13, false⟩) := by
  have e1 : (rc0 f).next 1 = (f.extract 0 1, ⟨f, 1, false⟩) := by rw [show (1 : Int) = ((1 : Nat) : Int) from rfl, nextC_ok rfl (by show 0 + 1 ≤ f.size; omega)]; rfl
  have r1 : rc1 f = ⟨f, 1, false⟩ := by unfold rc1; rw [e1]
  have e2 : (rc1 f).next 8 = (f.extract 1 9, ⟨f, 9, false⟩) := by rw [r1, show (8 : Int) = ((8 : Nat) : Int) from rfl, nextC_ok rfl (by show 1 + 8 ≤ f.size; omega)]
  have r2 : rc2 f = ⟨f, 9, false⟩ := by unfold rc2; rw [e2]
  have e3 : (rc2 f).next 4 = (f.extract 9 13, ⟨f, 13, false⟩) := by rw [r2, show (4 : Int) = ((4 : Nat) : Int) from rfl, nextC_ok rfl (by show 9 + 4 ≤ f.size; omega)]
  exact ⟨e1, e2, e3⟩
theorem reads2 {f : ByteArray} (h17 : 17 ≤ f.size) (hs : 17 + szC f ≤ f.size) : (rc3 f).next (szC f) = (f.extract 13 (13 + szC f), ⟨f, 13 + szC f, false⟩) ∧ (rc4 f).next 4 = (f.extract (13 + szC f) (17 + szC f), ⟨f, 17 + szC f, false⟩) := by
  obtain ⟨-, -, e3⟩ := reads h17
  have r3 : rc3 f = ⟨f, 13, false⟩ := by unfold rc3; rw [e3]
  have e4 : (rc3 f).next (szC f) = (f.extract 13 (13 + szC f), ⟨f, 13 + szC f, false⟩) := by rw [r3, nextC_ok rfl (by show 13 + szC f ≤ f.size; omega)]
  have r4 : rc4 f = ⟨f, 13 + szC f, false⟩ := by unfold rc4; rw [e4]
  refine ⟨e4, ?_⟩
  rw [r4, show (4 : Int) = ((4 : Nat) : Int) from rfl, nextC_ok rfl (by show 13 + szC f + 4 ≤ f.size; omega)]
  show (f.extract (13 + szC f) (13 + szC f + 4), (⟨f, 13 + szC f + 4, false⟩ : RdD)) = _
  rw [show 13 + szC f + 4 = 17 + szC f by omega]
theorem rc_b (f : ByteArray) : (rc0 f).b = f ∧ (rc1 f).b = f ∧ (rc2 f).b = f ∧ (rc3 f).b = f ∧ (rc4 f).b = f ∧ (rc5 f).b = f := by
  have hb : ∀ (r : RdD) (n : Int), (r.next n).2.b = r.b := fun r n => by unfold RdD.next; split <;> rfl
  have h1 : (rc1 f).b = f := hb _ _
  have h2 : (rc2 f).b = f := (hb _ _).trans h1
  have h3 : (rc3 f).b = f := (hb _ _).trans h2
  have h4 : (rc4 f).b = f := (hb _ _).trans h3
  exact ⟨rfl, h1, h2, h3, h4, (hb _ _).trans h4⟩
/-- with no read amiss, the file is long enough -/
theorem good_len {f : ByteArray} (h : (rc5 f).bad = false) : 17 + szC f ≤ f.size := by
  obtain ⟨b0, b1, b2, b3, b4, -⟩ := rc_b f
  have g5 := nextC_good (n := 4) h
  have g4 := nextC_good g5.1
  have g3 := nextC_good (n := 4) g4.1
  have g2 := nextC_good (n := 8) g3.1
  have g1 := nextC_good (n := 1) g2.1
  rw [b4] at g5; rw [b3] at g4; rw [b2] at g3; rw [b1] at g2; rw [b0] at g1
  have e1 : (rc0 f).next 1 = (f.extract 0 1, ⟨f, 1, false⟩) := by rw [show (1 : Int) = ((1 : Nat) : Int) from rfl, nextC_ok rfl (by show 0 + 1 ≤ f.size; exact g1.2)]; rfl
  have r1 : rc1 f = ⟨f, 1, false⟩ := by unfold rc1; rw [e1]
  rw [r1] at g2
  have e2 : (rc1 f).next 8 = (f.extract 1 9, ⟨f, 9, false⟩) := by rw [r1, show (8 : Int) = ((8 : Nat) : Int) from rfl, nextC_ok rfl (by show 1 + 8 ≤ f.size; exact g2.2)]
  have r2 : rc2 f = ⟨f, 9, false⟩ := by unfold rc2; rw [e2]
  rw [r2] at g3
  have e3 : (rc2 f).next 4 = (f.extract 9 13, ⟨f, 13, false⟩) := by rw [r2, show (4 : Int) = ((4 : Nat) : Int) from rfl, nextC_ok rfl (by show 9 + 4 ≤ f.size; exact g3.2)]
  have r3 : rc3 f = ⟨f, 13, false⟩ := by unfold rc3; rw [e3]
  rw [r3] at g4
  have e4 : (rc3 f).next (szC f) = (f.extract 13 (13 + szC f), ⟨f, 13 + szC f, false⟩) := by rw [r3, nextC_ok rfl (by show 13 + szC f ≤ f.size; exact g4.2)]
  have r4 : rc4 f = ⟨f, 13 + szC f, false⟩ := by unfold rc4; rw [e4]
  rw [r4] at g5
  have := g5.2
  dsimp only at this
  omega
theorem num_eq {s : ByteArray} {W n : Nat} (hs : s.size = W) (h : numB s = n) : s = digB W n := by
  have := digB_numB s
  rw [hs, h] at this
  exact this.symm
theorem ext_size {f : ByteArray} {i j : Nat} (h2 : j ≤ f.size) : (f.extract i j).size = j - i := by rw [ByteArray.size_extract, Nat.min_eq_left h2]
theorem good_data {n : Nat} {f : ByteArray} (h : GoodC n f) : f = fileC n ((rc3 f).next (szC f)).1 ∧ ((rc3 f).next (szC f)).1.size ≤ 4194304 := by
  have hl := good_len h.bad
  have h17 : 17 ≤ f.size := by omega
  obtain ⟨e1, e2, e3⟩ := reads h17
  obtain ⟨e4, e5⟩ := reads2 h17 hl
  have hat : (rc5 f).at_ = 17 + szC f := by unfold rc5; rw [e5]
  have hfs : f.size = 17 + szC f := by have := h.left; rw [hat] at this; omega
  have d1 : f.extract 0 1 = digB 1 67 := num_eq (ext_size (by omega)) (by have := h.tag; rwa [e1] at this)
  have d2 : f.extract 1 9 = digB 8 n := num_eq (ext_size (by omega)) (by have := h.num; rwa [e2] at this)
  have d3 : f.extract 9 13 = digB 4 (szC f) := num_eq (ext_size (by omega)) (by unfold szC; rw [e3])
  have d5 : f.extract (13 + szC f) (17 + szC f) = digB 4 (crcN (f.extract 0 (f.size - 4))) := num_eq (by rw [ext_size (by omega)]; omega) (by have := h.sum; rwa [e5] at this)
  rw [e4]
  have hsz : (f.extract 13 (13 + szC f)).size = szC f := by rw [ext_size (by omega)]; omega
  have hH : headC n (f.extract 13 (13 + szC f)) = f.extract 0 (13 + szC f) := by
    unfold headC
    rw [hsz, ← d2, ← d3, show (⟨#[67]⟩ : ByteArray) = digB 1 67 from rfl, ← d1, ext_app f (by omega) (by omega), ext_app f (by omega) (by omega), ext_app f (by omega) (by omega)]
  refine ⟨?_, by show (f.extract 13 (13 + szC f)).size ≤ _; rw [hsz]; exact h.size⟩
  show f = fileC n (f.extract 13 (13 + szC f))
  unfold fileC
  rw [hH]
  have h13 : f.size - 4 = 13 + szC f := by omega
  rw [h13] at d5
  rw [← d5, ext_app f (by omega) (by omega), ← hfs]
  apply ByteArray.ext
  rw [ByteArray.data_extract]
  exact Array.extract_size.symm
theorem data_good {n : Nat} {b : ByteArray} (hn : n ≤ 1073741824) (hb : b.size ≤ 4194304) : GoodC n (fileC n b) ∧ ((rc3 (fileC n b)).next (szC (fileC n b))).1 = b := by
  have hfs := fileC_size n b
  have hhs := headC_size n b
  obtain ⟨f, hf⟩ : ∃ f, fileC n b = f := ⟨_, rfl⟩
  have h17 : 17 ≤ f.size := by rw [← hf]; omega
  have s8 := digB_size 8 n
  have s4 := digB_size 4 b.size
  have s4' := digB_size 4 (crcN (headC n b))
  have p1 : f.extract 0 1 = ⟨#[67]⟩ := by
    have := ext_piece ByteArray.empty ⟨#[67]⟩ (digB 8 n ++ (digB 4 b.size ++ (b ++ digB 4 (crcN (headC n b)))))
    rw [show ByteArray.empty.size = 0 from rfl, Nat.zero_add, show (⟨#[67]⟩ : ByteArray).size = 1 from rfl] at this
    rw [← hf]
    unfold fileC headC
    simpa [ByteArray.append_assoc, headC] using this
  have p2 : f.extract 1 9 = digB 8 n := by
    have := ext_piece ⟨#[67]⟩ (digB 8 n) (digB 4 b.size ++ (b ++ digB 4 (crcN (headC n b))))
    rw [s8, show (⟨#[67]⟩ : ByteArray).size = 1 from rfl] at this
    rw [← hf]
    unfold fileC headC
    simpa [ByteArray.append_assoc, headC] using this
  have p3 : f.extract 9 13 = digB 4 b.size := by
    have := ext_piece (⟨#[67]⟩ ++ digB 8 n) (digB 4 b.size) (b ++ digB 4 (crcN (headC n b)))
    rw [ByteArray.size_append, s8, s4, show (⟨#[67]⟩ : ByteArray).size = 1 from rfl] at this
    rw [← hf]
    unfold fileC headC
    simpa [ByteArray.append_assoc, headC] using this
  obtain ⟨e1, e2, e3⟩ := reads h17
  have hz : szC f = b.size := by unfold szC; rw [e3, p3, numB_digB]; exact Nat.mod_eq_of_lt (by omega)
  have hle : 17 + szC f ≤ f.size := by rw [hz, ← hf]; omega
  obtain ⟨e4, e5⟩ := reads2 h17 hle
  have p4 : f.extract 13 (13 + b.size) = b := by rw [← hf]; exact headC_data n b _
  have p5 : f.extract (13 + b.size) (17 + b.size) = digB 4 (crcN (headC n b)) := by
    have := ext_piece (headC n b) (digB 4 (crcN (headC n b))) ByteArray.empty
    rw [hhs, s4', show 13 + b.size + 4 = 17 + b.size by omega, ByteArray.append_empty] at this
    rw [← hf]; exact this
  have p6 : f.extract 0 (f.size - 4) = headC n b := by
    have := ext_piece ByteArray.empty (headC n b) (digB 4 (crcN (headC n b)))
    rw [hhs, ByteArray.empty_append, show ByteArray.empty.size = 0 from rfl, Nat.zero_add] at this
    rw [← hf, hfs, show 17 + b.size - 4 = 13 + b.size by omega]
    exact this
  have h5 : rc5 f = ⟨f, 17 + szC f, false⟩ := by unfold rc5; rw [e5]
  rw [hf]
  refine ⟨⟨by rw [h5], ?_, by rw [e1, p1]; rfl, by rw [e2, p2, numB_digB]; exact Nat.mod_eq_of_lt (by omega), by omega, ?_⟩, by rw [e4, hz]; exact p4⟩
  · rw [h5]; show (f.size : Int) - ((17 + szC f : Nat) : Int) ≤ 0; rw [hz, ← hf, hfs]; omega
  · rw [e5, p6, hz, p5, numB_digB]; exact Nat.mod_eq_of_lt (crcN_lt _)
/-- a file that is right, or none -/
theorem dataC_good {n : Nat} {f : ByteArray} (h : GoodC n f) : dataC n f = some ((rc3 f).next (szC f)).1 := by
  have hd := good_data h
  have := dataC_file (n := n) hd.2
  rwa [← hd.1] at this
theorem dataC_bad {n : Nat} {f : ByteArray} (hn : n ≤ 1073741824) (h : ¬ GoodC n f) : dataC n f = none := by
  cases hd : dataC n f with
  | none => rfl
  | some b =>
    have := dataC_some hd
    exact absurd (this.1 ▸ (data_good hn this.2).1) h
end Go.Proofs.YthmcimpdehgaoaaGreatDoor
namespace Go.Proofs.YthmcimpdehgaoaaGreatDoor
open Go.RowKit Go.Maps

theorem rBad_any (w : World) (g : Nat) (r : RdD) (h : RdIs w g r) : Calls Tryz.prog 53 #[.pointer (some ⟨g, 0, none⟩)] w fun e w' => e = .returned (.bool r.bad) ∧ w' = w := by
  obtain ⟨h1, h2, v, hk, hb⟩ := h
  obtain ⟨A, c, rfl, -, -⟩ := hb
  have c2 := hk.cell 2
  simp only [List.getElem?_toArray, List.getElem?_cons_zero, List.getElem?_cons_succ] at c2
  clear hk h1 h2
  go_enter Tryz.func53, Tryz.ntmps53
  go_wp2
  go_ret
  exact ⟨rfl, rfl⟩
theorem ownC_keep {w w' : World} {b : Nat} {e : TypeId} {size n : Nat} {v : Value} {xs : List Value} (h : w.ownsRow b e size v n xs) (hk : ∀ (g : Nat) cs fz, w.heap[g]? = some (.cells cs e fz) → w'.heap[g]? = w.heap[g]?) : w'.ownsRow b e size v n xs := by
  refine ⟨h.1, ?_⟩
  rcases h.2 with hn | ⟨g, cap, cur, hv, hb, hh, rest⟩
  · exact .inl hn
  · exact .inr ⟨g, cap, cur, hv, hb, (hk g cur _ hh).trans hh, rest⟩
theorem ownC_below {w w' : World} {b : Nat} {e : TypeId} {size n : Nat} {v : Value} {xs : List Value} (h : w.ownsRow b e size v n xs) (hb : Below w.heap.size w w') : w'.ownsRow b e size v n xs :=
  ownC_keep h fun g _ _ hh => hb.block g (Array.getElem?_eq_some_iff.1 hh).1
theorem RdIs.notU8 {w : World} {g : Nat} {r : RdD} (h : RdIs w g r) : ∀ cs fz, w.heap[g]? ≠ some (Obj.cells cs 5 fz) := by
  intro cs fz hh
  obtain ⟨-, -, v, hk, -⟩ := h
  have h1 := hk.symm.trans hh
  injection h1 with h1
  injection h1 with _ ht
  exact absurd ht (by decide)
theorem ownC_moved {w w' : World} {b g n : Nat} {r : RdD} {v : Value} {xs : List Value} (h : w.ownsRow b 5 1 v n xs) (hr : RdIs w g r) (hm : Moved w w' g none) : w'.ownsRow b 5 1 v n xs :=
  ownC_keep h fun k cs fz hh => hm.block k (Array.getElem?_eq_some_iff.1 hh).1 (fun e => hr.notU8 cs fz (e ▸ hh)) (by simp)
/-- amid a read: the reader, the file's bytes -/
structure CrS (w x : World) (g : Nat) (r : RdD) (bv : Value) (b : ByteArray) : Prop where
  rd : RdIs x g r
  bt : Bt x bv b
  below : Below w.heap.size w x
  gt : w.heap.size ≤ g
theorem CrS.moved {w x y : World} {g : Nat} {r r2 : RdD} {bv : Value} {b : ByteArray} (h : CrS w x g r bv b) (hr : RdIs y g r2) (hm : Moved x y g none) : CrS w y g r2 bv b :=
  ⟨hr, h.bt.moved hm h.rd.notU8 (by simp), h.below.trans (hm.below h.gt (by simp) h.below.size), h.gt⟩
theorem readC_size {D : DiskD} (hf : Fit D) (t : ByteArray) : (D.read t).2.size ≤ 1000000000 := by
  have h0 : ByteArray.empty.size ≤ 1000000000 := Nat.zero_le _
  unfold DiskD.read
  split
  · exact h0
  · split
    · show ((D.files.map (·.b)).getD _ ByteArray.empty).size ≤ _
      rw [List.getD_eq_getElem?_getD, List.getElem?_map]
      cases hx : D.files[(findN (D.files.map (·.name)) t).1]? with
      | none => exact h0
      | some f => exact hf.size f (List.mem_of_getElem? hx)
    · exact h0
theorem Bt.cap {w : World} {A : Option Addr} {n c : Nat} {s : ByteArray} (h : Bt w (.slice A n c) s) : s.size ≤ c := by
  obtain ⟨A2, c2, he, hc, -⟩ := h
  simp only [Value.slice.injEq] at he
  omega
theorem run_uptoC {P : Program} {t e : TypeId} {i : TypeInfo} (ht : P.underlying t = some (.slice e)) (hi : P.info? e = some i) (A : Option Addr) (n c j : Nat) (hj : j ≤ c) (w : World) :
    (Instr.slice t (.slice A n c) none (some (.int .i64 j)) none).run P w = .ok (.slice A j c) w := by
  have he : P.elem t = e := by unfold Program.elem; rw [ht]
  have hA : A.map (fun a => a.add 0) = A := by cases A <;> simp [Addr.add]
  rw [run_slice_h w t A n c (by rw [he]; exact ht) .i64 j (by omega) (by omega)]
  simp [he, sizeOf, typeInfo, hi, sliced, hA, Result.andThen]
theorem run_uptoA {P : Program} {t e : TypeId} {i : TypeInfo} (ht : P.underlying t = some (.slice e)) (hi : P.info? e = some i) (A : Option Addr) (n c j : Nat) (hj : j ≤ c) (w : World) :
    (Instr.sliceAt t (.slice A n c) none (some (.int .i64 (j : Int))) none).run P w = .ok (.slice A j c) w := by
  have he : P.elem t = e := by unfold Program.elem; rw [ht]
  exact (run_sliceAt_slice w t _ _ _ _ (by rw [he]; exact ht)).trans (run_uptoC ht hi A n c j hj w)
theorem Bt.uptoC {w : World} {A : Option Addr} {c : Nat} {s : ByteArray} (h : Bt w (.slice A s.size c) s) (j : Nat) (hj : j ≤ s.size) :
    (∀ W : World, (Instr.sliceAt 33 (.slice A s.size c) none (some (.int .i64 (j : Int))) none).run Tryz.prog W = .ok (.slice A j c) W) ∧ Bt w (.slice A j c) (s.extract 0 j) := by
  obtain ⟨A2, c2, he, hc, hr⟩ := h
  simp only [Value.slice.injEq] at he
  obtain ⟨rfl, -, rfl⟩ := he
  obtain ⟨i0, hi0, -, -, -⟩ := parts infoU
  have hsz : (s.extract 0 j).size = j := by rw [ByteArray.size_extract]; omega
  refine ⟨fun W => run_uptoA Tryz.underlying33 hi0 A s.size c j (by omega) W, ⟨A, c, by rw [hsz], by rw [hsz]; omega, fun h0 => ?_⟩⟩
  rw [hsz] at h0
  obtain ⟨blk, off, cs, fz, rfl, hh, hx⟩ := hr (by omega)
  refine ⟨blk, off, cs, fz, rfl, hh, fun k hk => ?_⟩
  rw [hsz] at hk
  rw [ext_get s 0 j k hj (by omega), Nat.zero_add]
  exact hx k (by omega)
/-- what a file gives -/
def readF (n : Nat) (f : ByteArray) : Int × ByteArray := match dataC n f with
  | none => (190, ByteArray.empty)
  | some b => (0, b)
/-- what a read leaves -/
def CReadP (w : World) (q : Int × ByteArray) (e : Ending) (w' : World) : Prop :=
  ∃ bv, e = .returned (.tuple #[bv, .int .i64 q.1]) ∧ w'.ownsRow w.heap.size 5 1 bv q.2.size (ucells q.2) ∧ Below w.heap.size w w'
theorem CReadP.none_ {w w' : World} {E : Int} (h : Below w.heap.size w w') : CReadP w (E, ByteArray.empty) (.returned (.tuple #[.slice none 0 0, .int .i64 E])) w' :=
  ⟨_, rfl, ⟨rfl, .inl ⟨rfl, rfl⟩⟩, h⟩
set_option maxHeartbeats 2000000 in
theorem cread_nil (w : World) (step : Int) : Calls Tryz.prog 15 #[.pointer none, .int .i64 step] w fun e w' => e = .returned (.tuple #[.slice none 0 0, .int .i64 1]) ∧ w' = w := by
  go_enter Tryz.func15, Tryz.ntmps15
  go_wp2
  go_ret2
  exact ⟨rfl, rfl⟩
set_option maxHeartbeats 2000000 in
theorem cread_low (w : World) (gs : Nat) (step : Int) (hs : step < 0) : Calls Tryz.prog 15 #[.pointer (some ⟨gs, 0, none⟩), .int .i64 step] w fun e w' => e = .returned (.tuple #[.slice none 0 0, .int .i64 2]) ∧ w' = w := by
  go_enter Tryz.func15, Tryz.ntmps15
  go_wp2
  go_ret2
  exact ⟨rfl, rfl⟩
set_option maxHeartbeats 2000000 in
theorem cread_high (w : World) (gs : Nat) (step : Int) (h0 : ¬ step < 0) (hs : 1073741824 < step) : Calls Tryz.prog 15 #[.pointer (some ⟨gs, 0, none⟩), .int .i64 step] w fun e w' => e = .returned (.tuple #[.slice none 0 0, .int .i64 2]) ∧ w' = w := by
  go_enter Tryz.func15, Tryz.ntmps15
  go_wp2
  go_ret2
  exact ⟨rfl, rfl⟩
end Go.Proofs.YthmcimpdehgaoaaGreatDoor
