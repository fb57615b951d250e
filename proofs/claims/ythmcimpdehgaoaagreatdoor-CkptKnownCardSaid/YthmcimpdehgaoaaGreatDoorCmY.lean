/- Parts for CkptKnown: a great write and its neighbours in plain words, bytes of which one is turned, rows that are written out. -/
import Derived.Test.YthmcimpdehgaoaaGreatDoorPk21
import Derived.Test.YthmcimpdehgaoaaGreatDoorLawCkP
import Derived.Test.YthmcimpdehgaoaaGreatDoorLawCkK
import Derived.Test.YthmcimpdehgaoaaGreatDoorZeroB
import Derived.Test.YthmcimpdehgaoaaGreatDoorNews
import Derived.Great.CaseRows
namespace Go.Proofs.YthmcimpdehgaoaaGreatDoor
open Go.RowKit Go.Maps

theorem cdrop_nilK (w : World) (below : Int) : Calls Tryz.prog 13 #[.pointer none, .int .i64 below] w fun e w' => e = .returned (.int .i64 1) ∧ w' = w := by
  go_enter Tryz.func13, Tryz.ntmps13
  go_wp2
  go_ret
  exact ⟨rfl, rfl⟩
theorem copen_gone (w : World) (B p : Nat) (v : Value) (D : DiskD) (h : DiskIs w B p v D) (hB : B ≤ w.heap.size) (hf : Fit D) (ho : D.off = true) : Calls Tryz.prog 11 #[.pointer (some ⟨p, 0, none⟩)] w fun e w' => e = .returned (.tuple #[.pointer none, .int .i64 160]) ∧ Below B w w' :=
  (copen_any w B p v D h hB hf).mono fun e w' hP => by
    obtain ⟨⟨v1, o⟩, hc⟩ := hP
    have hop : openC D = (160, D) := by unfold openC; rw [if_pos ho]
    rw [hop] at hc
    rcases hc with ⟨_, he⟩ | ⟨h0, _⟩
    · exact ⟨he, o.below⟩
    · exact absurd h0 (by decide : ¬ (160 : Int) = 0)
/-- one file is renamed -/
theorem one_rename {t t2 b0 : ByteArray} {q n s : Int} (ht : badN t = false) (ht2 : badN t2 = false) : (⟨[⟨t, b0, s⟩], q, n, -1, false⟩ : DiskD).step 2 t t2 0 true = (0, ⟨[⟨t2, b0, b0.size⟩], q, n + 1, -1, false⟩) := by
  unfold DiskD.step
  have ha : (⟨[⟨t, b0, s⟩], q, n, -1, false⟩ : DiskD).asked [t, t2] = 0 := by simp [DiskD.asked, ht, ht2]
  rw [ha, if_neg (by simp), one_at]
  simp [DiskD.power, doesL, findN_nil, putL]
theorem one_no {t t2 b0 : ByteArray} {q n s : Int} (hne : t ≠ t2) (ht2 : badN t2 = false) : (⟨[⟨t, b0, s⟩], q, n, -1, false⟩ : DiskD).read t2 = (5, ByteArray.empty) :=
  read_no (fun f hf => by simp only [List.mem_singleton] at hf; subst hf; exact hne) ht2
theorem tmp_okC : badN tmpC = false := by decide
theorem kn_clear0 (q n : Int) : clearC ⟨[], q, n, -1, false⟩ = (0, ⟨[], q, n, -1, false⟩) := by
  unfold clearC
  rw [read_no (fun f hf => by cases hf) tmp_okC]
  rfl
theorem kn_clear1 {t b0 : ByteArray} {q n s : Int} (hne : t ≠ tmpC) : clearC ⟨[⟨t, b0, s⟩], q, n, -1, false⟩ = (0, ⟨[⟨t, b0, s⟩], q, n, -1, false⟩) := by
  unfold clearC
  rw [one_no hne tmp_okC]
  rfl
theorem kn_write (q n : Int) (k : Nat) (hk : k ≤ 1073741824) (b : ByteArray) (hb : b.size ≤ 4194304) (hq : (17 + b.size : Int) ≤ q) :
    writeC ⟨[], q, n, -1, false⟩ k b = (0, ⟨[⟨nameC k, fileC k b, (fileC k b).size⟩], q, n + 1 + 1 + 1, -1, false⟩) := by
  have hs := fileC_size k b
  unfold writeC
  rw [if_neg (by omega), if_neg (by omega), if_neg (by simp), Int.toNat_natCast, kn_clear0, if_neg (by simp)]
  dsimp only
  rw [nil_append tmp_okC (by omega) (by omega)]
  dsimp only
  rw [if_neg (by simp), one_sync tmp_okC]
  dsimp only
  rw [if_neg (by simp), one_rename tmp_okC (nameC_bad (by omega))]
  simp
theorem kn_full (q n s : Int) (k j : Nat) (hj : j ≤ 1073741824) (f b : ByteArray) (hb : b.size ≤ 4194304) (hq : q < (f.size : Int) + (17 + b.size)) :
    writeC ⟨[⟨nameC k, f, s⟩], q, n, -1, false⟩ j b = (161, ⟨[⟨nameC k, f, s⟩], q, n, -1, false⟩) := by
  have hs := fileC_size j b
  have hne : nameC k ≠ tmpC := nameC_tmp
  have hap : (⟨[⟨nameC k, f, s⟩], q, n, -1, false⟩ : DiskD).append tmpC (fileC j b) = (161, ⟨[⟨nameC k, f, s⟩], q, n, -1, false⟩) := by
    unfold DiskD.append
    have ha : (⟨[⟨nameC k, f, s⟩], q, n, -1, false⟩ : DiskD).asked [tmpC] = 0 := by simp [DiskD.asked, tmp_okC]
    have hw : (⟨[⟨nameC k, f, s⟩], q, n, -1, false⟩ : DiskD).was tmpC = ⟨tmpC, ByteArray.empty, -1⟩ := by
      unfold DiskD.was
      rw [at_no (fun g hg => by simp only [List.mem_singleton] at hg; subst hg; exact hne)]
    rw [ha, if_neg (by simp), hw, if_neg (by show ¬ (8388608 : Int) < ((ByteArray.empty.size : Nat) : Int) + _; have : ByteArray.empty.size = 0 := rfl; omega), if_pos (by show q < ((usedL [⟨nameC k, f, s⟩] : Nat) : Int) + _; simp [usedL]; omega)]
  unfold writeC
  rw [if_neg (by omega), if_neg (by omega), if_neg (by simp), Int.toNat_natCast, kn_clear1 hne, if_neg (by simp)]
  dsimp only
  rw [hap]
  dsimp only
  rw [if_pos (by decide)]
  unfold outC
  rw [if_pos (.inl rfl), kn_clear1 hne]
theorem kn_read (q n s : Int) (k : Nat) (hk : k ≤ 1073741824) (b : ByteArray) (hb : b.size ≤ 4194304) : readC ⟨[⟨nameC k, fileC k b, s⟩], q, n, -1, false⟩ k = (0, b) := by
  unfold readC
  rw [if_neg (by omega), Int.toNat_natCast, one_read (nameC_bad (by omega))]
  dsimp only
  rw [if_neg (by decide), if_neg (by simp), dataC_file hb]
theorem kn_none (q n : Int) (k : Nat) (hk : k ≤ 1073741824) : readC ⟨[], q, n, -1, false⟩ k = (190, ByteArray.empty) := by
  unfold readC
  rw [if_neg (by omega), Int.toNat_natCast, read_no (fun f hf => by cases hf) (nameC_bad (by omega))]
  rfl
theorem kn_steps (q n s : Int) (k : Nat) (hk : k ≤ 1073741824) (b : ByteArray) (hb : b.size ≤ 4194304) : stepsC ⟨[⟨nameC k, fileC k b, s⟩], q, n, -1, false⟩ = [k] := by
  unfold stepsC allC stepsOf
  simp only [List.map_cons, List.map_nil, List.filterMap_cons, List.filterMap_nil, stepOf_name hk, List.mergeSort_singleton]
  rw [List.filter_cons, if_pos (by rw [kn_read q n s k hk b hb]; rfl), List.filter_nil]
/-- bytes that lie in a block read as some bytes -/
theorem BytesW.bt {w : World} {g n cap : Nat} (h : BytesW w g n) (hc : n ≤ cap) : ∃ R : ByteArray, R.size = n ∧ BtR w (.slice (some ⟨g, 0, none⟩) R.size cap) R := by
  obtain ⟨C, h1, h2, h3⟩ := h
  have h4 : ∀ k : Nat, ∃ u : UInt8, k < n → C[k]? = some (.int .u8 (u.toNat : Int)) := fun k => by
    by_cases hk : k < n
    · obtain ⟨z, z0, z1, hz⟩ := h3 k hk
      refine ⟨UInt8.ofNat z.toNat, fun _ => ?_⟩
      have hx : ((UInt8.ofNat z.toNat).toNat : Int) = z := by
        have : z.toNat < 256 := by omega
        rw [UInt8.toNat_ofNat_of_lt' (by simpa using this)]
        omega
      rw [hx, hz]
    · exact ⟨0, fun h => absurd h hk⟩
  obtain ⟨f, hf⟩ := Classical.axiomOfChoice h4
  have hsz : (⟨((List.range n).map f).toArray⟩ : ByteArray).size = n := by show ((List.range n).map f).toArray.size = n; simp
  refine ⟨_, hsz, Bt.btr ⟨_, cap, rfl, by rw [hsz]; exact hc, fun _ => ⟨g, 0, C, _, rfl, h1, fun j hj => ?_⟩⟩⟩
  rw [hsz] at hj
  rw [Nat.zero_add, hf j hj]
  have e : (⟨((List.range n).map f).toArray⟩ : ByteArray).get! j = f j := by
    show ((List.range n).map f).toArray[j]! = f j
    rw [getElem!_def, List.getElem?_toArray, List.getElem?_map, List.getElem?_range hj]
    rfl
  rw [e]
theorem xor1_bd (x : Int) : 0 ≤ bits .xor .u8 x 1 ∧ bits .xor .u8 x 1 ≤ 255 := by
  show 0 ≤ IntKind.u8.wrap (((BitVec.ofInt 8 x ^^^ BitVec.ofInt 8 1).toNat : Nat) : Int) ∧ IntKind.u8.wrap (((BitVec.ofInt 8 x ^^^ BitVec.ofInt 8 1).toNat : Nat) : Int) ≤ 255
  generalize ((BitVec.ofInt 8 x ^^^ BitVec.ofInt 8 1).toNat : Int) = z
  rw [IntKind.wrap_u8]
  omega
/-- calls that are written out, with the slices that they hold -/
abbrev CVK := CallC × Value × Value
def cvkCells (x : CVK) : List Value := [.int .u8 x.1.kind, .int .i64 x.1.step, .string x.1.name, x.2.1, .int .i64 x.1.n, x.2.2]
theorem flat6K : ∀ (L : List CVK) (i : Nat) (x : CVK) (j : Nat), L[i]? = some x → j < 6 → (L.flatMap cvkCells)[i * 6 + j]? = (cvkCells x)[j]? := by
  intro L
  induction L with
  | nil => intro i m j h _; cases h
  | cons y L ih =>
    intro i x j h hj
    rw [List.flatMap_cons]
    have hs : (cvkCells y).length = 6 := rfl
    cases i with
    | zero =>
      simp at h
      subst h
      rw [List.getElem?_append_left (by omega), Nat.zero_mul, Nat.zero_add]
    | succ i =>
      rw [List.getElem?_append_right (by omega), hs, show (i + 1) * 6 + j - 6 = i * 6 + j by omega]
      exact ih i x j (by simpa using h) hj
theorem flat6K_map (L : List CVK) : ((L.map fun x => Value.agg (cvkCells x).toArray).flatMap fun v => v.cells.toList) = L.flatMap cvkCells := by
  rw [List.flatMap_map]
  rfl
/-- what a call that is written out may be -/
structure CvkOk (w : World) (x : CVK) : Prop where
  kb : 0 ≤ x.1.kind ∧ x.1.kind ≤ 255
  sb : In64 x.1.step
  nb : In64 x.1.n
  keepb : ∀ z ∈ x.1.keep, In64 z
  bs : ∃ A cc, x.2.1 = .slice A x.1.b.size cc ∧ BtR w (.slice A x.1.b.size cc) x.1.b
  keep : ∃ A cc, x.2.2 = .slice A x.1.keep.length cc ∧ Rd w 1 A x.1.keep.length (x.1.keep.map (Value.int .i64))
theorem cvk_ok {w : World} {k s n : Int} {name b : ByteArray} {keep : List Int} {v1 v2 : Value} (h1 : 0 ≤ k ∧ k ≤ 255) (h2 : In64 s) (h3 : In64 n) (h4 : ∀ z ∈ keep, In64 z)
    (h5 : ∃ A cc, v1 = .slice A b.size cc ∧ BtR w (.slice A b.size cc) b) (h6 : ∃ A cc, v2 = .slice A keep.length cc ∧ Rd w 1 A keep.length (keep.map (Value.int .i64))) : CvkOk w (⟨k, s, name, b, n, keep⟩, v1, v2) := ⟨h1, h2, h3, h4, h5, h6⟩
theorem callsK_at {w : World} {g : Nat} {L : List CVK} (h : Blk w g 36 (L.flatMap cvkCells).toArray) (hL : ∀ x ∈ L, CvkOk w x) : CallsA w (some ⟨g, 0, none⟩) (L.map (·.1)) := fun _ =>
  ⟨g, 0, rfl, h.lt, fun i c hc => by
    rw [List.getElem?_map] at hc
    obtain ⟨x, hx, rfl⟩ := Option.map_eq_some_iff.1 hc
    have ho := hL x (List.mem_of_getElem? hx)
    have hcell : ∀ j, j < 6 → w.cell? ⟨g, 0 + i * 6 + j, none⟩ = (cvkCells x)[j]? := fun j hj => by
      rw [h.cell, List.getElem?_toArray, Nat.zero_add]
      exact flat6K L i x j hx hj
    obtain ⟨A, cc, h1, h2⟩ := ho.bs
    obtain ⟨A2, cc2, h3, h4⟩ := ho.keep
    refine ⟨ho.kb, ho.sb, ho.nb, ho.keepb, hcell 0 (by decide), hcell 1 (by decide), hcell 2 (by decide), ⟨A, cc, ?_, h2⟩, hcell 4 (by decide), ⟨A2, cc2, ?_, h4⟩⟩
    · rw [hcell 3 (by decide), ← h1]; rfl
    · rw [hcell 5 (by decide), ← h3]; rfl⟩
theorem kb0 (k : Int) : Tryz.prog.built 36 [(0, .int .u8 k)] = some #[.int .u8 k, .int .i64 0, .string ⟨#[]⟩, .slice none 0 0, .int .i64 0, .slice none 0 0] := by kernel_rfl
theorem kb01 (k s : Int) : Tryz.prog.built 36 [(0, .int .u8 k), (1, .int .i64 s)] = some #[.int .u8 k, .int .i64 s, .string ⟨#[]⟩, .slice none 0 0, .int .i64 0, .slice none 0 0] := by kernel_rfl
theorem kb02 (k : Int) (t : ByteArray) : Tryz.prog.built 36 [(0, .int .u8 k), (2, .string t)] = some #[.int .u8 k, .int .i64 0, .string t, .slice none 0 0, .int .i64 0, .slice none 0 0] := by kernel_rfl
theorem kb04 (k n : Int) : Tryz.prog.built 36 [(0, .int .u8 k), (4, .int .i64 n)] = some #[.int .u8 k, .int .i64 0, .string ⟨#[]⟩, .slice none 0 0, .int .i64 n, .slice none 0 0] := by kernel_rfl
theorem kb05 (k : Int) (A : Option Addr) (n c : Nat) : Tryz.prog.built 36 [(0, .int .u8 k), (5, .slice A n c)] = some #[.int .u8 k, .int .i64 0, .string ⟨#[]⟩, .slice none 0 0, .int .i64 0, .slice A n c] := by kernel_rfl
theorem kb013 (k s : Int) (A : Option Addr) (n c : Nat) : Tryz.prog.built 36 [(0, .int .u8 k), (1, .int .i64 s), (3, .slice A n c)] = some #[.int .u8 k, .int .i64 s, .string ⟨#[]⟩, .slice A n c, .int .i64 0, .slice none 0 0] := by kernel_rfl
theorem kb023 (k : Int) (t : ByteArray) (A : Option Addr) (n c : Nat) : Tryz.prog.built 36 [(0, .int .u8 k), (2, .string t), (3, .slice A n c)] = some #[.int .u8 k, .int .i64 0, .string t, .slice A n c, .int .i64 0, .slice none 0 0] := by kernel_rfl
theorem kb024 (k n : Int) (t : ByteArray) : Tryz.prog.built 36 [(0, .int .u8 k), (2, .string t), (4, .int .i64 n)] = some #[.int .u8 k, .int .i64 0, .string t, .slice none 0 0, .int .i64 n, .slice none 0 0] := by kernel_rfl
end Go.Proofs.YthmcimpdehgaoaaGreatDoor
