/- Parts for ManifestKnown: nil stores, bytes of which one is turned, rows that are written out. -/
import Derived.Test.YtlcgkcafelpglaaGreatDoorLawMaP
import Derived.Test.YtlcgkcafelpglaaGreatDoorLawMaB
import Derived.Test.YtlcgkcafelpglaaGreatDoorLawMaK
import Derived.Test.YtlcgkcafelpglaaGreatDoorLawMaKp
import Derived.Great.CaseRows
namespace Go.Proofs.YtlcgkcafelpglaaGreatDoor
open Go.RowKit Go.Maps

set_option maxHeartbeats 2000000 in
theorem open_nil (w : World) : Calls Tryz.prog 9 #[.pointer none] w fun e w' => e = .returned (.tuple #[.pointer none, .int .i64 1]) ∧ w' = w := by
  go_enter Tryz.func9, Tryz.ntmps9
  go_wp2
  go_ret2
  exact ⟨rfl, rfl⟩
theorem open_gone (w : World) (B p : Nat) (v : Value) (D : DiskD) (h : DiskIs w B p v D) (hB : B ≤ w.heap.size) (ho : D.off = true) : Calls Tryz.prog 9 #[.pointer (some ⟨p, 0, none⟩)] w fun e w' => e = .returned (.tuple #[.pointer none, .int .i64 160]) ∧ Below B w w' :=
  (open_off w B p v D h hB ho).mono fun _ _ ⟨v1, o, hc⟩ => by
    have hop : openD D = (160, D) := by unfold openD; rw [if_pos ho]
    rw [hop] at hc
    rcases hc with ⟨_, he⟩ | ⟨h0, _⟩
    · exact ⟨he, o.below⟩
    · exact absurd h0 (by decide : ¬ (160 : Int) = 0)
set_option maxHeartbeats 2000000 in
theorem newest_nil (w : World) : Calls Tryz.prog 12 #[.pointer none] w fun e w' => e = .returned (.tuple #[.agg #[.int .i64 0, .int .i64 0, .int .i64 0, .int .i64 0, .int .i64 0, .bool false, .int .u32 0], .bool false]) ∧ Below w.heap.size w w' := by
  go_enter Tryz.func12, Tryz.ntmps12
  go_wp2
  refine bodyPost_ret (results_row_tmp (Tryz.results12) _ _ w.heap.size 38 #[.int .i64 0, .int .i64 0, .int .i64 0, .int .i64 0, .int .i64 0, .bool false, .int .u32 0] (0, 0) _ rfl (heap_alloc_new w _) Tryz.underlying38 rfl infoMf) rfl ?_
  exact ⟨rfl, (Below.refl w.heap.size w).alloc (Nat.le_refl _) _⟩
set_option maxHeartbeats 2000000 in
theorem write_nil (w : World) : Calls Tryz.prog 22 #[.pointer none, .agg #[.int .i64 0, .int .i64 0, .int .i64 0, .int .i64 0, .int .i64 0, .bool false, .int .u32 0]] w fun e w' => e = .returned (.int .i64 1) ∧ Below w.heap.size w w' := by
  have HB1 := Lib.hid ((Below.refl w.heap.size w).alloc (Nat.le_refl _) (.cells #[.int .i64 0, .int .i64 0, .int .i64 0, .int .i64 0, .int .i64 0, .bool false, .int .u32 0] 38))
  go_enter Tryz.func22, Tryz.ntmps22
  go_wp2_with fail
  refine' wp_scope_jumps (rest := _) 0 (fun _ _ => False) (fun _ _ => 0) ?hf ?first ?pass
  case hf => rfl
  case' first => skip
  · go_wp2
    simp only [Exit.jump]
    go_ret
    exact ⟨rfl, HB1.out⟩
  · rintro a' w' hw
    exact absurd hw (by simp)
theorem law_bytes (w : World) (m : ManM) (hm : m.Ok) (A : Option Addr) (c : Nat) (b : ByteArray) (h : BtR w (.slice A b.size c) b) (hb : b.size ≤ 500) (hT : Tb w.heap.size w) :
    Calls Tryz.prog 25 #[.agg (mCells m), .slice A b.size c] w fun e w' => e = .returned (.bool true) ∧ Below w.heap.size w w' := by
  cases hmay : m.may with
  | true => exact bytes_yes w m hm A c _ h hb hT hmay
  | false => exact bytes_no w m hm A c _ h hb hT hmay
theorem law_back (w : World) (m : ManM) (hm : m.Ok) (A : Option Addr) (c : Nat) (b : ByteArray) (h : BtR w (.slice A b.size c) b) (hb : b.size ≤ 500) (hT : Tb w.heap.size w) :
    Calls Tryz.prog 26 #[.agg (mCells m), .slice A b.size c] w fun e w' => e = .returned (.bool true) ∧ Below w.heap.size w w' := by
  cases hmay : m.may with
  | true => exact back_yes w m hm A c _ h hb hT hmay
  | false => exact back_no w m hm A c _ h hb hT hmay
theorem xor2 (x : Int) : 0 ≤ bits .xor .u8 x 2 ∧ bits .xor .u8 x 2 ≤ 255 := by
  show 0 ≤ IntKind.u8.wrap (((BitVec.ofInt 8 x ^^^ BitVec.ofInt 8 2).toNat : Nat) : Int) ∧ IntKind.u8.wrap (((BitVec.ofInt 8 x ^^^ BitVec.ofInt 8 2).toNat : Nat) : Int) ≤ 255
  generalize ((BitVec.ofInt 8 x ^^^ BitVec.ofInt 8 2).toNat : Int) = z
  rw [IntKind.wrap_u8]
  omega
theorem row_set_ {W : World} {g : Nat} {C : Array Value} {t : TypeId} {fz : Nat × Nat} (i : Nat) (v : Value) (h : W.heap[g]? = some (.cells C t fz)) : (W.setCell ⟨g, i, none⟩ v).heap[g]? = some (.cells (C.setIfInBounds i v) t fz) := by
  simp [World.setCell, Array.getElem?_modify, h]
theorem row_frozen_ {W : World} {g : Nat} {C : Array Value} {t : TypeId} {i : Nat} (hi : i < C.size) (h : W.heap[g]? = some (.cells C t (C.size, C.size + 1))) : W.frozen? ⟨g, i, none⟩ = false := by
  have h2 : ¬ C.size ≤ i := by omega
  simp [World.frozen?, h, h2]
/-- bytes of a text, of which one is turned -/
theorem put_bytes (T : ByteArray) (i : Nat) (hi : i < T.size) (W : World) : ∃ (C : Array Value) (cap : Nat) (b : Int),
    (convert 9 39 (.string T)).run Tryz.prog W = .ok (.slice (some ⟨W.heap.size, 0, none⟩) T.size cap) (W.drew.alloc (.cells C 5 (C.size, C.size + 1))) ∧
    (W.alloc (.cells C 5 (C.size, C.size + 1))).cell? ⟨W.heap.size, i, none⟩ = some (.int .u8 b) ∧ (W.alloc (.cells C 5 (C.size, C.size + 1))).frozen? ⟨W.heap.size, i, none⟩ = false ∧
    ∀ x : Int, 0 ≤ x → x ≤ 255 → ∀ W' : World, Below (W.heap.size + 1) ((W.alloc (.cells C 5 (C.size, C.size + 1))).setCell ⟨W.heap.size, i, none⟩ (.int .u8 x)) W' →
      ∃ R : ByteArray, R.size = T.size ∧ BtR W' (.slice (some ⟨W.heap.size, 0, none⟩) R.size cap) R := by
  have hcap := grownCap_ge W T.size 0 5
  have hC : ∀ k, k < T.size → (bytesRow T (grownCap W T.size 0 5))[k]? = (T.data[k]?).map fun b => Value.int .u8 (b.toNat : Int) := fun k hk => by
    have hk' : k < T.data.size := hk
    unfold bytesRow
    rw [Array.getElem?_append_left (by simpa using hk')]
    simp
  have hi' : i < T.data.size := hi
  obtain ⟨C, hCe⟩ : ∃ C, bytesRow T (grownCap W T.size 0 5) = C := ⟨_, rfl⟩
  have hiC : i < C.size := by
    rw [← hCe]
    unfold bytesRow
    simp only [Array.size_append, Array.size_map]
    omega
  have hrun := run_bytes_of_string W 9 39 5 T Tryz.underlying9 Tryz.underlying39 Tryz.underlying5
  rw [hCe] at hC hrun
  refine ⟨C, grownCap W T.size 0 5, (T.data[i].toNat : Int), hrun, ?_, ?_, fun x h0 h1 W' hb => ?_⟩
  · rw [World.cell?_alloc_mark, hC i hi, Array.getElem?_eq_getElem hi']; rfl
  · exact row_frozen_ hiC (heap_alloc_new W _)
  · have hx : ((UInt8.ofNat x.toNat).toNat : Int) = x := by
      have : x.toNat < 256 := by omega
      rw [UInt8.toNat_ofNat_of_lt' (by simpa using this)]
      omega
    have hl : (T.data.toList.set i (UInt8.ofNat x.toNat)).length = T.size := by rw [List.length_set]; exact Array.length_toList
    have hsz : (⟨(T.data.toList.set i (UInt8.ofNat x.toNat)).toArray⟩ : ByteArray).size = T.size := by
      show (T.data.toList.set i (UInt8.ofNat x.toNat)).toArray.size = T.size
      rw [List.size_toArray]; exact hl
    refine ⟨⟨(T.data.toList.set i (UInt8.ofNat x.toNat)).toArray⟩, hsz, ?_⟩
    have hW : W'.heap[W.heap.size]? = some (.cells (C.setIfInBounds i (.int .u8 x)) 5 (C.size, C.size + 1)) :=
      (hb.block W.heap.size (Nat.lt_succ_self _)).trans (row_set_ i _ (heap_alloc_new W _))
    have hlt : W.heap.size < W'.heap.size := (Array.getElem?_eq_some_iff.1 hW).1
    have h := btr_of_cells (w := W') (A := some ⟨W.heap.size, 0, none⟩) (l := T.data.toList.set i (UInt8.ofNat x.toNat)) (c := grownCap W T.size 0 5) (by rw [hl]; omega) (fun _ => ⟨_, rfl, hlt, fun j hj => by
      rw [hl] at hj
      have hj' : j < T.data.size := hj
      rw [addr_add, cell_of_row W' W.heap.size (0 + j) _ 5 _ hW, Nat.zero_add, Array.getElem?_setIfInBounds]
      by_cases hji : i = j
      · subst hji
        rw [if_pos rfl, if_pos hiC]
        simp only [List.getElem_set_self]
        rw [hx]
      · rw [if_neg hji, hC j hj, Array.getElem?_eq_getElem hj', List.getElem_set_ne hji]
        rfl⟩)
    rw [hl] at h
    rw [hsz]
    exact h
theorem flat7_at : ∀ (L : List ManM) (i : Nat) (m : ManM) (j : Nat), L[i]? = some m → j < 7 → (L.flatMap fun m => (mCells m).toList)[i * 7 + j]? = (mCells m)[j]? := by
  intro L
  induction L with
  | nil => intro i m j h _; cases h
  | cons x L ih =>
    intro i m j h hj
    rw [List.flatMap_cons]
    have hs : (mCells x).toList.length = 7 := rfl
    cases i with
    | zero =>
      simp at h
      subst h
      rw [List.getElem?_append_left (by omega), Nat.zero_mul, Nat.zero_add, Array.getElem?_toList]
    | succ i =>
      rw [List.getElem?_append_right (by omega), hs, show (i + 1) * 7 + j - 7 = i * 7 + j by omega]
      exact ih i m j (by simpa using h) hj
def knZ : List ManM := [zeroM, ⟨1, 1, -1, 0, 0, false, 0⟩, ⟨1, 1, -2, 0, 0, false, 0⟩, ⟨4611686018427387904, 4611686018427387904, 1073741824, 0, 0, false, 0⟩, ⟨4611686018427387905, 1, 0, 0, 0, false, 0⟩, ⟨1, 4611686018427387905, 0, 0, 0, false, 0⟩, ⟨1, 1, 1073741825, 0, 0, false, 0⟩, ⟨1, 0, 0, 0, 0, false, 0⟩, ⟨-1, 1, 0, 0, 0, false, 0⟩]
theorem man_ok {n e s u t : Int} {d : Bool} {j : Nat} (h1 : In64 n) (h2 : In64 e) (h3 : In64 s) (h4 : In64 u) (h5 : In64 t) (h6 : j < 4294967296) : (⟨n, e, s, u, t, d, j⟩ : ManM).Ok := ⟨h1, h2, h3, h4, h5, h6⟩
theorem knZ_ok : ∀ m ∈ knZ, m.Ok := by
  intro m hm
  simp only [knZ, List.mem_cons, List.not_mem_nil, or_false] at hm
  rcases hm with rfl | rfl | rfl | rfl | rfl | rfl | rfl | rfl | rfl <;> exact ⟨⟨by decide, by decide⟩, ⟨by decide, by decide⟩, ⟨by decide, by decide⟩, ⟨by decide, by decide⟩, ⟨by decide, by decide⟩, by decide⟩
theorem knZ_at {w : World} {g : Nat} (h : Blk w g 38 (knZ.flatMap fun m => (mCells m).toList).toArray) : Mans w (some ⟨g, 0, none⟩) knZ := fun _ =>
  ⟨g, 0, rfl, h.lt, fun i m hm => ⟨knZ_ok m (List.mem_of_getElem? hm), fun j hj => by
    rw [h.cell, List.getElem?_toArray, Nat.zero_add]
    exact flat7_at knZ i m j hm hj⟩⟩
/-- calls that are written out, with the slices that they hold -/
abbrev CV := CallM × Value × Value
def cvCells (x : CV) : List Value := [.int .u8 x.1.kind, .int .i64 x.1.m.n, .int .i64 x.1.m.epoch, .int .i64 x.1.m.step, .int .i64 x.1.m.sum, .int .i64 x.1.m.most, .bool x.1.m.done, .int .u32 x.1.m.job, .string x.1.name, x.2.1, .int .i64 x.1.n, x.2.2]
theorem flat12_at : ∀ (L : List CV) (i : Nat) (x : CV) (j : Nat), L[i]? = some x → j < 12 → (L.flatMap cvCells)[i * 12 + j]? = (cvCells x)[j]? := by
  intro L
  induction L with
  | nil => intro i m j h _; cases h
  | cons y L ih =>
    intro i x j h hj
    rw [List.flatMap_cons]
    have hs : (cvCells y).length = 12 := rfl
    cases i with
    | zero =>
      simp at h
      subst h
      rw [List.getElem?_append_left (by omega), Nat.zero_mul, Nat.zero_add]
    | succ i =>
      rw [List.getElem?_append_right (by omega), hs, show (i + 1) * 12 + j - 12 = i * 12 + j by omega]
      exact ih i x j (by simpa using h) hj
/-- what a call that is written out may be -/
structure CvOk (w : World) (x : CV) : Prop where
  kb : 0 ≤ x.1.kind ∧ x.1.kind ≤ 255
  ok : x.1.m.Ok
  nb : In64 x.1.n
  keepb : ∀ z ∈ x.1.keep, In64 z
  bs : ∃ A cc, x.2.1 = .slice A x.1.b.size cc ∧ BtR w (.slice A x.1.b.size cc) x.1.b
  keep : ∃ A cc, x.2.2 = .slice A x.1.keep.length cc ∧ Rd w 1 A x.1.keep.length (x.1.keep.map (Value.int .i64))
theorem calls_at {w : World} {g : Nat} {L : List CV} (h : Blk w g 42 (L.flatMap cvCells).toArray) (hL : ∀ x ∈ L, CvOk w x) : CallsA w (some ⟨g, 0, none⟩) (L.map (·.1)) := fun _ =>
  ⟨g, 0, rfl, h.lt, fun i c hc => by
    rw [List.getElem?_map] at hc
    obtain ⟨x, hx, rfl⟩ := Option.map_eq_some_iff.1 hc
    have ho := hL x (List.mem_of_getElem? hx)
    have hcell : ∀ j, j < 12 → w.cell? ⟨g, 0 + i * 12 + j, none⟩ = (cvCells x)[j]? := fun j hj => by
      rw [h.cell, List.getElem?_toArray, Nat.zero_add]
      exact flat12_at L i x j hx hj
    obtain ⟨A, cc, h1, h2⟩ := ho.bs
    obtain ⟨A2, cc2, h3, h4⟩ := ho.keep
    refine ⟨ho.kb, ho.ok, ho.nb, ho.keepb, hcell 0 (by decide), fun j hj => ?_, hcell 8 (by decide), ⟨A, cc, ?_, h2⟩, hcell 10 (by decide), ⟨A2, cc2, ?_, h4⟩⟩
    · rw [Nat.add_assoc (0 + i * 12) 1 j, hcell (1 + j) (by omega)]
      match j, hj with
      | 0, _ => rfl
      | 1, _ => rfl
      | 2, _ => rfl
      | 3, _ => rfl
      | 4, _ => rfl
      | 5, _ => rfl
      | 6, _ => rfl
    · rw [hcell 9 (by decide), ← h1]; rfl
    · rw [hcell 11 (by decide), ← h3]; rfl⟩
theorem flat7_map (L : List ManM) : ((L.map fun m => Value.agg (mCells m)).flatMap fun v => v.cells.toList) = L.flatMap fun m => (mCells m).toList := by
  rw [List.flatMap_map]
  rfl
theorem flat12_map (L : List CV) : ((L.map fun x => Value.agg (cvCells x).toArray).flatMap fun v => v.cells.toList) = L.flatMap cvCells := by
  rw [List.flatMap_map]
  rfl
theorem wpList_mv {P : Program} {ops : Array Oper} {rest : List Oper} {o : Oper} {a : Act} {w : World} {Q : Exit → Act → World → Prop} (hg : o.guard = none) (x : Operand) (ho : o.op = .move x) (d : Option Tmp) (hd : o.dst = d) (v : Value) (hv : a.eval x = v)
    (h : wpList P ops Q rest (a.put d v) w) : wpList P ops Q (o :: rest) a w := by
  subst hd hv
  refine wpList_plain hg fun _ hK => ?_
  unfold Oper.wp execOp
  simp only [ho, Sem.run_pure]
  exact hK _ _ h
theorem wpList_buildFlatG {P : Program} {ops : Array Oper} {rest : List Oper} {o : Oper} {a : Act} {w : World} {Q : Exit → Act → World → Prop} (hw : Region.wanted o (yielded ops a.tmps) = true) (t e : TypeId) (len : Nat) (parts : Array (Nat × Operand)) (ho : o.op = .buildSlice t len parts)
    (k : IntKind) (zs : List Int) (N : Nat) (hN : w.heap.size = N) (d : Option Tmp) (hd : o.dst = d)
    (hu : P.underlying t = some (.slice e)) (hsz : (P.info? e).map (·.size) = some 1) (hz : ((P.info? e).bind (·.zero)).isSome = true)
    (hlen : len = zs.length) (hpos : 0 < len) (hsmall : len ≤ 2 ^ 24)
    (hparts : parts.toList = (zs.zipIdx 0).map fun x => (x.2, Operand.const (Value.int k x.1)))
    (h : wpList P ops Q rest (a.put d (.slice (some ⟨N, 0, none⟩) len len)) (w.alloc (.cells (zs.map (Value.int k)).toArray e))) : wpList P ops Q (o :: rest) a w := by
  subst hN hd
  refine wpList_step fun K hK => ?_
  rw [if_pos hw]
  cases hie : P.info? e with
  | none => simp [hie] at hsz
  | some ie =>
    simp only [hie, Option.map_some, Option.some.injEq, Option.bind_some] at hsz hz
    obtain ⟨z, hzz⟩ := Option.isSome_iff_exists.1 hz
    refine wp_buildSlice t e len parts ho _ ie z hu hie hzz (by rw [hsz]; omega) (by rw [hsz]; omega) ?_ (hK _ _ h)
    rw [parts_eval a parts k zs hparts, hsz]
    exact Great.fill_flat _ _ (fun v hv => by obtain ⟨n, _, rfl⟩ := List.mem_map.1 hv; rfl) (by simp [hlen])
theorem hb0 (k : Int) : Tryz.prog.built 42 [(0, .int .u8 k)] = some #[.int .u8 k, .int .i64 0, .int .i64 0, .int .i64 0, .int .i64 0, .int .i64 0, .bool false, .int .u32 0, .string ⟨#[]⟩, .slice none 0 0, .int .i64 0, .slice none 0 0] := by kernel_rfl
theorem hb1 (k a b c d e : Int) (x : Bool) (j : Int) : Tryz.prog.built 42 [(0, .int .u8 k), (1, .agg #[.int .i64 a, .int .i64 b, .int .i64 c, .int .i64 d, .int .i64 e, .bool x, .int .u32 j])] = some #[.int .u8 k, .int .i64 a, .int .i64 b, .int .i64 c, .int .i64 d, .int .i64 e, .bool x, .int .u32 j, .string ⟨#[]⟩, .slice none 0 0, .int .i64 0, .slice none 0 0] := by kernel_rfl
theorem hb23 (k : Int) (s : ByteArray) (A : Option Addr) (n c : Nat) : Tryz.prog.built 42 [(0, .int .u8 k), (2, .string s), (3, .slice A n c)] = some #[.int .u8 k, .int .i64 0, .int .i64 0, .int .i64 0, .int .i64 0, .int .i64 0, .bool false, .int .u32 0, .string s, .slice A n c, .int .i64 0, .slice none 0 0] := by kernel_rfl
theorem hb2 (k : Int) (s : ByteArray) : Tryz.prog.built 42 [(0, .int .u8 k), (2, .string s)] = some #[.int .u8 k, .int .i64 0, .int .i64 0, .int .i64 0, .int .i64 0, .int .i64 0, .bool false, .int .u32 0, .string s, .slice none 0 0, .int .i64 0, .slice none 0 0] := by kernel_rfl
theorem hb4 (k z : Int) : Tryz.prog.built 42 [(0, .int .u8 k), (4, .int .i64 z)] = some #[.int .u8 k, .int .i64 0, .int .i64 0, .int .i64 0, .int .i64 0, .int .i64 0, .bool false, .int .u32 0, .string ⟨#[]⟩, .slice none 0 0, .int .i64 z, .slice none 0 0] := by kernel_rfl
theorem hb5 (k : Int) (A : Option Addr) (n c : Nat) : Tryz.prog.built 42 [(0, .int .u8 k), (5, .slice A n c)] = some #[.int .u8 k, .int .i64 0, .int .i64 0, .int .i64 0, .int .i64 0, .int .i64 0, .bool false, .int .u32 0, .string ⟨#[]⟩, .slice none 0 0, .int .i64 0, .slice A n c] := by kernel_rfl
theorem hb41 (k z a b c d e : Int) (x : Bool) (j : Int) : Tryz.prog.built 42 [(0, .int .u8 k), (4, .int .i64 z), (1, .agg #[.int .i64 a, .int .i64 b, .int .i64 c, .int .i64 d, .int .i64 e, .bool x, .int .u32 j])] = some #[.int .u8 k, .int .i64 a, .int .i64 b, .int .i64 c, .int .i64 d, .int .i64 e, .bool x, .int .u32 j, .string ⟨#[]⟩, .slice none 0 0, .int .i64 z, .slice none 0 0] := by kernel_rfl
def kc (k : Int) (m : ManM) (name b : ByteArray) (n : Int) (keep : List Int) : CallM := ⟨k, m, name, b, n, keep⟩
def E0 : ByteArray := ⟨#[]⟩
/-- the row of the closed law; T: the bytes of its manifest -/
def knL (T : ByteArray) (vx vk : Value) : List CV :=
  [(⟨0, ⟨0, 1, -1, 0, 0, false, 0⟩, E0, E0, 0, []⟩, .slice none 0 0, .slice none 0 0),
   (⟨0, ⟨0, 1, 0, 5, 0, false, 0⟩, E0, E0, 0, []⟩, .slice none 0 0, .slice none 0 0),
   (⟨0, zeroM, E0, E0, 0, []⟩, .slice none 0 0, .slice none 0 0),
   (⟨7, zeroM, ⟨#[109, 102, 46, 55]⟩, T, 0, []⟩, vx, .slice none 0 0),
   (⟨7, zeroM, ⟨#[109, 102, 46, 56]⟩, T, 0, []⟩, vx, .slice none 0 0),
   (⟨7, zeroM, ⟨#[109, 102, 46, 120]⟩, E0, 0, []⟩, .slice none 0 0, .slice none 0 0),
   (⟨7, zeroM, ⟨#[109, 102, 46, 116, 109, 112]⟩, T, 0, []⟩, vx, .slice none 0 0),
   (⟨0, ⟨0, 1, 1, 0, 0, false, 0⟩, E0, E0, 0, []⟩, .slice none 0 0, .slice none 0 0),
   (⟨6, zeroM, E0, E0, 0, []⟩, .slice none 0 0, .slice none 0 0),
   (⟨4, zeroM, E0, E0, 1, []⟩, .slice none 0 0, .slice none 0 0),
   (⟨0, ⟨0, 9, 0, 0, 0, false, 0⟩, E0, E0, 0, []⟩, .slice none 0 0, .slice none 0 0),
   (⟨5, zeroM, E0, E0, 0, [99, 99]⟩, .slice none 0 0, vk),
   (⟨4, zeroM, E0, E0, 3, []⟩, .slice none 0 0, .slice none 0 0),
   (⟨0, ⟨0, 9, 0, 0, 0, false, 0⟩, E0, E0, 0, []⟩, .slice none 0 0, .slice none 0 0),
   (⟨5, ⟨0, 0, 0, 0, 0, true, 0⟩, E0, E0, 1, []⟩, .slice none 0 0, .slice none 0 0),
   (⟨5, ⟨0, 0, 0, 0, 0, true, 0⟩, E0, E0, 0, []⟩, .slice none 0 0, .slice none 0 0),
   (⟨5, zeroM, E0, E0, 0, []⟩, .slice none 0 0, .slice none 0 0),
   (⟨7, zeroM, ⟨#[109, 102, 46, 116, 109, 112]⟩, E0, 0, []⟩, .slice none 0 0, .slice none 0 0),
   (⟨6, zeroM, E0, E0, 0, []⟩, .slice none 0 0, .slice none 0 0),
   (⟨0, ⟨0, 2, 3, 0, 0, true, 0⟩, E0, E0, 0, []⟩, .slice none 0 0, .slice none 0 0)]
theorem knL_len (T : ByteArray) (vx vk : Value) : (knL T vx vk).length = 20 := rfl
theorem cv_ok {w : World} {k n : Int} {m : ManM} {name b : ByteArray} {keep : List Int} {v1 v2 : Value} (h1 : 0 ≤ k ∧ k ≤ 255) (h2 : m.Ok) (h3 : In64 n) (h4 : ∀ z ∈ keep, In64 z)
    (h5 : ∃ A cc, v1 = .slice A b.size cc ∧ BtR w (.slice A b.size cc) b) (h6 : ∃ A cc, v2 = .slice A keep.length cc ∧ Rd w 1 A keep.length (keep.map (Value.int .i64))) : CvOk w (⟨k, m, name, b, n, keep⟩, v1, v2) := ⟨h1, h2, h3, h4, h5, h6⟩
theorem knL_ok {w : World} {T : ByteArray} {vx vk : Value} (hx : ∃ A cc, vx = .slice A T.size cc ∧ BtR w (.slice A T.size cc) T) (hk : ∃ A cc, vk = .slice A 2 cc ∧ Rd w 1 A 2 [.int .i64 99, .int .i64 99]) : ∀ x ∈ knL T vx vk, CvOk w x := by
  have h0 : ∃ A cc, Value.slice none 0 0 = .slice A E0.size cc ∧ BtR w (.slice A E0.size cc) E0 := ⟨none, 0, rfl, (bt_nil w).btr⟩
  have h1 : ∃ A cc, Value.slice none 0 0 = .slice A ([] : List Int).length cc ∧ Rd w 1 A ([] : List Int).length (([] : List Int).map (Value.int .i64)) := ⟨none, 0, rfl, Rd.nil_⟩
  have hn : ∀ z ∈ ([] : List Int), In64 z := fun _ h => by cases h
  have h99 : ∀ z ∈ ([99, 99] : List Int), In64 z := fun z h => by
    simp only [List.mem_cons, List.not_mem_nil, or_false, or_self] at h
    subst h
    exact ⟨by decide, by decide⟩
  intro x hm
  simp only [knL, List.mem_cons, List.not_mem_nil, or_false] at hm
  rcases hm with rfl | rfl | rfl | rfl | rfl | rfl | rfl | rfl | rfl | rfl | rfl | rfl | rfl | rfl | rfl | rfl | rfl | rfl | rfl | rfl <;>
    exact cv_ok ⟨by decide, by decide⟩ ⟨⟨by decide, by decide⟩, ⟨by decide, by decide⟩, ⟨by decide, by decide⟩, ⟨by decide, by decide⟩, ⟨by decide, by decide⟩, by decide⟩ ⟨by decide, by decide⟩ (by first | exact hn | exact h99) (by first | exact h0 | exact hx) (by first | exact h1 | exact hk)
end Go.Proofs.YtlcgkcafelpglaaGreatDoor
