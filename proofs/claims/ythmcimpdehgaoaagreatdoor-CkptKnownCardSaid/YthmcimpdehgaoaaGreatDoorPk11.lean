/- fields.Writer: what was put, piece behind piece; put, Byte, Word, Long. fields.Writer: Byte, Word, Long, and all that was put: Out. -/
import Derived.Test.YthmcimpdehgaoaaGreatDoorMaC
import Derived.Laws.CopyRow
import Derived.Laws.CopyOwn
import Derived.Shelf.Spec.SlicesInsert
import Derived.Deep.RegionLaw
namespace Go.Proofs.YthmcimpdehgaoaaGreatDoor
open Go.RowKit

/-- pieces, the one that was put last ahead -/
def Chain (w : World) : Option Addr → List ByteArray → Prop
  | p, [] => p = none
  | p, s :: r => ∃ q v p', p = some ⟨q, 0, none⟩ ∧ Blk w q 158 #[v, .pointer p'] ∧ Bt w v s ∧ Chain w p' r
def cat : List ByteArray → ByteArray
  | [] => ⟨#[]⟩
  | s :: r => cat r ++ s
/-- a writer, and all that was put -/
def WrIs (w : World) (gw : Nat) (T : ByteArray) : Prop := ∃ l p, cat l = T ∧ Blk w gw 118 #[.pointer p, .int .i64 T.size] ∧ Chain w p l
theorem Chain.keep {w w' : World} (hp : ∀ (k : Nat) cs fz, w.heap[k]? = some (.cells cs 158 fz) → w'.heap[k]? = w.heap[k]?) (hu : ∀ (k : Nat) cs fz, w.heap[k]? = some (.cells cs 5 fz) → w'.heap[k]? = w.heap[k]?) :
    ∀ (l : List ByteArray) (p : Option Addr), Chain w p l → Chain w' p l := by
  intro l
  induction l with
  | nil => exact fun _ h => h
  | cons s r ih =>
    rintro p ⟨q, v, p', rfl, hb, ht, hc⟩
    exact ⟨q, v, p', rfl, (hp q _ _ hb).trans hb, ht.keep hu, ih _ hc⟩
theorem Chain.below {w w' : World} {B : Nat} (hb : Below B w w') (hB : w.heap.size ≤ B) (l : List ByteArray) (p : Option Addr) (h : Chain w p l) : Chain w' p l :=
  Chain.keep (fun k _ _ hk => hb.block k (by have := (Array.getElem?_eq_some_iff.1 hk).1; omega)) (fun k _ _ hk => hb.block k (by have := (Array.getElem?_eq_some_iff.1 hk).1; omega)) l p h
theorem WrIs.below {w w' : World} {gw : Nat} {T : ByteArray} (h : WrIs w gw T) (hb : Below w.heap.size w w') : WrIs w' gw T := by
  obtain ⟨l, p, hc, hk, hch⟩ := h
  exact ⟨l, p, hc, hk.below hb hk.lt, hch.below hb (Nat.le_refl _)⟩
theorem WrIs.lt {w : World} {gw : Nat} {T : ByteArray} (h : WrIs w gw T) : gw < w.heap.size := by obtain ⟨_, _, _, hk, _⟩ := h; exact hk.lt
theorem WrIs.new (w : World) : WrIs (w.alloc (.cells #[.pointer none, .int .i64 0] 118)) w.heap.size ⟨#[]⟩ := ⟨[], none, rfl, Blk.new w _ _, rfl⟩
set_option maxRecDepth 100000 in
set_option maxHeartbeats 2000000 in
theorem put_all (w : World) (gw : Nat) (T s : ByteArray) (v : Value) (h : WrIs w gw T) (hs : Bt w v s) (hT : T.size + s.size ≤ 1000000000) :
    Calls Tryz.prog 115 #[.pointer (some ⟨gw, 0, none⟩), v] w fun e w' => e = .returned (.tuple #[]) ∧ WrIs w' gw (T ++ s) ∧ Moved w w' gw none := by
  obtain ⟨l, p, hc, hk, hch⟩ := h
  obtain ⟨A, c, rfl, hsc, hrest⟩ := id hs
  have c0 := hk.cell 0; have c1 := hk.cell 1; have f0 := hk.frozen 0; have f1 := hk.frozen 1
  simp only [List.getElem?_toArray, List.getElem?_cons_zero, List.getElem?_cons_succ] at c0 c1
  have hlt := hk.lt
  have hz1 : ((w.setCell ⟨gw, 0, none⟩ (.pointer (some ⟨w.heap.size, 0, none⟩))).setCell ⟨gw, 1, none⟩ (.int .i64 ((T.size : Int) + (s.size : Int)))).heap.size = w.heap.size := by simp
  have hkeep : ∀ (t : TypeId), t ≠ 118 → ∀ (k : Nat) cs fz, w.heap[k]? = some (.cells cs t fz) → (((w.setCell ⟨gw, 0, none⟩ (.pointer (some ⟨w.heap.size, 0, none⟩))).setCell ⟨gw, 1, none⟩ (.int .i64 ((T.size : Int) + (s.size : Int)))).alloc (.cells #[.slice A s.size c, .pointer p] 158)).heap[k]? = w.heap[k]? := fun t ht k cs fz hh => by
    have hne : k ≠ gw := by rintro rfl; exact blk_type hk hh (Ne.symm ht)
    have hkl : k < w.heap.size := (Array.getElem?_eq_some_iff.1 hh).1
    rw [Below.heap_alloc _ _ k (by rw [hz1]; exact hkl), Below.heap_setCell _ ⟨gw, 1, none⟩ _ k hne, Below.heap_setCell _ ⟨gw, 0, none⟩ _ k hne]
  have hfin : WrIs (((w.setCell ⟨gw, 0, none⟩ (.pointer (some ⟨w.heap.size, 0, none⟩))).setCell ⟨gw, 1, none⟩ (.int .i64 ((T.size : Int) + (s.size : Int)))).alloc (.cells #[.slice A s.size c, .pointer p] 158)) gw (T ++ s) := by
    refine ⟨s :: l, some ⟨w.heap.size, 0, none⟩, by rw [cat, hc], ?_, w.heap.size, .slice A s.size c, p, rfl, ?_, ?_, ?_⟩
    · have h2 := ((hk.set_ 0 (.pointer (some ⟨w.heap.size, 0, none⟩))).set_ 1 (.int .i64 ((T.size : Int) + (s.size : Int)))).alloc (.cells #[.slice A s.size c, .pointer p] 158)
      rw [ByteArray.size_append, Int.natCast_add]
      exact h2
    · have h2 := Blk.new ((w.setCell ⟨gw, 0, none⟩ (.pointer (some ⟨w.heap.size, 0, none⟩))).setCell ⟨gw, 1, none⟩ (.int .i64 ((T.size : Int) + (s.size : Int)))) 158 #[.slice A s.size c, .pointer p]
      rw [hz1] at h2
      exact h2
    · exact hs.keep (hkeep _ (by decide))
    · exact Chain.keep (hkeep _ (by decide)) (hkeep _ (by decide)) l p hch
  have hmv : Moved w (((w.setCell ⟨gw, 0, none⟩ (.pointer (some ⟨w.heap.size, 0, none⟩))).setCell ⟨gw, 1, none⟩ (.int .i64 ((T.size : Int) + (s.size : Int)))).alloc (.cells #[.slice A s.size c, .pointer p] 158)) gw none :=
    ((Moved.set_ w gw 0 none _).trans (Moved.set_ _ gw 1 none _) (.inl rfl)).trans (Moved.of_below ((Below.refl _ _).alloc (Nat.le_refl _) _) gw none) (.inl rfl)
  have HF := Lib.hid hfin; have HM := Lib.hid hmv
  have hTI : (T.size : Int) + (s.size : Int) ≤ 1000000000 := by omega
  have hne : gw ≠ w.heap.size := by omega
  clear hfin hmv hs hch hk hrest hkeep hz1
  go_enter Tryz.func115, Tryz.ntmps115
  go_wp2
  go_end0
  exact ⟨rfl, HF.out, HM.out⟩
theorem put_any (w : World) (gw : Nat) (T s : ByteArray) (v : Value) (h : WrIs w gw T) (hs : Bt w v s) (_h0 : 0 < s.size) (hT : T.size + s.size ≤ 1000000000) :
    Calls Tryz.prog 115 #[.pointer (some ⟨gw, 0, none⟩), v] w fun e w' => e = .returned (.tuple #[]) ∧ WrIs w' gw (T ++ s) ∧ Moved w w' gw none := put_all w gw T s v h hs hT
end Go.Proofs.YthmcimpdehgaoaaGreatDoor
namespace Go.Proofs.YthmcimpdehgaoaaGreatDoor
open Go.RowKit Go.Maps

set_option maxRecDepth 100000 in
set_option maxHeartbeats 2000000 in
theorem wByte_any (w : World) (gw : Nat) (T : ByteArray) (n : Nat) (hn : n < 256) (h : WrIs w gw T) (hT : T.size ≤ 999999999 - 1) :
    Calls Tryz.prog 82 #[.pointer (some ⟨gw, 0, none⟩), .int .u8 n] w fun e w' => e = .returned (.tuple #[]) ∧ WrIs w' gw (T ++ digB 1 n) ∧ Moved w w' gw none := by
  have HD := Lib.hid (digits_u8 n hn w); have HW := Lib.hid h
  have hlt := h.lt
  clear h
  go_enter Tryz.func82, Tryz.ntmps82
  go_wp2_with fail
  refine HD.out.mono ?_
  clear HD
  rintro e w1 ⟨v, rfl, ho, hb⟩
  have hw1 := HW.out.below hb
  have hbt : Bt w1 v (digB 1 n) := Bt.of_own (by rw [digB_size]; exact ho)
  have HP := Lib.hid (put_any w1 gw T (digB 1 n) v hw1 hbt (by rw [digB_size]; decide) (by rw [digB_size]; omega))
  have HM := Lib.hid (Moved.of_below hb gw none)
  clear ho hb hw1 hbt HW
  go_wp2_with fail
  refine HP.out.mono ?_
  rintro e w2 ⟨rfl, h2, hm⟩
  have H2 := Lib.hid h2; have HM2 := Lib.hid (HM.out.trans hm (.inl rfl))
  clear HP h2 hm HM
  go_wp2
  go_end0
  exact ⟨rfl, H2.out, HM2.out⟩
set_option maxRecDepth 100000 in
set_option maxHeartbeats 2000000 in
theorem wWord_any (w : World) (gw : Nat) (T : ByteArray) (n : Nat) (hn : n < 4294967296) (h : WrIs w gw T) (hT : T.size ≤ 999999999 - 4) :
    Calls Tryz.prog 84 #[.pointer (some ⟨gw, 0, none⟩), .int .u32 n] w fun e w' => e = .returned (.tuple #[]) ∧ WrIs w' gw (T ++ digB 4 n) ∧ Moved w w' gw none := by
  have HD := Lib.hid (digits_u32 n hn w); have HW := Lib.hid h
  have hlt := h.lt
  clear h
  go_enter Tryz.func84, Tryz.ntmps84
  go_wp2_with fail
  refine HD.out.mono ?_
  clear HD
  rintro e w1 ⟨v, rfl, ho, hb⟩
  have hw1 := HW.out.below hb
  have hbt : Bt w1 v (digB 4 n) := Bt.of_own (by rw [digB_size]; exact ho)
  have HP := Lib.hid (put_any w1 gw T (digB 4 n) v hw1 hbt (by rw [digB_size]; decide) (by rw [digB_size]; omega))
  have HM := Lib.hid (Moved.of_below hb gw none)
  clear ho hb hw1 hbt HW
  go_wp2_with fail
  refine HP.out.mono ?_
  rintro e w2 ⟨rfl, h2, hm⟩
  have H2 := Lib.hid h2; have HM2 := Lib.hid (HM.out.trans hm (.inl rfl))
  clear HP h2 hm HM
  go_wp2
  go_end0
  exact ⟨rfl, H2.out, HM2.out⟩
set_option maxRecDepth 100000 in
set_option maxHeartbeats 2000000 in
theorem wLong_any (w : World) (gw : Nat) (T : ByteArray) (n : Nat) (hn : n < 18446744073709551616) (h : WrIs w gw T) (hT : T.size ≤ 999999999 - 8) :
    Calls Tryz.prog 83 #[.pointer (some ⟨gw, 0, none⟩), .int .u64 n] w fun e w' => e = .returned (.tuple #[]) ∧ WrIs w' gw (T ++ digB 8 n) ∧ Moved w w' gw none := by
  have HD := Lib.hid (digits_u64 n hn w); have HW := Lib.hid h
  have hlt := h.lt
  clear h
  go_enter Tryz.func83, Tryz.ntmps83
  go_wp2_with fail
  refine HD.out.mono ?_
  clear HD
  rintro e w1 ⟨v, rfl, ho, hb⟩
  have hw1 := HW.out.below hb
  have hbt : Bt w1 v (digB 8 n) := Bt.of_own (by rw [digB_size]; exact ho)
  have HP := Lib.hid (put_any w1 gw T (digB 8 n) v hw1 hbt (by rw [digB_size]; decide) (by rw [digB_size]; omega))
  have HM := Lib.hid (Moved.of_below hb gw none)
  clear ho hb hw1 hbt HW
  go_wp2_with fail
  refine HP.out.mono ?_
  rintro e w2 ⟨rfl, h2, hm⟩
  have H2 := Lib.hid h2; have HM2 := Lib.hid (HM.out.trans hm (.inl rfl))
  clear HP h2 hm HM
  go_wp2
  go_end0
  exact ⟨rfl, H2.out, HM2.out⟩
theorem cat_cells (s : ByteArray) (r : List ByteArray) : ucells (cat (s :: r)) = ucells (cat r) ++ ucells s := by
  unfold ucells
  rw [cat, ByteArray.data_append, Array.toList_append, List.map_append]
theorem rep_take (a b : Nat) (z : Value) (tl : List Value) : (List.replicate (a + b) z ++ tl).take a = List.replicate a z := by
  rw [List.take_append_of_le_length (by simp), List.take_replicate]
  congr 1; omega
theorem rep_drop (a b : Nat) (z : Value) (tl : List Value) : (List.replicate (a + b) z ++ tl).drop (a + b) = tl := by
  rw [List.drop_append_of_le_length (by simp)]
  simp
theorem setRow_below {B g : Nat} {w0 w : World} (hb : Below B w0 w) (hBg : B ≤ g) (cs : Array Value) : Below B w0 (w.setRow g cs) := below_setRow hb hBg cs
/-- the state of Out's loop -/
structure OutS (w wr : World) (T : ByteArray) (l : List ByteArray) (p : Option Addr) (tl : List Value) : Prop where
  below : Below w.heap.size w wr
  ch : Chain w p l
  row : Blk wr w.heap.size 5 (List.replicate (cat l).size (Value.int .u8 0) ++ tl).toArray
  all : ucells (cat l) ++ tl = ucells T
theorem OutS.len {w wr : World} {T : ByteArray} {l : List ByteArray} {p : Option Addr} {tl : List Value} (h : OutS w wr T l p tl) : (cat l).size + tl.length = T.size := by
  have := congrArg List.length h.all
  rw [List.length_append, ucells_length, ucells_length] at this
  exact this
theorem OutS.step {w wr : World} {T s : ByteArray} {r : List ByteArray} {p p' : Option Addr} {tl : List Value} (h : OutS w wr T (s :: r) p tl) (hc : Chain w p' r) :
    OutS w (wr.drew.setRow w.heap.size ((List.replicate (cat (s :: r)).size (Value.int .u8 0) ++ tl).toArray.toList.take (cat r).size ++ ucells s ++ (List.replicate (cat (s :: r)).size (Value.int .u8 0) ++ tl).toArray.toList.drop ((cat r).size + (ucells s).length)).toArray) T r p' (ucells s ++ tl) := by
  have hs : (cat (s :: r)).size = (cat r).size + s.size := by rw [cat, ByteArray.size_append]
  refine ⟨setRow_below (below_drewN h.below 1) (Nat.le_refl _) _, hc, ?_, by rw [← List.append_assoc, ← cat_cells]; exact h.all⟩
  have h1 := setRow_heap wr.drew w.heap.size _ ((List.replicate (cat (s :: r)).size (Value.int .u8 0) ++ tl).toArray.toList.take (cat r).size ++ ucells s ++ (List.replicate (cat (s :: r)).size (Value.int .u8 0) ++ tl).toArray.toList.drop ((cat r).size + (ucells s).length)).toArray 5 _ h.row
  rw [ucells_length, hs] at h1 ⊢
  simp only [rep_take, rep_drop, List.append_assoc] at h1 ⊢
  exact h1
theorem OutS.zero {w wr : World} {T s : ByteArray} {r : List ByteArray} {p p' : Option Addr} {tl : List Value} (h : OutS w wr T (s :: r) p tl) (hc : Chain w p' r) (h0 : s.size = 0) : OutS w wr.drew T r p' tl := by
  have hs : (cat (s :: r)).size = (cat r).size := by rw [cat, ByteArray.size_append]; omega
  have hu : ucells s = [] := List.eq_nil_of_length_eq_zero (by rw [ucells_length, h0])
  have hall := h.all
  rw [cat_cells, hu, List.append_nil] at hall
  have hrow := h.row
  rw [hs] at hrow
  exact ⟨below_drewN h.below 1, hc, hrow, hall⟩
set_option maxRecDepth 100000 in
set_option maxHeartbeats 4000000 in
theorem out_any (w : World) (gw : Nat) (T : ByteArray) (h : WrIs w gw T) (hT : T.size ≤ 1000000000) :
    Calls Tryz.prog 86 #[.pointer (some ⟨gw, 0, none⟩)] w fun e w' => ∃ v, e = .returned v ∧ w'.ownsRow w.heap.size 5 1 v T.size (ucells T) ∧ Below w.heap.size w w' := by
  obtain ⟨l, p, hc, hk, hch⟩ := h
  have c0 := hk.cell 0; have c1 := hk.cell 1
  simp only [List.getElem?_toArray, List.getElem?_cons_zero, List.getElem?_cons_succ] at c0 c1
  obtain ⟨i0, hi0, hz0, hz1, hz2⟩ := parts infoU
  obtain ⟨Z, hZ⟩ : ∃ Z, (List.replicate T.size (Value.int .u8 0)).toArray = Z := ⟨_, rfl⟩
  have hmk : ∀ W : World, (Instr.makeSlice 33 (.int .i64 T.size) (.int .i64 T.size)).run Tryz.prog W = .ok (.slice (some ⟨W.heap.size, 0, none⟩) T.size T.size) (W.alloc (.cells Z 5)) := by
    rw [← hZ]
    exact fun W => run_make_one (P := Tryz.prog) 33 5 i0 (.int .u8 0) Tryz.underlying33 hi0 hz0 rfl hz1 T.size (by rw [hz2]; omega) (by omega) W
  have hS : OutS w (w.alloc (.cells Z 5)) T l p [] := ⟨(Below.refl _ _).alloc (Nat.le_refl _) _, hch, by rw [hc, List.append_nil, hZ]; exact Blk.new w _ _, by rw [hc, List.append_nil]⟩
  have d0 := (hk.alloc (.cells Z 5)).cell 0
  have d1 := (hk.alloc (.cells Z 5)).cell 1
  simp only [List.getElem?_toArray, List.getElem?_cons_zero, List.getElem?_cons_succ] at d0 d1
  have hcs : (cat l).size = T.size := by rw [hc]
  have HS := Lib.hid hS; have HSZ : Hid ((Tryz.prog.info? 5).map (·.size) = some 1) := Lib.hid (by rw [hi0]; simp [hz1])
  clear hS hZ hk hch hc
  go_enter Tryz.func86, Tryz.ntmps86
  go_wp2
  go_loopg [4, 5] l.length (fun gf a b wr => ∃ (l : List ByteArray) (p : Option Addr) (tl : List Value), a = .int .i64 (cat l).size ∧ b = .pointer p ∧ gf = l.length ∧ OutS w wr T l p tl)
  case atStart => exact ⟨l, p, [], by rw [hcs], rfl, rfl, HS.out⟩
  case round =>
    clear HS c0 c1 d0 d1 hcs hmk
    obtain ⟨l, p, tl, rfl, rfl, hl, hst⟩ := hrel
    cases l with
    | nil =>
      obtain rfl : p = none := hst.ch
      have hall : tl = ucells T := hst.all
      have hrow : Blk wr w.heap.size 5 tl.toArray := hst.row
      rw [hall] at hrow
      have HB := Lib.hid hst.below; have HR := Lib.hid hrow
      clear hst hrow
      go_wp2
      go_ret
      exact ⟨_, rfl, ⟨by rw [ucells_length]; omega, .inr ⟨w.heap.size, T.size, _, rfl, Nat.le_refl _, HR.out, Nat.le_refl _, by unfold maxLen; omega, by simp [ucells_length], by rw [List.take_of_length_le (by simp [ucells_length])]⟩⟩, HB.out⟩
    | cons s r =>
      obtain ⟨q, v, p', rfl, hq, hv, hch⟩ := hst.ch
      obtain ⟨A, c, rfl, hsc, hrd⟩ := id hv
      rcases Nat.eq_zero_or_pos s.size with hs0 | hs0
      · have hqw := hq.below hst.below hq.lt
        have b0 := hqw.cell 0; have b1 := hqw.cell 1
        simp only [List.getElem?_toArray, List.getElem?_cons_zero, List.getElem?_cons_succ] at b0 b1
        have hlen := hst.len
        have hsz : (cat (s :: r)).size = (cat r).size := by rw [cat, ByteArray.size_append]; omega
        have HNX := Lib.hid (hst.zero hch hs0)
        rw [hs0] at b0
        have hrun : ∀ (D : Option Addr) (n m : Nat) (W : World) ty, (Builtin.copy_ #[33, 33] ty #[.slice D n m, .slice A 0 c]).run Tryz.prog W = .ok (goInt 0) W := fun D n m W ty => run_copy_none (P := Tryz.prog) W 33 33 ty 5 D A n m 0 c Tryz.underlying33 HSZ.out (by simp)
        rw [hsz] at hlen ⊢
        have hcl : (cat r).size ≤ T.size := by omega
        have e0 := hqw.drew.cell 0; have e1 := hqw.drew.cell 1
        simp only [List.getElem?_toArray, List.getElem?_cons_zero, List.getElem?_cons_succ] at e0 e1
        rw [hs0] at e0
        have HRUN := Lib.hid hrun
        clear hst hq hqw hch hv hrun hrd
        by_cases hne : (cat r).size = T.size
        · have hz0 : T.size - T.size = 0 := by omega
          go_wp2_with fail
          go_region_law (first | (refine Go.Proofs.step_copy_runI rfl (.tmp 36) (.tmp 40) 33 33 rfl (.slice (some ⟨w.heap.size, 0, none⟩) 0 0) (.slice A 0 c) (by simp [Act.eval]) (by simp [Act.eval]) (HRUN.out _ _ _ _ _) ?_))
          all_goals
            go_wp2
            go_roundg r.length
            case measure => rw [hl]; exact Nat.lt_succ_self _
            case rel => exact ⟨r, p', _, by rw [hne], rfl, rfl, HNX.out⟩
        · have hne2 : ¬ T.size = (cat r).size := fun e => hne e.symm
          go_wp2_with fail
          go_region_law (first | (refine Go.Proofs.step_copy_runI rfl (.tmp 36) (.tmp 40) 33 33 rfl (.slice (some ⟨w.heap.size, (cat r).size, none⟩) (T.size - (cat r).size) (T.size - (cat r).size)) (.slice A 0 c) (by simp [Act.eval]) (by simp [Act.eval]) (HRUN.out _ _ _ _ _) ?_))
          all_goals
            go_wp2
            go_roundg r.length
            case measure => rw [hl]; exact Nat.lt_succ_self _
            case rel => exact ⟨r, p', _, rfl, rfl, rfl, HNX.out⟩
      obtain ⟨blk, off, cs, fz, rfl, hh, hx⟩ := hrd hs0
      have hqw := hq.below hst.below hq.lt
      have b0 := hqw.cell 0; have b1 := hqw.cell 1
      simp only [List.getElem?_toArray, List.getElem?_cons_zero, List.getElem?_cons_succ] at b0 b1
      have hlen := hst.len
      have hsz : (cat (s :: r)).size = (cat r).size + s.size := by rw [cat, ByteArray.size_append]
      have hszI : ((cat (s :: r)).size : Int) = ((cat r).size : Int) + (s.size : Int) := by omega
      have hsub : ((cat (s :: r)).size : Int) - (s.size : Int) = ((cat r).size : Int) := by omega
      have hbl : blk < w.heap.size := (Array.getElem?_eq_some_iff.1 hh).1
      obtain ⟨W5, hW5⟩ : ∃ W5, wr.drew.setRow w.heap.size ((List.replicate (cat (s :: r)).size (Value.int .u8 0) ++ tl).toArray.toList.take (cat r).size ++ ucells s ++ (List.replicate (cat (s :: r)).size (Value.int .u8 0) ++ tl).toArray.toList.drop ((cat r).size + (ucells s).length)).toArray = W5 := ⟨_, rfl⟩
      have hrun : ∀ ty, (Builtin.copy_ #[33, 33] ty #[.slice (some ⟨w.heap.size, (cat r).size, none⟩) (T.size - (cat r).size) (T.size - (cat r).size), .slice (some ⟨blk, off, none⟩) s.size c]).run Tryz.prog wr.drew = .ok (goInt (ucells s).length) W5 := fun ty => by
        rw [← hW5]
        exact run_copy_row (P := Tryz.prog) wr.drew 33 33 ty 5 w.heap.size (cat r).size (T.size - (cat r).size) (T.size - (cat r).size) ⟨blk, off, none⟩ s.size c _ 5 (ucells s) Tryz.underlying33 HSZ.out hst.row
          (by rw [ucells_length]; simp only [Nat.min_def]; split <;> omega)
          (fun j u hu => by
            have hj : j < s.size := by have := (List.getElem?_eq_some_iff.1 hu).1; rwa [ucells_length] at this
            have hhw : wr.drew.heap[blk]? = some (.cells cs 5 fz) := (hst.below.block blk hbl).trans hh
            rw [addr_add, cell_of_row _ blk (off + j) cs 5 fz hhw, hx j hj, ← ucells_at s j hj, hu])
          (by rw [ucells_length]; simp; omega) (ucells_one s)
      have hnx := hst.step hch
      rw [hW5] at hnx
      have hqn := hq.below hnx.below hq.lt
      have hne : ¬ T.size = (cat r).size := by omega
      have HRUN := Lib.hid hrun; have HNX := Lib.hid hnx
      clear hst hq hqw hch hv hrun hnx hrd hx
      have hcl : (cat r).size ≤ T.size := by omega
      have e0 := hqn.cell 0; have e1 := hqn.cell 1
      simp only [List.getElem?_toArray, List.getElem?_cons_zero, List.getElem?_cons_succ] at e0 e1
      clear hqn hW5
      go_wp2_with fail
      go_region_law (first | (refine Go.Proofs.step_copy_runI rfl (.tmp 36) (.tmp 40) 33 33 rfl (.slice (some ⟨w.heap.size, (cat r).size, none⟩) (T.size - (cat r).size) (T.size - (cat r).size)) (.slice (some ⟨blk, off, none⟩) s.size c) (by simp [Act.eval]) (by simp [Act.eval]) (HRUN.out _) ?_))
      all_goals
        go_wp2
        go_roundg r.length
        case measure => rw [hl]; exact Nat.lt_succ_self _
        case rel => exact ⟨r, p', _, rfl, rfl, rfl, HNX.out⟩
end Go.Proofs.YthmcimpdehgaoaaGreatDoor
