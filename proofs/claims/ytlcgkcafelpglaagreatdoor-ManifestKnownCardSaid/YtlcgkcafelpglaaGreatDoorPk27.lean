/- fields.Reader: its bytes, its place, whether it has fallen; Left, next. fields.Open; Reader: Byte, Word, Long. -/
import Derived.Test.YtlcgkcafelpglaaGreatDoorPk20
import Derived.Test.YtlcgkcafelpglaaGreatDoorDk4
import Derived.Test.YtlcgkcafelpglaaGreatDoorDigS
import Derived.Test.YtlcgkcafelpglaaGreatDoorPk7
import Derived.Laws.BitsAllLaws
namespace Go.Proofs.YtlcgkcafelpglaaGreatDoor
open Go.RowKit

/-- a reader: its bytes, its place, whether it has fallen -/
structure RdD where
  b : ByteArray
  at_ : Nat
  bad : Bool
def RdIs (w : World) (g : Nat) (r : RdD) : Prop := r.at_ ≤ r.b.size ∧ r.b.size ≤ 1000000000 ∧ ∃ v, Blk w g 129 #[v, .int .i64 r.at_, .bool r.bad] ∧ Bt w v r.b
def RdD.falls (r : RdD) (n : Int) : Bool := r.bad || decide (n < 0) || decide ((r.b.size : Int) - (r.at_ : Int) < n)
def RdD.next (r : RdD) (n : Int) : ByteArray × RdD := if r.falls n = true then (ByteArray.empty, ⟨r.b, r.b.size, true⟩) else (r.b.extract r.at_ (r.at_ + n.toNat), ⟨r.b, r.at_ + n.toNat, r.bad⟩)
theorem RdIs.keep {w w' : World} {g : Nat} {r : RdD} (h : RdIs w g r) (hg : w'.heap[g]? = w.heap[g]?) (hu : ∀ (k : Nat) cs fz, w.heap[k]? = some (.cells cs 5 fz) → w'.heap[k]? = w.heap[k]?) : RdIs w' g r := by
  obtain ⟨h1, h2, v, hk, hb⟩ := h
  exact ⟨h1, h2, v, hg.trans hk, hb.keep hu⟩
theorem RdIs.lt {w : World} {g : Nat} {r : RdD} (h : RdIs w g r) : g < w.heap.size := by obtain ⟨_, _, v, hk, _⟩ := h; exact hk.lt
theorem RdIs.below {w w' : World} {g : Nat} {r : RdD} (h : RdIs w g r) (hb : Below w.heap.size w w') : RdIs w' g r :=
  h.keep (hb.block g h.lt) fun k _ _ hk => hb.block k (Array.getElem?_eq_some_iff.1 hk).1
theorem RdIs.drewN {w : World} {g : Nat} {r : RdD} (h : RdIs w g r) (n : Nat) : RdIs (w.drewN n) g r := h
theorem moved_drewN {w w' : World} {p : Nat} {g : Option Nat} (h : Moved w w' p g) (n : Nat) : Moved w (w'.drewN n) p g := ⟨h.os, h.tape, h.output, h.size, h.block⟩
theorem ext_empty (b : ByteArray) (i : Nat) : b.extract i i = ByteArray.empty := by
  apply ByteArray.ext
  simp
theorem ext_get (b : ByteArray) (i j k : Nat) (hj : j ≤ b.size) (hk : k < j - i) : (b.extract i j).get! k = b.get! (i + k) := by
  have h1 : k < (b.extract i j).data.size := by simp; have : b.data.size = b.size := rfl; omega
  have h2 : i + k < b.data.size := by have : b.data.size = b.size := rfl; omega
  simp only [ByteArray.get!, getElem!_pos, h1, h2]
  simp [ByteArray.data_extract]
theorem run_fromto {P : Program} {t e : TypeId} {ti : TypeInfo} (ht : P.underlying t = some (.slice e)) (hi : P.info? e = some ti) (h1 : ti.size = 1) (A : Option Addr) (n c i j : Nat) (hij : i ≤ j) (hj : j ≤ c) (w : World) :
    (Instr.sliceAt t (.slice A n c) (some (.int .i64 (i : Int))) (some (.int .i64 (j : Int))) none).run P w = .ok (.slice (if c = i then A else A.map (·.add i)) (j - i) (c - i)) w := by
  have he : P.elem t = e := by unfold Program.elem; rw [ht]
  rw [run_sliceAt_slice w _ _ _ _ _ (by rw [he]; exact ht), run_slice_lh w t A n c (by rw [he]; exact ht) .i64 .i64 i j (by omega) (by omega) (by omega)]
  simp [he, sizeOf, typeInfo, hi, sliced, h1, Result.andThen]
/-- a piece of bytes -/
theorem Bt.piece {w : World} {A : Option Addr} {c : Nat} {s : ByteArray} (h : Bt w (.slice A s.size c) s) (i j : Nat) (hij : i ≤ j) (hj : j ≤ s.size) :
    ∃ v, (∀ W : World, (Instr.sliceAt 39 (.slice A s.size c) (some (.int .i64 (i : Int))) (some (.int .i64 (j : Int))) none).run Tryz.prog W = .ok v W) ∧ Bt w v (s.extract i j) := by
  obtain ⟨A2, c2, he, hc, hr⟩ := h
  simp only [Value.slice.injEq] at he
  obtain ⟨rfl, -, rfl⟩ := he
  obtain ⟨i0, hi0, hz0, hz1, hz2⟩ := parts infoU
  have hsz : (s.extract i j).size = j - i := by rw [ByteArray.size_extract]; omega
  have hrun : ∀ W : World, (Instr.sliceAt 39 (.slice A s.size c) (some (.int .i64 (i : Int))) (some (.int .i64 (j : Int))) none).run Tryz.prog W = .ok (.slice (if c = i then A else A.map (·.add i)) (j - i) (c - i)) W := run_fromto Tryz.underlying39 hi0 hz1 A s.size c i j hij (by omega)
  refine ⟨_, hrun, ?_⟩
  refine ⟨if c = i then A else A.map (·.add i), c - i, by rw [hsz], by rw [hsz]; omega, fun h0 => ?_⟩
  rw [hsz] at h0
  rw [if_neg (by omega)]
  obtain ⟨blk, off, cs, fz, rfl, hh, hx⟩ := hr (by omega)
  refine ⟨blk, off + i, cs, fz, ?_, hh, fun k hk => ?_⟩
  · exact congrArg some (addr_add blk off i)
  · rw [hsz] at hk
    rw [ext_get s i j k hj (by omega), Nat.add_assoc]
    exact hx (i + k) (by omega)
set_option maxHeartbeats 1000000 in
theorem left_any (w : World) (g : Nat) (r : RdD) (h : RdIs w g r) : Calls Tryz.prog 118 #[.pointer (some ⟨g, 0, none⟩)] w fun e w' => e = .returned (.int .i64 ((r.b.size : Int) - (r.at_ : Int))) ∧ ∃ n, w' = w.drewN n := by
  obtain ⟨h1, h2, v, hk, hb⟩ := h
  obtain ⟨A, c, rfl, -, -⟩ := hb
  have c0 := hk.cell 0; have c1 := hk.cell 1
  simp only [List.getElem?_toArray, List.getElem?_cons_zero, List.getElem?_cons_succ] at c0 c1
  clear hk
  go_enter Tryz.func118, Tryz.ntmps118
  go_wp2
  go_quiet (fail)
  go_wp2
  go_ret
  exact ⟨rfl, _, rfl⟩
set_option maxRecDepth 100000 in
set_option maxHeartbeats 4000000 in
theorem next_any (w : World) (g : Nat) (r : RdD) (n : Int) (h : RdIs w g r) (hn : n ≤ 1000000000) :
    Calls Tryz.prog 101 #[.pointer (some ⟨g, 0, none⟩), .int .i64 n] w fun e w' => ∃ v, e = .returned v ∧ Bt w' v (r.next n).1 ∧ RdIs w' g (r.next n).2 ∧ Moved w w' g none := by
  have HL := Lib.hid (left_any w g r h)
  obtain ⟨h1, h2, v, hk, hb⟩ := id h
  obtain ⟨A, c, rfl, hc, hr⟩ := id hb
  have c0 := hk.cell 0; have c1 := hk.cell 1; have c2 := hk.cell 2; have f1 := hk.frozen 1; have f2 := hk.frozen 2
  simp only [List.getElem?_toArray, List.getElem?_cons_zero, List.getElem?_cons_succ] at c0 c1 c2
  have h1I : (r.at_ : Int) ≤ (r.b.size : Int) := by omega
  have h2I : (r.b.size : Int) ≤ 1000000000 := by omega
  have hfall : ∀ X : World, X.heap = w.heap → X.os = w.os → X.tape = w.tape → X.output = w.output → RdIs ((X.setCell ⟨g, 2, none⟩ (.bool true)).setCell ⟨g, 1, none⟩ (.int .i64 (r.b.size : Int))) g ⟨r.b, r.b.size, true⟩ ∧ Moved w ((X.setCell ⟨g, 2, none⟩ (.bool true)).setCell ⟨g, 1, none⟩ (.int .i64 (r.b.size : Int))) g none := fun X e1 e2 e3 e4 => by
    have hkX : Blk X g 129 #[.slice A r.b.size c, .int .i64 r.at_, .bool r.bad] := by unfold Blk; rw [e1]; exact hk
    have hm0 : Moved w X g none := ⟨e2, e3, e4, by rw [e1]; exact Nat.le_refl _, fun k _ _ _ => by rw [e1]⟩
    have hm := (hm0.trans (Moved.set_ X g 2 none (.bool true)) (.inl rfl)).trans (Moved.set_ _ g 1 none (.int .i64 (r.b.size : Int))) (.inl rfl)
    refine ⟨⟨Nat.le_refl _, h2, _, (hkX.set_ 2 (.bool true)).set_ 1 (.int .i64 (r.b.size : Int)), ?_⟩, hm⟩
    exact hb.keep fun blk cs fz hh => hm.block blk (Array.getElem?_eq_some_iff.1 hh).1 (fun e => by subst e; exact blk_type hk hh (by decide)) (by simp)
  have HF := Lib.hid hfall
  by_cases hf : r.falls n = true
  · rw [RdD.next, if_pos hf]
    clear hfall hr hb h
    cases hbad : r.bad with
    | true =>
      rw [hbad] at c2
      clear hf hbad
      go_enter Tryz.func101, Tryz.ntmps101
      go_wp2
      go_ret
      exact ⟨_, rfl, bt_nil _, (HF.out w rfl rfl rfl rfl).1, (HF.out w rfl rfl rfl rfl).2⟩
    | false =>
      rw [hbad] at c2
      by_cases hn0 : n < 0
      · clear hf hbad
        go_enter Tryz.func101, Tryz.ntmps101
        go_wp2
        go_ret
        exact ⟨_, rfl, bt_nil _, (HF.out w rfl rfl rfl rfl).1, (HF.out w rfl rfl rfl rfl).2⟩
      · have hgt : (r.b.size : Int) - (r.at_ : Int) < n := by
          unfold RdD.falls at hf
          simp [hbad] at hf
          omega
        have hn1 : 0 ≤ n := by omega
        clear hf hbad hn0
        go_enter Tryz.func101, Tryz.ntmps101
        go_wp2_with fail
        refine HL.out.mono ?_
        rintro e w1 ⟨rfl, q, rfl⟩
        go_wp2
        go_ret
        exact ⟨_, rfl, bt_nil _, (HF.out (w.drewN q) rfl rfl rfl rfl).1, (HF.out (w.drewN q) rfl rfl rfl rfl).2⟩
  · have hbad : r.bad = false := by
      cases hx : r.bad with
      | false => rfl
      | true => exact absurd (by unfold RdD.falls; rw [hx]; rfl) hf
    have hle : 0 ≤ n ∧ n ≤ (r.b.size : Int) - (r.at_ : Int) := by
      unfold RdD.falls at hf
      simp [hbad] at hf
      omega
    rw [RdD.next, if_neg hf]
    obtain ⟨m, rfl⟩ : ∃ m : Nat, n = m := ⟨n.toNat, by omega⟩
    rw [hbad] at c2
    have hmI := hle.2
    have hmN : r.at_ + m ≤ r.b.size := by omega
    obtain ⟨v, hrun, hbv⟩ := hb.piece r.at_ (r.at_ + m) (by omega) hmN
    have hgo : ∀ q, Bt (((w.drewN q).setCell ⟨g, 1, none⟩ (.int .i64 ((r.at_ : Int) + (m : Int)))).drew) v (r.b.extract r.at_ (r.at_ + m)) ∧ RdIs (((w.drewN q).setCell ⟨g, 1, none⟩ (.int .i64 ((r.at_ : Int) + (m : Int)))).drew) g ⟨r.b, r.at_ + m, r.bad⟩ ∧ Moved w (((w.drewN q).setCell ⟨g, 1, none⟩ (.int .i64 ((r.at_ : Int) + (m : Int)))).drew) g none := fun q => by
      have hm : Moved w ((w.drewN q).setCell ⟨g, 1, none⟩ (.int .i64 ((r.at_ : Int) + (m : Int)))) g none := Moved.trans (⟨rfl, rfl, rfl, Nat.le_refl _, fun _ _ _ _ => rfl⟩ : Moved w (w.drewN q) g none) (Moved.set_ (w.drewN q) g 1 none _) (.inl rfl)
      have hu : ∀ (blk : Nat) cs fz, w.heap[blk]? = some (Obj.cells cs 5 fz) → ((w.drewN q).setCell ⟨g, 1, none⟩ (.int .i64 ((r.at_ : Int) + (m : Int)))).drew.heap[blk]? = w.heap[blk]? := fun blk cs fz hh => hm.block blk (Array.getElem?_eq_some_iff.1 hh).1 (fun e => by subst e; exact blk_type hk hh (by decide)) (by simp)
      refine ⟨hbv.keep hu, ⟨hmN, h2, _, ?_, hb.keep hu⟩, ⟨hm.os, hm.tape, hm.output, hm.size, hm.block⟩⟩
      have := (hk.drewN q).set_ 1 (.int .i64 ((r.at_ : Int) + (m : Int)))
      rw [Int.natCast_add]
      exact this
    have HG := Lib.hid hgo
    have hm0 : (0 : Int) ≤ (m : Int) := by omega
    have hrunI : ∀ W : World, (Instr.sliceAt 39 (.slice A r.b.size c) (some (.int .i64 (r.at_ : Int))) (some (.int .i64 ((r.at_ : Int) + (m : Int)))) none).run Tryz.prog W = .ok v W := fun W => by
      have := hrun W
      rwa [Int.natCast_add] at this
    clear hf hbad hfall hr hb h hk hgo hrun hbv hle HF
    go_enter Tryz.func101, Tryz.ntmps101
    go_wp2_with fail
    refine HL.out.mono ?_
    rintro e w1 ⟨rfl, q, rfl⟩
    go_wp2
    go_region
    go_wp2
    go_ret
    exact ⟨_, rfl, HG.out q⟩
end Go.Proofs.YtlcgkcafelpglaaGreatDoor
namespace Go.Proofs.YtlcgkcafelpglaaGreatDoor
open Go.RowKit

theorem next_size (r : RdD) (W : Nat) : (r.next (W : Int)).1.size = 0 ∨ (r.next (W : Int)).1.size = W := by
  unfold RdD.next
  split
  · exact .inl rfl
  · rename_i h
    right
    have : ¬ ((r.b.size : Int) - (r.at_ : Int) < (W : Int)) := fun e => h (by unfold RdD.falls; simp [e])
    show (r.b.extract r.at_ (r.at_ + (W : Int).toNat)).size = W
    rw [ByteArray.size_extract]
    omega
set_option maxHeartbeats 2000000 in
theorem cloneR_any (w : World) (v : Value) (s : ByteArray) (h : BtR w v s) (hs : s.size ≤ 1000000000) :
    Calls Tryz.prog 63 #[v] w fun e w' => ∃ v', e = .returned v' ∧ Bt w' v' s ∧ w'.ownsRow w.heap.size 5 1 v' s.size (ucells s) ∧ Below w.heap.size w w' := by
  obtain ⟨A, c, rfl, hc, hr⟩ := h
  obtain ⟨i0, hi, hz0, hz1, hz2⟩ := parts infoU
  have hnil : ∀ m, Sem.run Tryz.prog (binOp .eql 39 (.slice A m c) (.slice none 0 0)) w = .ok (.bool A.isNone) w := fun m => Lib.run_eql_slice_nil (P := Tryz.prog) w 39 5 A m c 0 0 Tryz.underlying39
  cases A with
  | none =>
    have h0 : s.size = 0 := by
      rcases Nat.eq_zero_or_pos s.size with h | h
      · exact h
      · obtain ⟨_, h', _⟩ := hr.2 h; cases h'
    have hn0 : Sem.run Tryz.prog (binOp .eql 39 (.slice none 0 c) (.slice none 0 0)) w = .ok (.bool true) w := hnil 0
    rw [h0]
    clear hnil
    have H0 := Lib.hid h0
    clear hr hc hs h0 hi hz0 hz1 hz2
    go_enter Tryz.func63, Tryz.ntmps63
    go_wp2
    go_ret
    have h0 := H0.out
    have ho : w.ownsRow w.heap.size 5 1 (.slice none 0 0) s.size (ucells s) := ⟨by rw [ucells_length, Nat.mul_one], .inl ⟨rfl, h0⟩⟩
    exact ⟨.slice none 0 0, rfl, Bt.of_own ho, by rw [h0] at ho; exact ho, Below.refl _ _⟩
  | some ad =>
    have hn1 : Sem.run Tryz.prog (binOp .eql 39 (.slice (some ad) s.size c) (.slice none 0 0)) w = .ok (.bool false) w := hnil _
    clear hnil
    have hrA := hr.alloc (Nat.le_refl _) (.cells #[] 5)
    have ho : (w.alloc (.cells #[] 5)).ownsRow w.heap.size 5 1 (.slice (some ⟨w.heap.size, 0, none⟩) 0 0) 0 [] := ⟨by simp, .inr ⟨w.heap.size, 0, #[], rfl, Nat.le_refl _, heap_alloc_new w _, Nat.le_refl _, by unfold maxLen; omega, rfl, by simp⟩⟩
    have hBA := (Below.refl w.heap.size w).alloc (Nat.le_refl _) (.cells #[] 5)
    have HR := Lib.hid hrA; have HO := Lib.hid ho; have HB := Lib.hid hBA
    clear hrA ho hBA hr
    go_enter Tryz.func63, Tryz.ntmps63
    go_wp2_with (at_builtin; refine wpList_append_any _ rfl (.tmp 5) (.tmp 6) 39 rfl w.heap.size 5 i0 (.int .u8 0) 1 1 Tryz.underlying39 hi hz0 hz1 hz2 rfl (by decide) _ _ _ rfl HO.out _ _ _ _ (ucells s) rfl HR.out (ucells_one s) (by unfold maxLen; omega) (by omega) (by simp) ?_; intro v3 w3 h2 h3 h4; have HO3 := Lib.hid h2; have HG3 := Lib.hid h3; clear h2 h3 h4)
    go_ret
    have ho3 := HO3.out
    rw [Nat.zero_add, List.nil_append] at ho3
    exact ⟨_, rfl, Bt.of_own ho3, ho3, HB.out.grown HG3.out (by simp) (fun k hk => (HO.out.lt k hk).1)⟩
set_option maxRecDepth 100000 in
set_option maxHeartbeats 1000000 in
theorem ropen_any (w : World) (v : Value) (b : ByteArray) (h : BtR w v b) (hb : b.size ≤ 1000000000) :
    Calls Tryz.prog 64 #[v] w fun e w' => ∃ g, e = .returned (.pointer (some ⟨g, 0, none⟩)) ∧ RdIs w' g ⟨b, 0, false⟩ ∧ Below w.heap.size w w' ∧ w.heap.size ≤ g := by
  have HC := Lib.hid (cloneR_any w v b h hb)
  obtain ⟨A, c, rfl, -, -⟩ := h
  go_enter Tryz.func64, Tryz.ntmps64
  go_wp2_with fail
  refine HC.out.mono ?_
  rintro e w1 ⟨v1, rfl, hbt, ho, hb1⟩
  have hR : RdIs (w1.alloc (.cells #[v1, .int .i64 0, .bool false] 129)) w1.heap.size ⟨b, 0, false⟩ := ⟨Nat.zero_le _, hb, v1, Blk.new w1 _ _, hbt.below ((Below.refl _ _).alloc (Nat.le_refl _) _)⟩
  have hB := hb1.alloc hb1.size (.cells #[v1, .int .i64 0, .bool false] 129)
  have HR := Lib.hid hR; have HB := Lib.hid hB
  have hle := hb1.size
  obtain ⟨A1, c1, rfl, -, -⟩ := id hbt
  clear hR hB hbt ho hb1 HC
  go_wp2
  go_ret
  exact ⟨w1.heap.size, rfl, HR.out, HB.out, hle⟩
set_option maxRecDepth 100000 in
set_option maxHeartbeats 4000000 in
theorem read_u8 (w : World) (g : Nat) (r : RdD) (h : RdIs w g r) :
    Calls Tryz.prog 87 #[.pointer (some ⟨g, 0, none⟩)] w fun e w' => e = .returned (.int .u8 (numB (r.next 1).1)) ∧ RdIs w' g (r.next 1).2 ∧ Moved w w' g none := by
  have HN := Lib.hid (next_any w g r 1 h (by decide))
  have hsz := next_size r 1
  rw [show ((1 : Nat) : Int) = 1 from rfl] at hsz
  obtain ⟨s, hs⟩ : ∃ s, (r.next 1).1 = s := ⟨_, rfl⟩
  obtain ⟨r2, hr2⟩ : ∃ r2, (r.next 1).2 = r2 := ⟨_, rfl⟩
  rw [hs] at hsz HN ⊢
  rw [hr2] at HN ⊢
  have hss : s.size ≤ 1 := by omega
  have hall := Lib.hid (numL_all s)
  clear hs hr2 hsz h
  go_enter Tryz.func87, Tryz.ntmps87
  go_wp2_with (go_at_call 102; refine (width_u8 _).mono ?_; rintro e w' ⟨rfl, rfl⟩)
  refine HN.out.mono ?_
  rintro e w1 ⟨v, rfl, hb, hR, hM⟩
  obtain ⟨A, c, rfl, hc, hrd⟩ := id hb
  have HR := Lib.hid hR; have HM := Lib.hid hM
  clear hb hR hM HN
  go_wp2
  go_loopg [2, 9] s.size (fun gf a b wr => ∃ k : Nat, a = .int .u8 (numL (s.data.toList.take k) : Nat) ∧ b = .int .i64 k ∧ k + gf = s.size ∧ wr = w1)
  case atStart => exact ⟨0, rfl, rfl, by omega, rfl⟩
  case round =>
    obtain ⟨k, rfl, rfl, hk, rfl⟩ := hrel
    cases gk with
    | zero =>
      obtain rfl : k = s.size := by omega
      go_wp2
      go_ret
      exact ⟨by rw [hall.out]; rfl, HR.out, HM.out⟩
    | succ gf =>
      have hkN : k < s.size := by omega
      have hkI : (k : Int) < (s.size : Int) := by omega
      obtain ⟨blk, off, cs, fz, rfl, hh, hx⟩ := hrd (by omega)
      have cb := cell_of_row wr blk (off + k) cs 5 fz hh
      rw [hx k hkN] at cb
      have hsn := numL_take_succ s k hkN
      have hlt := numL_take_lt s k
      have hlt2 := numL_take_lt s (k + 1)
      rw [hsn] at hlt2
      obtain ⟨n, hn⟩ : ∃ n, numL (s.data.toList.take k) = n := ⟨_, rfl⟩
      obtain ⟨b, hb⟩ : ∃ b : UInt8, s.get! k = b := ⟨_, rfl⟩
      rw [hn] at hsn hlt hlt2 ⊢
      rw [hb] at cb hsn hlt2
      have hb8 := b.toNat_lt
      have hp : 256 ^ (k + 1) ≤ 256 ^ 1 := Nat.pow_le_pow_right (by decide) (by omega)
      have hn2 : n * 256 + b.toNat < 256 ^ 1 := by omega
      have hor : bits .or .u8 ((n : Int) * 256) (b.toNat : Int) = ((n * 256 + b.toNat : Nat) : Int) := by
        have h0 := u8_or_nat (n * 256) b.toNat (by omega) (by omega)
        rw [nat_join 8 (n * 256) b.toNat (by omega) (by omega)] at h0
        rw [← h0]; congr 1
      obtain ⟨m, hm⟩ : ∃ m, n * 256 + b.toNat = m := ⟨_, rfl⟩
      rw [hm] at hor hsn
      have hn3 : n * 256 < 256 ^ 1 := by omega
      have hnI : (n : Int) * 256 < 256 := by omega
      clear hlt hlt2 hp hx hh hb hn hm
      have HSN := Lib.hid hsn
      clear hsn
      go_wp2
      go_roundg gf
      case measure => omega
      case rel => exact ⟨k + 1, by rw [HSN.out], by go_num, by omega, rfl⟩
set_option maxRecDepth 100000 in
set_option maxHeartbeats 4000000 in
theorem read_u32 (w : World) (g : Nat) (r : RdD) (h : RdIs w g r) :
    Calls Tryz.prog 89 #[.pointer (some ⟨g, 0, none⟩)] w fun e w' => e = .returned (.int .u32 (numB (r.next 4).1)) ∧ RdIs w' g (r.next 4).2 ∧ Moved w w' g none := by
  have HN := Lib.hid (next_any w g r 4 h (by decide))
  have hsz := next_size r 4
  rw [show ((4 : Nat) : Int) = 4 from rfl] at hsz
  obtain ⟨s, hs⟩ : ∃ s, (r.next 4).1 = s := ⟨_, rfl⟩
  obtain ⟨r2, hr2⟩ : ∃ r2, (r.next 4).2 = r2 := ⟨_, rfl⟩
  rw [hs] at hsz HN ⊢
  rw [hr2] at HN ⊢
  have hss : s.size ≤ 4 := by omega
  have hall := Lib.hid (numL_all s)
  clear hs hr2 hsz h
  go_enter Tryz.func89, Tryz.ntmps89
  go_wp2_with (go_at_call 104; refine (width_u32 _).mono ?_; rintro e w' ⟨rfl, rfl⟩)
  refine HN.out.mono ?_
  rintro e w1 ⟨v, rfl, hb, hR, hM⟩
  obtain ⟨A, c, rfl, hc, hrd⟩ := id hb
  have HR := Lib.hid hR; have HM := Lib.hid hM
  clear hb hR hM HN
  go_wp2
  go_loopg [2, 9] s.size (fun gf a b wr => ∃ k : Nat, a = .int .u32 (numL (s.data.toList.take k) : Nat) ∧ b = .int .i64 k ∧ k + gf = s.size ∧ wr = w1)
  case atStart => exact ⟨0, rfl, rfl, by omega, rfl⟩
  case round =>
    obtain ⟨k, rfl, rfl, hk, rfl⟩ := hrel
    cases gk with
    | zero =>
      obtain rfl : k = s.size := by omega
      go_wp2
      go_ret
      exact ⟨by rw [hall.out]; rfl, HR.out, HM.out⟩
    | succ gf =>
      have hkN : k < s.size := by omega
      have hkI : (k : Int) < (s.size : Int) := by omega
      obtain ⟨blk, off, cs, fz, rfl, hh, hx⟩ := hrd (by omega)
      have cb := cell_of_row wr blk (off + k) cs 5 fz hh
      rw [hx k hkN] at cb
      have hsn := numL_take_succ s k hkN
      have hlt := numL_take_lt s k
      have hlt2 := numL_take_lt s (k + 1)
      rw [hsn] at hlt2
      obtain ⟨n, hn⟩ : ∃ n, numL (s.data.toList.take k) = n := ⟨_, rfl⟩
      obtain ⟨b, hb⟩ : ∃ b : UInt8, s.get! k = b := ⟨_, rfl⟩
      rw [hn] at hsn hlt hlt2 ⊢
      rw [hb] at cb hsn hlt2
      have hb8 := b.toNat_lt
      have hp : 256 ^ (k + 1) ≤ 256 ^ 4 := Nat.pow_le_pow_right (by decide) (by omega)
      have hn2 : n * 256 + b.toNat < 256 ^ 4 := by omega
      have hor : bits .or .u32 ((n : Int) * 256) (b.toNat : Int) = ((n * 256 + b.toNat : Nat) : Int) := by
        have h0 := u32_or_nat (n * 256) b.toNat (by omega) (by omega)
        rw [nat_join 8 (n * 256) b.toNat (by omega) (by omega)] at h0
        rw [← h0]; congr 1
      obtain ⟨m, hm⟩ : ∃ m, n * 256 + b.toNat = m := ⟨_, rfl⟩
      rw [hm] at hor hsn
      have hn3 : n * 256 < 256 ^ 4 := by omega
      have hnI : (n : Int) * 256 < 4294967296 := by omega
      clear hlt hlt2 hp hx hh hb hn hm
      have HSN := Lib.hid hsn
      clear hsn
      go_wp2
      go_roundg gf
      case measure => omega
      case rel => exact ⟨k + 1, by rw [HSN.out], by go_num, by omega, rfl⟩
set_option maxRecDepth 100000 in
set_option maxHeartbeats 4000000 in
theorem read_u64 (w : World) (g : Nat) (r : RdD) (h : RdIs w g r) :
    Calls Tryz.prog 88 #[.pointer (some ⟨g, 0, none⟩)] w fun e w' => e = .returned (.int .u64 (numB (r.next 8).1)) ∧ RdIs w' g (r.next 8).2 ∧ Moved w w' g none := by
  have HN := Lib.hid (next_any w g r 8 h (by decide))
  have hsz := next_size r 8
  rw [show ((8 : Nat) : Int) = 8 from rfl] at hsz
  obtain ⟨s, hs⟩ : ∃ s, (r.next 8).1 = s := ⟨_, rfl⟩
  obtain ⟨r2, hr2⟩ : ∃ r2, (r.next 8).2 = r2 := ⟨_, rfl⟩
  rw [hs] at hsz HN ⊢
  rw [hr2] at HN ⊢
  have hss : s.size ≤ 8 := by omega
  have hall := Lib.hid (numL_all s)
  clear hs hr2 hsz h
  go_enter Tryz.func88, Tryz.ntmps88
  go_wp2_with (go_at_call 103; refine (width_u64 _).mono ?_; rintro e w' ⟨rfl, rfl⟩)
  refine HN.out.mono ?_
  rintro e w1 ⟨v, rfl, hb, hR, hM⟩
  obtain ⟨A, c, rfl, hc, hrd⟩ := id hb
  have HR := Lib.hid hR; have HM := Lib.hid hM
  clear hb hR hM HN
  go_wp2
  go_loopg [2, 9] s.size (fun gf a b wr => ∃ k : Nat, a = .int .u64 (numL (s.data.toList.take k) : Nat) ∧ b = .int .i64 k ∧ k + gf = s.size ∧ wr = w1)
  case atStart => exact ⟨0, rfl, rfl, by omega, rfl⟩
  case round =>
    obtain ⟨k, rfl, rfl, hk, rfl⟩ := hrel
    cases gk with
    | zero =>
      obtain rfl : k = s.size := by omega
      go_wp2
      go_ret
      exact ⟨by rw [hall.out]; rfl, HR.out, HM.out⟩
    | succ gf =>
      have hkN : k < s.size := by omega
      have hkI : (k : Int) < (s.size : Int) := by omega
      obtain ⟨blk, off, cs, fz, rfl, hh, hx⟩ := hrd (by omega)
      have cb := cell_of_row wr blk (off + k) cs 5 fz hh
      rw [hx k hkN] at cb
      have hsn := numL_take_succ s k hkN
      have hlt := numL_take_lt s k
      have hlt2 := numL_take_lt s (k + 1)
      rw [hsn] at hlt2
      obtain ⟨n, hn⟩ : ∃ n, numL (s.data.toList.take k) = n := ⟨_, rfl⟩
      obtain ⟨b, hb⟩ : ∃ b : UInt8, s.get! k = b := ⟨_, rfl⟩
      rw [hn] at hsn hlt hlt2 ⊢
      rw [hb] at cb hsn hlt2
      have hb8 := b.toNat_lt
      have hp : 256 ^ (k + 1) ≤ 256 ^ 8 := Nat.pow_le_pow_right (by decide) (by omega)
      have hn2 : n * 256 + b.toNat < 256 ^ 8 := by omega
      have hor : bits .or .u64 ((n : Int) * 256) (b.toNat : Int) = ((n * 256 + b.toNat : Nat) : Int) := by
        have h0 := u64_or_nat (n * 256) b.toNat (by omega) (by omega)
        rw [nat_join 8 (n * 256) b.toNat (by omega) (by omega)] at h0
        rw [← h0]; congr 1
      obtain ⟨m, hm⟩ : ∃ m, n * 256 + b.toNat = m := ⟨_, rfl⟩
      rw [hm] at hor hsn
      have hn3 : n * 256 < 256 ^ 8 := by omega
      have hnI : (n : Int) * 256 < 18446744073709551616 := by omega
      clear hlt hlt2 hp hx hh hb hn hm
      have HSN := Lib.hid hsn
      clear hsn
      go_wp2
      go_roundg gf
      case measure => omega
      case rel => exact ⟨k + 1, by rw [HSN.out], by go_num, by omega, rfl⟩
set_option maxRecDepth 100000 in
set_option maxHeartbeats 1000000 in
theorem rByte_any (w : World) (g : Nat) (r : RdD) (h : RdIs w g r) :
    Calls Tryz.prog 65 #[.pointer (some ⟨g, 0, none⟩)] w fun e w' => e = .returned (.int .u8 (numB (r.next 1).1)) ∧ RdIs w' g (r.next 1).2 ∧ Moved w w' g none := by
  have HC := Lib.hid (read_u8 w g r h)
  clear h
  go_enter Tryz.func65, Tryz.ntmps65
  go_wp2_with fail
  refine HC.out.mono ?_
  rintro e w1 ⟨rfl, hR, hM⟩
  have HR := Lib.hid hR; have HM := Lib.hid hM
  clear hR hM HC
  go_wp2
  go_ret
  exact ⟨rfl, HR.out, HM.out⟩
set_option maxRecDepth 100000 in
set_option maxHeartbeats 1000000 in
theorem rWord_any (w : World) (g : Nat) (r : RdD) (h : RdIs w g r) :
    Calls Tryz.prog 67 #[.pointer (some ⟨g, 0, none⟩)] w fun e w' => e = .returned (.int .u32 (numB (r.next 4).1)) ∧ RdIs w' g (r.next 4).2 ∧ Moved w w' g none := by
  have HC := Lib.hid (read_u32 w g r h)
  clear h
  go_enter Tryz.func67, Tryz.ntmps67
  go_wp2_with fail
  refine HC.out.mono ?_
  rintro e w1 ⟨rfl, hR, hM⟩
  have HR := Lib.hid hR; have HM := Lib.hid hM
  clear hR hM HC
  go_wp2
  go_ret
  exact ⟨rfl, HR.out, HM.out⟩
set_option maxRecDepth 100000 in
set_option maxHeartbeats 1000000 in
theorem rLong_any (w : World) (g : Nat) (r : RdD) (h : RdIs w g r) :
    Calls Tryz.prog 66 #[.pointer (some ⟨g, 0, none⟩)] w fun e w' => e = .returned (.int .u64 (numB (r.next 8).1)) ∧ RdIs w' g (r.next 8).2 ∧ Moved w w' g none := by
  have HC := Lib.hid (read_u64 w g r h)
  clear h
  go_enter Tryz.func66, Tryz.ntmps66
  go_wp2_with fail
  refine HC.out.mono ?_
  rintro e w1 ⟨rfl, hR, hM⟩
  have HR := Lib.hid hR; have HM := Lib.hid hM
  clear hR hM HC
  go_wp2
  go_ret
  exact ⟨rfl, HR.out, HM.out⟩
end Go.Proofs.YtlcgkcafelpglaaGreatDoor
