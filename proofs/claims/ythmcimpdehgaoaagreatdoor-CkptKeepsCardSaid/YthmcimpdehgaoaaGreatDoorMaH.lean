/- fields.Reader: its bytes, its place, whether it has fallen; Left, next. -/
import Derived.Test.YthmcimpdehgaoaaGreatDoorMaA
import Derived.Test.YthmcimpdehgaoaaGreatDoorDk4
import Derived.Test.YthmcimpdehgaoaaGreatDoorPk8
import Derived.Test.YthmcimpdehgaoaaGreatDoorRec2
namespace Go.Proofs.YthmcimpdehgaoaaGreatDoor
open Go.RowKit

/-- a reader: its bytes, its place, whether it has fallen -/
structure RdD where
  b : ByteArray
  at_ : Nat
  bad : Bool
def RdIs (w : World) (g : Nat) (r : RdD) : Prop := r.at_ ≤ r.b.size ∧ r.b.size ≤ 1000000000 ∧ ∃ v, Blk w g 134 #[v, .int .i64 r.at_, .bool r.bad] ∧ Bt w v r.b
def RdD.falls (r : RdD) (n : Int) : Bool := r.bad || decide (n < 0) || decide ((r.b.size : Int) - (r.at_ : Int) < n)
def RdD.next (r : RdD) (n : Int) : ByteArray × RdD := if r.falls n = true then (ByteArray.empty, ⟨r.b, r.b.size, true⟩) else (r.b.extract r.at_ (r.at_ + n.toNat), ⟨r.b, r.at_ + n.toNat, r.bad⟩)
theorem RdIs.keep {w w' : World} {g : Nat} {r : RdD} (h : RdIs w g r) (hg : w'.heap[g]? = w.heap[g]?) (hu : ∀ (k : Nat) cs fz, w.heap[k]? = some (.cells cs 5 fz) → w'.heap[k]? = w.heap[k]?) : RdIs w' g r := by
  obtain ⟨h1, h2, v, hk, hb⟩ := h
  exact ⟨h1, h2, v, hg.trans hk, hb.keep hu⟩
theorem RdIs.lt {w : World} {g : Nat} {r : RdD} (h : RdIs w g r) : g < w.heap.size := by obtain ⟨_, _, v, hk, _⟩ := h; exact hk.lt
theorem RdIs.below {w w' : World} {g : Nat} {r : RdD} (h : RdIs w g r) (hb : Below w.heap.size w w') : RdIs w' g r :=
  h.keep (hb.block g h.lt) fun k _ _ hk => hb.block k (Array.getElem?_eq_some_iff.1 hk).1
theorem RdIs.drewN {w : World} {g : Nat} {r : RdD} (h : RdIs w g r) (n : Nat) : RdIs (w.drewN n) g r := h
theorem moved_drewN {w w' : World} {p : Nat} {g : Option Nat} (h : Moved w w' p g) (n : Nat) : Moved w (w'.drewN n) p g := ⟨h.os, h.tape, h.output, h.size, h.block⟩
theorem ext_empty (b : ByteArray) (i : Nat) : b.extract i i = ByteArray.empty := by
  apply ByteArray.ext
  simp
theorem ext_get (b : ByteArray) (i j k : Nat) (hj : j ≤ b.size) (hk : k < j - i) : (b.extract i j).get! k = b.get! (i + k) := by
  have h1 : k < (b.extract i j).data.size := by simp; have : b.data.size = b.size := rfl; omega
  have h2 : i + k < b.data.size := by have : b.data.size = b.size := rfl; omega
  simp only [ByteArray.get!, getElem!_pos, h1, h2]
  simp [ByteArray.data_extract]
theorem run_fromto {P : Program} {t e : TypeId} {ti : TypeInfo} (ht : P.underlying t = some (.slice e)) (hi : P.info? e = some ti) (h1 : ti.size = 1) (A : Option Addr) (n c i j : Nat) (hij : i ≤ j) (hj : j ≤ c) (w : World) :
    (Instr.sliceAt t (.slice A n c) (some (.int .i64 (i : Int))) (some (.int .i64 (j : Int))) none).run P w = .ok (.slice (if c = i then A else A.map (·.add i)) (j - i) (c - i)) w := by
  have he : P.elem t = e := by unfold Program.elem; rw [ht]
  rw [run_sliceAt_slice w _ _ _ _ _ (by rw [he]; exact ht), run_slice_lh w t A n c (by rw [he]; exact ht) .i64 .i64 i j (by omega) (by omega) (by omega)]
  simp [he, sizeOf, typeInfo, hi, sliced, h1, Result.andThen]
/-- a piece of bytes -/
theorem Bt.piece {w : World} {A : Option Addr} {c : Nat} {s : ByteArray} (h : Bt w (.slice A s.size c) s) (i j : Nat) (hij : i ≤ j) (hj : j ≤ s.size) :
    ∃ v, (∀ W : World, (Instr.sliceAt 33 (.slice A s.size c) (some (.int .i64 (i : Int))) (some (.int .i64 (j : Int))) none).run Tryz.prog W = .ok v W) ∧ Bt w v (s.extract i j) := by
  obtain ⟨A2, c2, he, hc, hr⟩ := h
  simp only [Value.slice.injEq] at he
  obtain ⟨rfl, -, rfl⟩ := he
  obtain ⟨i0, hi0, hz0, hz1, hz2⟩ := parts infoU
  have hsz : (s.extract i j).size = j - i := by rw [ByteArray.size_extract]; omega
  have hrun : ∀ W : World, (Instr.sliceAt 33 (.slice A s.size c) (some (.int .i64 (i : Int))) (some (.int .i64 (j : Int))) none).run Tryz.prog W = .ok (.slice (if c = i then A else A.map (·.add i)) (j - i) (c - i)) W := run_fromto Tryz.underlying33 hi0 hz1 A s.size c i j hij (by omega)
  refine ⟨_, hrun, ?_⟩
  refine ⟨if c = i then A else A.map (·.add i), c - i, by rw [hsz], by rw [hsz]; omega, fun h0 => ?_⟩
  rw [hsz] at h0
  rw [if_neg (by omega)]
  obtain ⟨blk, off, cs, fz, rfl, hh, hx⟩ := hr (by omega)
  refine ⟨blk, off + i, cs, fz, ?_, hh, fun k hk => ?_⟩
  · exact congrArg some (addr_add blk off i)
  · rw [hsz] at hk
    rw [ext_get s i j k hj (by omega), Nat.add_assoc]
    exact hx (i + k) (by omega)
set_option maxHeartbeats 1000000 in
theorem left_any (w : World) (g : Nat) (r : RdD) (h : RdIs w g r) : Calls Tryz.prog 54 #[.pointer (some ⟨g, 0, none⟩)] w fun e w' => e = .returned (.int .i64 ((r.b.size : Int) - (r.at_ : Int))) ∧ ∃ n, w' = w.drewN n := by
  obtain ⟨h1, h2, v, hk, hb⟩ := h
  obtain ⟨A, c, rfl, -, -⟩ := hb
  have c0 := hk.cell 0; have c1 := hk.cell 1
  simp only [List.getElem?_toArray, List.getElem?_cons_zero, List.getElem?_cons_succ] at c0 c1
  clear hk
  go_enter Tryz.func54, Tryz.ntmps54
  go_wp2
  go_quiet (fail)
  go_wp2
  go_ret
  exact ⟨rfl, _, rfl⟩
set_option maxRecDepth 100000 in
set_option maxHeartbeats 4000000 in
theorem next_any (w : World) (g : Nat) (r : RdD) (n : Int) (h : RdIs w g r) (hn : n ≤ 4611686018427387904) :
    Calls Tryz.prog 95 #[.pointer (some ⟨g, 0, none⟩), .int .i64 n] w fun e w' => ∃ v, e = .returned v ∧ Bt w' v (r.next n).1 ∧ RdIs w' g (r.next n).2 ∧ Moved w w' g none := by
  have HL := Lib.hid (left_any w g r h)
  obtain ⟨h1, h2, v, hk, hb⟩ := id h
  obtain ⟨A, c, rfl, hc, hr⟩ := id hb
  have c0 := hk.cell 0; have c1 := hk.cell 1; have c2 := hk.cell 2; have f1 := hk.frozen 1; have f2 := hk.frozen 2
  simp only [List.getElem?_toArray, List.getElem?_cons_zero, List.getElem?_cons_succ] at c0 c1 c2
  have h1I : (r.at_ : Int) ≤ (r.b.size : Int) := by omega
  have h2I : (r.b.size : Int) ≤ 1000000000 := by omega
  have hfall : ∀ X : World, X.heap = w.heap → X.os = w.os → X.tape = w.tape → X.output = w.output → RdIs ((X.setCell ⟨g, 2, none⟩ (.bool true)).setCell ⟨g, 1, none⟩ (.int .i64 (r.b.size : Int))) g ⟨r.b, r.b.size, true⟩ ∧ Moved w ((X.setCell ⟨g, 2, none⟩ (.bool true)).setCell ⟨g, 1, none⟩ (.int .i64 (r.b.size : Int))) g none := fun X e1 e2 e3 e4 => by
    have hkX : Blk X g 134 #[.slice A r.b.size c, .int .i64 r.at_, .bool r.bad] := by unfold Blk; rw [e1]; exact hk
    have hm0 : Moved w X g none := ⟨e2, e3, e4, by rw [e1]; exact Nat.le_refl _, fun k _ _ _ => by rw [e1]⟩
    have hm := (hm0.trans (Moved.set_ X g 2 none (.bool true)) (.inl rfl)).trans (Moved.set_ _ g 1 none (.int .i64 (r.b.size : Int))) (.inl rfl)
    refine ⟨⟨Nat.le_refl _, h2, _, (hkX.set_ 2 (.bool true)).set_ 1 (.int .i64 (r.b.size : Int)), ?_⟩, hm⟩
    exact hb.keep fun blk cs fz hh => hm.block blk (Array.getElem?_eq_some_iff.1 hh).1 (fun e => by subst e; exact blk_type hk hh (by decide)) (by simp)
  have HF := Lib.hid hfall
  by_cases hf : r.falls n = true
  · rw [RdD.next, if_pos hf]
    clear hfall hr hb h
    cases hbad : r.bad with
    | true =>
      rw [hbad] at c2
      clear hf hbad
      go_enter Tryz.func95, Tryz.ntmps95
      go_wp2
      go_ret
      exact ⟨_, rfl, bt_nil _, (HF.out w rfl rfl rfl rfl).1, (HF.out w rfl rfl rfl rfl).2⟩
    | false =>
      rw [hbad] at c2
      by_cases hn0 : n < 0
      · clear hf hbad
        go_enter Tryz.func95, Tryz.ntmps95
        go_wp2
        go_ret
        exact ⟨_, rfl, bt_nil _, (HF.out w rfl rfl rfl rfl).1, (HF.out w rfl rfl rfl rfl).2⟩
      · have hgt : (r.b.size : Int) - (r.at_ : Int) < n := by
          unfold RdD.falls at hf
          simp [hbad] at hf
          omega
        have hn1 : 0 ≤ n := by omega
        clear hf hbad hn0
        go_enter Tryz.func95, Tryz.ntmps95
        go_wp2_with fail
        refine HL.out.mono ?_
        rintro e w1 ⟨rfl, q, rfl⟩
        go_wp2
        go_ret
        exact ⟨_, rfl, bt_nil _, (HF.out (w.drewN q) rfl rfl rfl rfl).1, (HF.out (w.drewN q) rfl rfl rfl rfl).2⟩
  · have hbad : r.bad = false := by
      cases hx : r.bad with
      | false => rfl
      | true => exact absurd (by unfold RdD.falls; rw [hx]; rfl) hf
    have hle : 0 ≤ n ∧ n ≤ (r.b.size : Int) - (r.at_ : Int) := by
      unfold RdD.falls at hf
      simp [hbad] at hf
      omega
    rw [RdD.next, if_neg hf]
    obtain ⟨m, rfl⟩ : ∃ m : Nat, n = m := ⟨n.toNat, by omega⟩
    rw [hbad] at c2
    have hmI := hle.2
    have hmN : r.at_ + m ≤ r.b.size := by omega
    obtain ⟨v, hrun, hbv⟩ := hb.piece r.at_ (r.at_ + m) (by omega) hmN
    have hgo : ∀ q, Bt (((w.drewN q).setCell ⟨g, 1, none⟩ (.int .i64 ((r.at_ : Int) + (m : Int)))).drew) v (r.b.extract r.at_ (r.at_ + m)) ∧ RdIs (((w.drewN q).setCell ⟨g, 1, none⟩ (.int .i64 ((r.at_ : Int) + (m : Int)))).drew) g ⟨r.b, r.at_ + m, r.bad⟩ ∧ Moved w (((w.drewN q).setCell ⟨g, 1, none⟩ (.int .i64 ((r.at_ : Int) + (m : Int)))).drew) g none := fun q => by
      have hm : Moved w ((w.drewN q).setCell ⟨g, 1, none⟩ (.int .i64 ((r.at_ : Int) + (m : Int)))) g none := Moved.trans (⟨rfl, rfl, rfl, Nat.le_refl _, fun _ _ _ _ => rfl⟩ : Moved w (w.drewN q) g none) (Moved.set_ (w.drewN q) g 1 none _) (.inl rfl)
      have hu : ∀ (blk : Nat) cs fz, w.heap[blk]? = some (Obj.cells cs 5 fz) → ((w.drewN q).setCell ⟨g, 1, none⟩ (.int .i64 ((r.at_ : Int) + (m : Int)))).drew.heap[blk]? = w.heap[blk]? := fun blk cs fz hh => hm.block blk (Array.getElem?_eq_some_iff.1 hh).1 (fun e => by subst e; exact blk_type hk hh (by decide)) (by simp)
      refine ⟨hbv.keep hu, ⟨hmN, h2, _, ?_, hb.keep hu⟩, ⟨hm.os, hm.tape, hm.output, hm.size, hm.block⟩⟩
      have := (hk.drewN q).set_ 1 (.int .i64 ((r.at_ : Int) + (m : Int)))
      rw [Int.natCast_add]
      exact this
    have HG := Lib.hid hgo
    have hm0 : (0 : Int) ≤ (m : Int) := by omega
    have hrunI : ∀ W : World, (Instr.sliceAt 33 (.slice A r.b.size c) (some (.int .i64 (r.at_ : Int))) (some (.int .i64 ((r.at_ : Int) + (m : Int)))) none).run Tryz.prog W = .ok v W := fun W => by
      have := hrun W
      rwa [Int.natCast_add] at this
    clear hf hbad hfall hr hb h hk hgo hrun hbv hle HF
    go_enter Tryz.func95, Tryz.ntmps95
    go_wp2_with fail
    refine HL.out.mono ?_
    rintro e w1 ⟨rfl, q, rfl⟩
    go_wp2
    go_region
    go_wp2
    go_ret
    exact ⟨_, rfl, HG.out q⟩
end Go.Proofs.YthmcimpdehgaoaaGreatDoor
