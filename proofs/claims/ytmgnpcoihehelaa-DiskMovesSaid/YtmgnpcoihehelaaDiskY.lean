/- Disks side by side: what a call of one leaves of the others; Names. -/
import Derived.Test.YtmgnpcoihehelaaDiskX
namespace Go.Proofs.Ytmgnpcoihehelaa
open Go.RowKit

/-- two disks that share nothing -/
def Apart (p : Nat) (v : Value) (p' : Nat) (v' : Value) : Prop := p' ≠ p ∧ (∀ k, v.ownBlock = some k → k ≠ p' ∧ v'.ownBlock ≠ some k) ∧ v'.ownBlock ≠ some p
/-- what a call that changes a disk leaves -/
structure Out (B : Nat) (w w' : World) (p : Nat) (v : Value) (D' : DiskD) (v1 : Value) : Prop where
  is : DiskIs w' B p v1 D'
  below : Below B w w'
  bt : ∀ x s, Bt w x s → Bt w' x s
  blk : ∀ (g : Nat) cs t fz, t ≠ 56 → t ≠ 61 → w.heap[g]? = some (.cells cs t fz) → w'.heap[g]? = w.heap[g]?
  other : ∀ B' p' v' D2, DiskIs w B' p' v' D2 → Apart p v p' v' → DiskIs w' B' p' v' D2 ∧ Apart p v1 p' v'
theorem Leaves.out {w w' : World} {B p : Nat} {v : Value} {D D' : DiskD} (h : DiskIs w B p v D) (hB : B ≤ w.heap.size) (hL : Leaves w w' B p v D') : ∃ v1, Out B w w' p v D' v1 := by
  obtain ⟨v1, hd, hm, ho⟩ := hL
  obtain ⟨rows, hr, hR⟩ := h.row
  have hty := own_type hR.1 (t := 5) (by decide)
  refine ⟨v1, hd, hm.below h.1 (fun n hn => (h.own n hn).1) hB, fun x s hb => hb.moved hm h.noU hty, fun g cs t fz h1 h2 hh => hm.block g (Array.getElem?_eq_some_iff.1 hh).1 (fun e => by subst e; exact blk_type h.blk hh (fun e => h1 e.symm)) (fun e => own_type hR.1 (fun e => h2 e.symm) g e.symm cs fz hh), fun B' p' v' D2 h2 ha => ⟨h2.keep hm ha.1 (fun e => (ha.2.1 p' e.symm).1 rfl) (fun k hk => ⟨fun e => ha.2.2 (by rw [hk, e]), fun e => (ha.2.1 k e.symm).2 hk⟩) h.noU hty, ha.1, fun k hk => ?_, ha.2.2⟩⟩
  rcases ho k hk with h1 | h1
  · exact ha.2.1 k h1
  · refine ⟨fun e => ?_, fun e => ?_⟩
    · have := h2.blk.lt; omega
    · have := (h2.own k e).2.1; omega
theorem DiskIs.mono {w : World} {b b' p : Nat} {v : Value} {D : DiskD} (h : DiskIs w b p v D) (hb : b' ≤ b) : DiskIs w b' p v D := by
  obtain ⟨h1, h2, rows, h3, h4, h5⟩ := h
  exact ⟨Nat.le_trans hb h1, h2, rows, h3, own_mono h4 hb, h5⟩
/-- a disk made new shares nothing with one that was there -/
theorem apart_new {w w' : World} {B p p' : Nat} {v v' : Value} {D D2 : DiskD} (h : DiskIs w B p v D) (h2 : DiskIs w' w.heap.size p' v' D2) : Apart p v p' v' :=
  ⟨fun e => by have := h.blk.lt; have := h2.1; omega, fun k hk => ⟨fun e => by have := (h.own k hk).2.1; have := h2.1; omega, fun e => by have := (h.own k hk).2.1; have := (h2.own k e).1; omega⟩, fun e => by have := h.blk.lt; have := (h2.own p e).1; omega⟩
theorem Apart.symm {p p' : Nat} {v v' : Value} (h : Apart p v p' v') : Apart p' v' p v :=
  ⟨fun e => h.1 e.symm, fun k hk => ⟨fun e => h.2.2 (by rw [hk, e]), fun e => (h.2.1 k e).2 hk⟩, fun e => (h.2.1 p' e).1 rfl⟩
theorem infoS : (Try.prog.info? 9).map (fun i => (i.zero, i.size, i.bytes)) = some (some (.string ⟨#[]⟩), 1, 16) := by kernel_rfl
set_option maxRecDepth 100000 in
set_option maxHeartbeats 4000000 in
theorem names_any (w : World) (base p : Nat) (v : Value) (D : DiskD) (h : DiskIs w base p v D) (hl : D.files.length ≤ 100000000) :
    Calls Try.prog 23 #[.pointer (some ⟨p, 0, none⟩)] w fun e w' => ∃ A c, e = .returned (.slice A D.files.length c) ∧ Rd w' 1 A D.files.length (D.files.map fun f => .string f.name) ∧ Below w.heap.size w w' := by
  have c0 := h.blk.cell 0
  simp only [List.getElem?_toArray, List.getElem?_cons_zero] at c0
  obtain ⟨rows, hr, hR⟩ := h.row
  have hlen : rows.length = D.files.length := by rw [← hr, List.length_map]
  obtain ⟨Ar, cr, rfl⟩ := own_shape hR.1
  obtain ⟨i0, hi0, hz0, hz1, hz2⟩ := parts infoS
  have hmk := run_make_rowN (P := Try.prog) 47 9 i0 (.string ⟨#[]⟩) Try.underlying47 hi0 hz0 .i64 .i64 0 rows.length (Nat.zero_le _) (by rw [hz2]; omega) (by omega) w
  have hmk0 : (madeCells (Value.string ⟨#[]⟩).cells (rows.length * i0.size)).size = rows.length := by rw [hz1]; simp [madeCells]
  obtain ⟨zs, hzs⟩ : ∃ zs, madeCells (Value.string ⟨#[]⟩).cells (rows.length * i0.size) = zs := ⟨_, rfl⟩
  rw [hzs] at hmk hmk0
  have ho0 : (w.alloc (.cells zs 9)).ownsRow w.heap.size 9 1 (.slice (some ⟨w.heap.size, 0, none⟩) 0 rows.length) 0 [] := ⟨by simp, .inr ⟨w.heap.size, rows.length, zs, rfl, Nat.le_refl _, heap_alloc_new w _, Nat.zero_le _, by unfold maxLen; omega, by rw [hmk0, Nat.mul_one], by simp⟩⟩
  have hB0 := (Below.refl w.heap.size w).alloc (Nat.le_refl _) (.cells zs 9)
  have hrl : rows.length ≤ 100000000 := by omega
  have hpl := h.blk.lt
  have HR := Lib.hid hR; have HRR := Lib.hid hr; have HLEN := Lib.hid hlen; have HO0 := Lib.hid ho0; have HB0 := Lib.hid hB0; have HI0 := Lib.hid hi0; have HZ0 := Lib.hid hz0
  clear hR hr hlen hzs hmk0 ho0 hB0 h hi0 hz0
  simp only [Int.cast_ofNat_Int] at hmk
  go_enter Try.func23, Try.ntmps23
  go_wp2
  go_loopg [3, 19] rows.length (fun gf vs vi wr => ∃ i : Nat, vi = .int .i64 i ∧ i + gf = rows.length ∧ wr.ownsRow w.heap.size 9 1 vs i ((D.files.take i).map fun f => .string f.name) ∧ Below w.heap.size w wr)
  case atStart => exact ⟨0, rfl, by omega, HO0.out, HB0.out⟩
  case round =>
    obtain ⟨i, rfl, hi, hown, hB⟩ := hrel
    cases gk with
    | zero =>
      obtain rfl : i = rows.length := by omega
      have hfull : D.files.take rows.length = D.files := List.take_of_length_le (by rw [HLEN.out]; exact Nat.le_refl _)
      rw [hfull] at hown
      obtain ⟨A, c, rfl⟩ := own_shape hown
      have HO := Lib.hid hown; have HB := Lib.hid hB
      clear hown hB hfull
      go_wp2
      go_ret
      refine ⟨A, c, by rw [← HLEN.out]; rfl, ?_, HB.out⟩
      have := Rd.of_own HO.out
      rw [HLEN.out] at this
      exact this
    | succ gf =>
      obtain ⟨g, cap, x, A', c', hv, hx, hx2, hg, c1, c2, c3⟩ := HR.out.at_ (i := i) (by omega) hB
      simp only [Value.slice.injEq] at hv
      obtain ⟨rfl, -, rfl⟩ := hv
      have hfx : D.files[i]? = some x.1 := by rw [← HRR.out, List.getElem?_map, hx]; rfl
      have htk : (D.files.take (i + 1)).map (fun f => Value.string f.name) = (D.files.take i).map (fun f => Value.string f.name) ++ [.string x.1.name] := by
        rw [List.take_add_one, hfx, List.map_append]; rfl
      have hsz := hB.size
      have hiI : (i : Int) < (rows.length : Int) := by omega
      have hir : i < rows.length := by omega
      have hO1 := World.ownsRow.alloc hown (.cells #[.string x.1.name, .slice A' x.1.b.size c', .int .i64 x.1.safe] 61)
      have hB1 := hB.alloc hB.size (.cells #[.string x.1.name, .slice A' x.1.b.size c', .int .i64 x.1.safe] 61)
      have HTK := Lib.hid htk; have HO1 := Lib.hid hO1; have HB1 := Lib.hid hB1
      clear htk hfx hx hx2 hown hB hO1 hB1
      obtain ⟨w1, hw1⟩ : ∃ w1, w1 = wr.alloc (.cells #[.string x.1.name, .slice A' x.1.b.size c', .int .i64 x.1.safe] 61) := ⟨_, rfl⟩
      have hsz1 : w1.heap.size = wr.heap.size + 1 := by rw [hw1]; simp
      rw [← hw1] at HO1 HB1
      have hbs1 : w.heap.size ≤ w1.heap.size := by omega
      have HW1 := Lib.hid hw1; have HSZ1 := Lib.hid hsz1
      clear hw1 hsz1
      go_wp2_with (at_builtin; refine wpList_app _ w1 rfl (.tmp 23) (.tmp 26) 47 rfl w.heap.size 9 i0 (.string ⟨#[]⟩) 1 16 Try.underlying47 HI0.out HZ0.out hz1 hz2 rfl (by decide) (by decide) _ i _ rfl HO1 [.string x.1.name] (congrArg (fun W => World.alloc W (.cells [.string x.1.name].toArray 9)) HW1.out.symm) rfl rfl (wr.heap.size + 1) HSZ1.out rfl (by omega) hbs1 ?_; intro v3 w3 h2 h3 h4; have HO3 := Lib.hid h2.out; have HB3 := Lib.hid h4.out; clear h2 h3 h4)
      go_roundg gf
      case measure => omega
      case rel => exact ⟨i + 1, by go_num, by omega, by rw [HTK.out]; exact HO3.out, HB1.out.trans HB3.out⟩
end Go.Proofs.Ytmgnpcoihehelaa
