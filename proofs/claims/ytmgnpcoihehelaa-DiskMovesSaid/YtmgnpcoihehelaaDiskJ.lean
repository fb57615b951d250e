/- The disk's steps: safely. -/
import Derived.Test.YtmgnpcoihehelaaDiskI
namespace Go.Proofs.Ytmgnpcoihehelaa
open Go.RowKit

theorem rcells_split (l : List (FileD × Value)) (i : Nat) (x : FileD × Value) (h : l[i]? = some x) : rcells l = rcells (l.take i) ++ (fcells x ++ rcells (l.drop (i + 1))) ∧ (rcells (l.take i)).length = i * 3 := by
  have hlt := (List.getElem?_eq_some_iff.1 h).1
  constructor
  · conv => lhs; rw [← List.take_append_drop (i + 1) l, List.take_add_one, h]
    simp [rcells]
  · rw [rcells_length, List.length_take]; congr 1; omega
theorem rcells_set (l : List (FileD × Value)) (i : Nat) (x y : FileD × Value) (h : l[i]? = some x) (hn : y.1.name = x.1.name) : ((rcells l).set (i * 3 + 1) y.2).set (i * 3 + 2) (.int .i64 y.1.safe) = rcells (l.set i y) := by
  have hlt := (List.getElem?_eq_some_iff.1 h).1
  obtain ⟨h1, h2⟩ := rcells_split l i x h
  obtain ⟨h3, h4⟩ := rcells_split (l.set i y) i y (by rw [List.getElem?_set_self hlt])
  rw [h1, h3, List.take_set_of_le (Nat.le_refl i), List.drop_set_of_lt (by omega)]
  rw [List.set_append_right _ _ (by omega), h2, List.set_append_right _ _ (by omega), h2, show i * 3 + 1 - i * 3 = 1 by omega, show i * 3 + 2 - i * 3 = 2 by omega]
  simp [fcells, hn]
theorem Bt.cut {w : World} {A : Option Addr} {c : Nat} {s : ByteArray} (h : Bt w (.slice A s.size c) s) (n : Nat) (hn : n ≤ s.size) : Bt w (.slice A n n) (s.extract 0 n) := by
  have hsz : (s.extract 0 n).size = n := by rw [ByteArray.size_extract]; omega
  obtain ⟨A', c', he, hc, hr⟩ := h
  simp only [Value.slice.injEq] at he
  obtain ⟨rfl, -, rfl⟩ := he
  refine ⟨A, n, by rw [hsz], by omega, fun hs => ?_⟩
  obtain ⟨blk, off, cs, fz, rfl, hh, hx⟩ := hr (by omega)
  refine ⟨blk, off, cs, fz, rfl, hh, fun j hj => ?_⟩
  rw [hsz] at hj
  rw [hx j (by omega)]
  have e1 := ucells_at s j (by omega)
  have e2 := ucells_at (s.extract 0 n) j (by omega)
  have e3 : (ucells (s.extract 0 n))[j]? = (ucells s)[j]? := by
    unfold ucells
    rw [Lib.extract_data, List.getElem?_map, List.getElem?_map, List.drop_zero, List.getElem?_take, if_pos (by omega)]
  rw [e3, e1] at e2
  exact e2
/-- one file's bytes and what is safe of them are written -/
theorem RowD.write {w : World} {base g cap : Nat} {rows : List (FileD × Value)} (h : RowD w base (.slice (some ⟨g, 0, none⟩) rows.length cap) rows) {i : Nat} {x y : FileD × Value} (hx : rows[i]? = some x) (hn : y.1.name = x.1.name) (hy : Bt w y.2 y.1.b) :
    RowD ((w.setCell ⟨g, i * 3 + 1, none⟩ y.2).setCell ⟨g, i * 3 + 2, none⟩ (.int .i64 y.1.safe)) base (.slice (some ⟨g, 0, none⟩) rows.length cap) (rows.set i y) ∧ Moved w ((w.setCell ⟨g, i * 3 + 1, none⟩ y.2).setCell ⟨g, i * 3 + 2, none⟩ (.int .i64 y.1.safe)) g none := by
  have hm : Moved w ((w.setCell ⟨g, i * 3 + 1, none⟩ y.2).setCell ⟨g, i * 3 + 2, none⟩ (.int .i64 y.1.safe)) g none := (Moved.set_ w g (i * 3 + 1) none y.2).trans (Moved.set_ _ g (i * 3 + 2) none _) (.inl rfl)
  rcases h.1.2 with ⟨hv, _⟩ | ⟨g', cap', cur, hv, hb1, hh, hcap, hmax, hcs, htk⟩
  · cases hv
  · simp only [Value.slice.injEq, Option.some.injEq, Addr.mk.injEq, and_true, true_and] at hv
    obtain ⟨rfl, rfl⟩ := hv
    have hblk : Blk w g 61 cur := hh
    have hk := (hblk.set_ (i * 3 + 1) y.2).set_ (i * 3 + 2) (.int .i64 y.1.safe)
    have hu : ∀ cs fz, w.heap[g]? ≠ some (Obj.cells cs 5 fz) := fun cs fz e => blk_type hblk e (by decide)
    refine ⟨⟨⟨by rw [rcells_length], .inr ⟨g, cap, _, by rw [List.length_set], hb1, hk, by rw [List.length_set]; exact hcap, hmax, by simpa using hcs, ?_⟩⟩, fun z hz => ?_⟩, hm⟩
    · rw [List.length_set, ← rcells_set rows i x y hx hn, ← htk]
      have hlt := (List.getElem?_eq_some_iff.1 hx).1
      simp only [Array.toList_setIfInBounds]
      rw [List.take_set, List.take_set]
    · rcases List.mem_or_eq_of_mem_set hz with hz | rfl
      · exact (h.2 z hz).moved hm hu (fun n hn => by cases hn)
      · exact hy.moved hm hu (fun n hn => by cases hn)
/-- the disk's row is as it stands, written: its place stays -/
theorem DiskIs.row_put {w w1 : World} {base p g : Nat} {v : Value} {D : DiskD} {rows' : List (FileD × Value)} (h : DiskIs w base p v D) (hg : v.ownBlock = some g) (hm : Moved w w1 g none) (hR : RowD w1 base v rows') :
    DiskIs w1 base p v { D with files := rows'.map (·.1) } ∧ Moved w w1 p v.ownBlock := by
  have hne := (h.own g hg).2.2
  refine ⟨⟨h.1, (hm.block p h.blk.lt (fun e => hne e.symm) (by simp)).trans h.blk, rows', rfl, hR⟩, hm.os, hm.tape, hm.output, hm.size, fun k hk _ hk2 => hm.block k hk (fun e => hk2 (by rw [hg, e])) (by simp)⟩
set_option maxRecDepth 100000 in
set_option maxHeartbeats 4000000 in
theorem safely_any (w : World) (base p : Nat) (v : Value) (D : DiskD) (i n : Nat) (to : ByteArray) (f : FileD) (h : DiskIs w base p v D) (hi : D.files[i]? = some f) (hn : n ≤ f.b.size) :
    Calls Try.prog 63 #[.pointer (some ⟨p, 0, none⟩), .int .i64 i, .int .i64 n, .string to] w fun e w' => e = .returned (.tuple #[]) ∧
      DiskIs w' base p v { D with files := D.files.set i ⟨f.name, f.b.extract 0 n, n⟩ } ∧ Moved w w' p v.ownBlock := by
  obtain ⟨rows, hr, hR⟩ := h.row
  have hrl : rows.length = D.files.length := by rw [← hr, List.length_map]
  have hilt := (List.getElem?_eq_some_iff.1 hi).1
  obtain ⟨g, cap, x, A, c, hv, hx, hx2, hg, c1, c2, c3⟩ := hR.at_ (i := i) (by omega) (Below.refl _ _)
  subst hv
  have hxf : x.1 = f := by
    have : D.files[i]? = some x.1 := by rw [← hr, List.getElem?_map, hx]; rfl
    rw [hi] at this; injection this with this; exact this.symm
  have c0 := h.blk.cell 0
  simp only [List.getElem?_toArray, List.getElem?_cons_zero] at c0
  have hbx := hR.2 x (List.mem_of_getElem? hx)
  rw [hx2, hxf] at hbx
  rw [hxf] at c1 c2 c3
  have hcut := hbx.cut n hn
  have hcc : f.b.size ≤ c := by obtain ⟨_, _, he, hc, _⟩ := hbx; simp only [Value.slice.injEq] at he; omega
  have hW := hR.write (y := (⟨f.name, f.b.extract 0 n, n⟩, .slice A n n)) hx (by rw [hxf]) hcut
  have hfin := h.row_put rfl hW.2 hW.1
  have hfs : (rows.set i (⟨f.name, f.b.extract 0 n, n⟩, .slice A n n)).map (·.1) = D.files.set i ⟨f.name, f.b.extract 0 n, n⟩ := by rw [List.map_set, hr]
  rw [hfs] at hfin
  have hgb : ∃ cur, Blk w g 61 cur := by
    rcases hR.1.2 with ⟨hv, _⟩ | ⟨g', cap', cur, hv, _, hh, _⟩
    · cases hv
    · simp only [Value.slice.injEq, Option.some.injEq, Addr.mk.injEq, and_true, true_and] at hv
      obtain ⟨rfl, rfl⟩ := hv
      exact ⟨cur, hh⟩
  obtain ⟨cur, hgb⟩ := hgb
  have f1 := hgb.frozen (i * 3 + 1); have f2 := hgb.frozen (i * 3 + 2)
  have HFin := Lib.hid hfin
  have hclip := fun W => clip_any A n c W (by omega)
  have HCl := Lib.hid hclip
  have hiI : (i : Int) < (rows.length : Int) := by omega
  have hnI : (n : Int) ≤ (c : Int) := by omega
  have hnc : n ≤ c := by omega
  have hir : i < rows.length := by omega
  clear hfin hW hcut hbx hfs hclip hR hr h hx hx2 hxf hi hrl hilt
  go_enter Try.func63, Try.ntmps63
  go_wp2_with fail
  refine (HCl.out _).mono ?_
  rintro e w1 ⟨rfl, rfl⟩
  go_wp2
  go_end0
  exact ⟨rfl, HFin.out.1, HFin.out.2⟩
end Go.Proofs.Ytmgnpcoihehelaa
