/- The disk's steps: drops, safely. -/
import Derived.Test.YtmgnpcoihehelaaDiskH
namespace Go.Proofs.Ytmgnpcoihehelaa
open Go.RowKit

/-- a row of files stays where a cell of the disk is written -/
theorem RowD.set_ {w : World} {base p k : Nat} {v : Value} {rows : List (FileD × Value)} {t : TypeId} {cs : Array Value} (h : RowD w base v rows) (hb : Blk w p t cs) (h1 : t ≠ 61) (h2 : t ≠ 5) (u : Value) : RowD (w.setCell ⟨p, k, none⟩ u) base v rows := by
  refine h.keep (fun g hg => ?_) (fun blk cs' fz hh => ?_)
  · refine Below.heap_setCell w _ u g (fun e => ?_)
    have e : g = p := e
    subst e
    exact own_type h.1 (t := t) (fun e => h1 e.symm) g hg cs (0, 0) hb
  · refine Below.heap_setCell w _ u blk (fun e => ?_)
    have e : blk = p := e
    subst e
    exact blk_type hb hh h2
/-- the disk has another row -/
theorem DiskIs.row_set {w w1 : World} {base p : Nat} {v v' : Value} {D : DiskD} {rows' : List (FileD × Value)} (h : DiskIs w base p v D) (hm : Moved w w1 p v.ownBlock) (hp : w1.heap[p]? = w.heap[p]?) (hR : RowD w1 base v' rows') :
    DiskIs (w1.setCell ⟨p, 0, none⟩ v') base p v' { D with files := rows'.map (·.1) } ∧ Moved w (w1.setCell ⟨p, 0, none⟩ v') p v.ownBlock := by
  have hb : Blk w1 p 56 #[v, .int .i64 D.quota, .int .i64 D.steps, .int .i64 D.left, .bool D.off] := hp.trans h.blk
  refine ⟨⟨h.1, hb.set_ 0 v', rows', rfl, hR.set_ hb (by decide) (by decide) v'⟩, hm.trans (Moved.set_ w1 p 0 none v') (.inr (.inl rfl))⟩
set_option maxRecDepth 100000 in
set_option maxHeartbeats 4000000 in
theorem drops_any (w : World) (base p : Nat) (v : Value) (D : DiskD) (i : Nat) (n : Int) (to : ByteArray) (h : DiskIs w base p v D) (hi : i < D.files.length) (hl : D.files.length ≤ 1000000000) :
    Calls Try.prog 65 #[.pointer (some ⟨p, 0, none⟩), .int .i64 i, .int .i64 n, .string to] w fun e w' => ∃ v', e = .returned (.tuple #[]) ∧
      DiskIs w' base p v' { D with files := D.files.take i ++ D.files.drop (i + 1) } ∧ Moved w w' p v.ownBlock ∧ v'.ownBlock = v.ownBlock := by
  obtain ⟨rows, hr, hR⟩ := h.row
  have hrl : rows.length = D.files.length := by rw [← hr, List.length_map]
  obtain ⟨g, cap, hv, hg1, hg2⟩ := hR.1.form (by omega)
  subst hv
  have hown := h.own g rfl
  have hC := delete_any w base g cap rows i hR (by omega)
  have c0 := h.blk.cell 0; have f0 := h.blk.frozen 0
  simp only [List.getElem?_toArray, List.getElem?_cons_zero] at c0
  have hfl : (rows.take i ++ rows.drop (i + 1)).map (·.1) = D.files.take i ++ D.files.drop (i + 1) := by
    rw [List.map_append, List.map_take, List.map_drop, hr]
  have hiI : (i : Int) + 1 ≤ 9223372036854775807 := by omega
  have hpl := h.blk.lt
  have HC := Lib.hid hC; have H := Lib.hid h; have HF := Lib.hid hfl
  have hcast : ((i + 1 : Nat) : Int) = (i : Int) + 1 := by omega
  rw [hcast] at HC
  clear hC h hfl hr hR hrl hcast
  go_enter Try.func65, Try.ntmps65
  go_wp2_with fail
  refine HC.out.mono ?_
  rintro e w1 ⟨rfl, hR1, hm1⟩
  have hp1 : w1.heap[p]? = w.heap[p]? := hm1.block p hpl (fun e => hown.2.2 e.symm) (by simp)
  have hmp : Moved w w1 p (some g) := ⟨hm1.os, hm1.tape, hm1.output, hm1.size, fun k hk _ hg' => hm1.block k hk (fun e => hg' (by rw [e])) (by simp)⟩
  have hfin := H.out.row_set hmp hp1 hR1
  have hb1 : Blk w1 p 56 _ := hp1.trans H.out.blk
  have d0 := hb1.cell 0; have g0 := hb1.frozen 0
  simp only [List.getElem?_toArray, List.getElem?_cons_zero] at d0
  rw [HF.out] at hfin
  have HFin := Lib.hid hfin
  clear hfin hmp hp1 hb1 hm1 hR1
  go_wp2
  go_end0
  exact ⟨_, rfl, HFin.out.1, HFin.out.2, rfl⟩
end Go.Proofs.Ytmgnpcoihehelaa
