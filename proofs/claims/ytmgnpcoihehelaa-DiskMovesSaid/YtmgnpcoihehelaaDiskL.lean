/- slices.Insert of a file behind the last one. -/
import Derived.Test.YtmgnpcoihehelaaDiskK
namespace Go.Proofs.Ytmgnpcoihehelaa
open Go.RowKit

theorem Moved.of_grown {w w' : World} {g : Option Nat} (h : w.grownBy w' g) (p : Nat) : Moved w w' p g := ⟨h.os, h.tape, h.output, h.size, fun i hi _ hg => h.block i hi hg⟩
set_option maxRecDepth 100000 in
set_option maxHeartbeats 4000000 in
theorem insert_end (w : World) (base : Nat) (v : Value) (rows : List (FileD × Value)) (y : FileD × Value) (a : Addr) (c : Nat) (h : RowD w base v rows) (hl : rows.length ≤ 1000000000) (hbase : base ≤ w.heap.size)
    (hy : Rd w 3 (some a) 1 (fcells y)) (hyb : Bt w y.2 y.1.b) :
    Calls Try.prog 29 #[v, .int .i64 rows.length, .slice (some a) 1 c] w fun e w' => ∃ v', e = .returned v' ∧ RowD w' base v' (rows ++ [y]) ∧ w.grownBy w' v.ownBlock ∧ (v'.ownBlock = v.ownBlock ∨ v'.ownBlock = some w.heap.size) := by
  obtain ⟨i0, hi, hz0, hz1, hz2⟩ := parts infoF
  obtain ⟨A, cc, rfl⟩ := own_shape h.1
  have hsh := h.1.2
  have hone : ∀ u ∈ fcells y, u.oneCell' = true := by
    obtain ⟨A', c', he, _⟩ := hyb
    intro u hu
    simp only [fcells, List.mem_cons, List.not_mem_nil, or_false] at hu
    rcases hu with rfl | rfl | rfl
    · rfl
    · rw [he]; rfl
    · rfl
  have hcap : rows.length ≤ cc := by
    rcases hsh with ⟨hv, h0⟩ | ⟨g, cap, cur, hv, _, _, hc, _⟩
    · omega
    · simp only [Value.slice.injEq] at hv; omega
  have hcapI : (rows.length : Int) ≤ (cc : Int) := by omega
  have H := Lib.hid h; have HO := Lib.hid h.1; have HR := Lib.hid hy; have H1 := Lib.hid hone; have HY := Lib.hid hyb
  clear h hsh hy hone hyb
  go_enter Try.func29, Try.ntmps29
  go_wp2_with (at_builtin; refine wpList_append_any _ rfl (.tmp 23) (.tmp 24) 54 rfl base 61 i0 (.agg #[.string ⟨#[]⟩, .slice none 0 0, .int .i64 0]) 3 48 Try.underlying54 hi hz0 hz1 hz2 rfl (by decide) _ _ _ rfl HO.out _ _ _ _ (fcells y) rfl HR.out H1.out (by unfold maxLen; omega) (by omega) hbase ?_; intro v3 w3 h2 h3 h4; have HO3 := Lib.hid h2; have HG3 := Lib.hid h3; have HB3 := Lib.hid h4; clear h2 h3 h4)
  all_goals
    go_ret
    have hg : w.grownBy w3 (Value.slice A rows.length cc).ownBlock := HG3.out
    have hb : v3.ownBlock = (Value.slice A rows.length cc).ownBlock ∨ v3.ownBlock = some w.heap.size := HB3.out
    have hR : RowD w3 base v3 (rows ++ [y]) := by
      have ho : ∀ x ∈ rows ++ [y], Bt w x.2 x.1.b := by
        intro x hx
        rcases List.mem_append.1 hx with hx | hx
        · exact H.out.2 x hx
        · simp at hx; subst hx; exact HY.out
      refine ⟨?_, fun x hx => (ho x hx).keep fun blk cs fz hh => hg.block blk (Array.getElem?_eq_some_iff.1 hh).1 (fun e => own_type H.out.1 (by decide) blk e.symm cs fz hh)⟩
      rw [rcells_append, List.length_append]
      have := HO3.out
      have e : rcells [y] = fcells y := by simp [rcells]
      rw [e]; exact this
    first
      | exact ⟨v3, rfl, hR, hg, hb⟩
      | (have hcc : cc = rows.length := by assumption
         rw [hcc] at hg hb; exact ⟨v3, rfl, hR, hg, hb⟩)
end Go.Proofs.Ytmgnpcoihehelaa
