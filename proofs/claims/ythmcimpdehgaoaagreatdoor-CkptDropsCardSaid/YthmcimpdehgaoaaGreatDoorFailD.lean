/- The program's disk: Fail. -/
import Derived.Test.YthmcimpdehgaoaaGreatDoorPk11
namespace Go.Proofs.YthmcimpdehgaoaaGreatDoor
open Go.RowKit Go.Maps

set_option maxHeartbeats 1000000 in
theorem fail_any (w : World) (base p : Nat) (v : Value) (D : DiskD) (h : DiskIs w base p v D) (z : Int) :
    Calls Tryz.prog 17 #[.pointer (some ⟨p, 0, none⟩), .int .i64 z] w fun e w' => e = .returned (.tuple #[]) ∧ DiskIs w' base p v { D with left := max (-1) z } ∧ Moved w w' p none := by
  have hb := h.blk
  have c3 := hb.cell 3
  simp only [List.getElem?_toArray, List.getElem?_cons_zero, List.getElem?_cons_succ] at c3
  have f3 := hb.frozen 3
  have hm := Moved.set_ w p 3 none (.int .i64 (max (-1) z))
  have hk := hb.set_ 3 (.int .i64 (max (-1) z))
  have hD := h.set_ (D' := { D with left := max (-1) z }) hm hk rfl
  have HD := Lib.hid hD; have HM := Lib.hid hm
  clear hD hm hk h hb
  go_enter Tryz.func17, Tryz.ntmps17
  go_wp2
  go_end0
  exact ⟨rfl, HD.out, HM.out⟩
theorem d_fail {w : World} {B p : Nat} {v : Value} {D D' : DiskD} (h : DiskIs w B p v D) (hB : B ≤ w.heap.size) (z : Int) (hE : { D with left := max (-1) z } = D') :
    Calls Tryz.prog 17 #[.pointer (some ⟨p, 0, none⟩), .int .i64 z] w fun e w' => e = .returned (.tuple #[]) ∧ ∃ v1, Out B w w' p v D' v1 :=
  (fail_any w B p v D h z).mono fun e w' ⟨he, hd, hm⟩ => by
    rw [hE] at hd
    exact ⟨he, Leaves.out h hB ⟨v, hd, ⟨hm.os, hm.tape, hm.output, hm.size, fun k hk hkp _ => hm.block k hk hkp (by simp)⟩, own_new (.inl rfl)⟩⟩
end Go.Proofs.YthmcimpdehgaoaaGreatDoor
