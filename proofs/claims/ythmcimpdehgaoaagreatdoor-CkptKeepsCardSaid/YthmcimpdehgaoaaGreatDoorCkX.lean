/- A store of checkpoints: Drop. -/
import Derived.Test.YthmcimpdehgaoaaGreatDoorCkW
import Derived.Test.YthmcimpdehgaoaaGreatDoorCkD
import Derived.OrdersHeld
import Derived.Deep.RegionHeld3
import Derived.Deep.DeepCutAuto
namespace Go.Proofs.YthmcimpdehgaoaaGreatDoor
open Go.RowKit Go.Maps

/-- what a drop leaves -/
def CDropP [Forb] (B : Nat) (w : World) (p gs : Nat) (v : Value) (q : Int × DiskD) (e : Ending) (w' : World) : Prop :=
  e = .returned (.int .i64 q.1) ∧ ∃ v1, Out B w w' p v q.2 v1 ∧ CkSt w' gs p
/-- a row of ints in its block -/
def IntB (w : World) (A : Option Addr) (l : List Nat) : Prop := ∀ (k n : Nat), l[k]? = some n → ∃ (g : Nat) (cur : Array Value), A = some ⟨g, 0, none⟩ ∧ Blk w g 3 cur ∧ cur[k]? = some (Value.int .i64 (n : Int))
theorem IntB.of_own {w : World} {b c : Nat} {A : Option Addr} {l : List Nat} (h : w.ownsRow b 3 1 (.slice A l.length c) l.length (intsN l)) : IntB w A l := by
  intro k n hk
  have hlt : k < l.length := (List.getElem?_eq_some_iff.1 hk).1
  rcases h.2 with ⟨hv, h0⟩ | ⟨g, cap, cur, hv, hg, hb, hn, hcap, hsz, ht⟩
  · omega
  · simp only [Value.slice.injEq] at hv
    obtain ⟨rfl, -, rfl⟩ := hv
    refine ⟨g, cur, rfl, hb, ?_⟩
    have h1 : (cur.toList.take (l.length * 1))[k]? = (intsN l)[k]? := by rw [ht]
    rw [Nat.mul_one, List.getElem?_take_of_lt hlt, Array.getElem?_toList] at h1
    rw [h1]
    unfold intsN
    rw [List.getElem?_map, hk]
    rfl
theorem IntB.out [Forb] {B p : Nat} {w w' : World} {A : Option Addr} {l : List Nat} {v v1 : Value} {D1 : DiskD} (h : IntB w A l) (o : Out B w w' p v D1 v1) : IntB w' A l := fun k n hk => by
  obtain ⟨g, cur, h1, h2, h3⟩ := h k n hk
  exact ⟨g, cur, h1, o.keep_blk h2 (by decide) (by decide), h3⟩
theorem IntB.below {w w' : World} {A : Option Addr} {l : List Nat} (h : IntB w A l) (hb : Below w.heap.size w w') : IntB w' A l := fun k n hk => by
  obtain ⟨g, cur, h1, h2, h3⟩ := h k n hk
  exact ⟨g, cur, h1, h2.below hb h2.lt, h3⟩
set_option maxHeartbeats 2000000 in
theorem cdrop_nil (w : World) (below : Int) : Calls Tryz.prog 13 #[.pointer none, .int .i64 below] w fun e w' => e = .returned (.int .i64 1) ∧ w' = w := by
  go_enter Tryz.func13, Tryz.ntmps13
  go_wp2
  go_ret
  exact ⟨rfl, rfl⟩
set_option maxHeartbeats 2000000 in
theorem cdrop_off [Forb] (w : World) (B p gs : Nat) (v : Value) (D : DiskD) (h : DiskIs w B p v D) (hs : CkSt w gs p) (below : Int) (hoff : D.off = true) : Calls Tryz.prog 13 #[.pointer (some ⟨gs, 0, none⟩), .int .i64 below] w fun e w' => e = .returned (.int .i64 160) ∧ w' = w := by
  have HO := Lib.hid (off_any _ B p v D h)
  rw [hoff] at HO
  have hcs : w.cell? ⟨gs, 0, none⟩ = some (.pointer (some ⟨p, 0, none⟩)) := Blk.cell hs 0
  clear h hs hoff
  go_enter Tryz.func13, Tryz.ntmps13
  go_wp2_with fail
  refine HO.out.mono ?_
  rintro e w6 ⟨rfl, rfl⟩
  clear HO
  go_wp2
  go_ret
  exact ⟨rfl, rfl⟩
end Go.Proofs.YthmcimpdehgaoaaGreatDoor
