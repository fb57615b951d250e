/- fields.Writer: what was put, piece behind piece; put, Byte, Word, Long. -/
import Derived.Test.YthmcimpdehgaoaaGreatDoorMaC
namespace Go.Proofs.YthmcimpdehgaoaaGreatDoor
open Go.RowKit

/-- pieces, the one that was put last ahead -/
def Chain (w : World) : Option Addr → List ByteArray → Prop
  | p, [] => p = none
  | p, s :: r => ∃ q v p', p = some ⟨q, 0, none⟩ ∧ Blk w q 158 #[v, .pointer p'] ∧ Bt w v s ∧ Chain w p' r
def cat : List ByteArray → ByteArray
  | [] => ⟨#[]⟩
  | s :: r => cat r ++ s
/-- a writer, and all that was put -/
def WrIs (w : World) (gw : Nat) (T : ByteArray) : Prop := ∃ l p, cat l = T ∧ Blk w gw 118 #[.pointer p, .int .i64 T.size] ∧ Chain w p l
theorem Chain.keep {w w' : World} (hp : ∀ (k : Nat) cs fz, w.heap[k]? = some (.cells cs 158 fz) → w'.heap[k]? = w.heap[k]?) (hu : ∀ (k : Nat) cs fz, w.heap[k]? = some (.cells cs 5 fz) → w'.heap[k]? = w.heap[k]?) :
    ∀ (l : List ByteArray) (p : Option Addr), Chain w p l → Chain w' p l := by
  intro l
  induction l with
  | nil => exact fun _ h => h
  | cons s r ih =>
    rintro p ⟨q, v, p', rfl, hb, ht, hc⟩
    exact ⟨q, v, p', rfl, (hp q _ _ hb).trans hb, ht.keep hu, ih _ hc⟩
theorem Chain.below {w w' : World} {B : Nat} (hb : Below B w w') (hB : w.heap.size ≤ B) (l : List ByteArray) (p : Option Addr) (h : Chain w p l) : Chain w' p l :=
  Chain.keep (fun k _ _ hk => hb.block k (by have := (Array.getElem?_eq_some_iff.1 hk).1; omega)) (fun k _ _ hk => hb.block k (by have := (Array.getElem?_eq_some_iff.1 hk).1; omega)) l p h
theorem WrIs.below {w w' : World} {gw : Nat} {T : ByteArray} (h : WrIs w gw T) (hb : Below w.heap.size w w') : WrIs w' gw T := by
  obtain ⟨l, p, hc, hk, hch⟩ := h
  exact ⟨l, p, hc, hk.below hb hk.lt, hch.below hb (Nat.le_refl _)⟩
theorem WrIs.lt {w : World} {gw : Nat} {T : ByteArray} (h : WrIs w gw T) : gw < w.heap.size := by obtain ⟨_, _, _, hk, _⟩ := h; exact hk.lt
theorem WrIs.new (w : World) : WrIs (w.alloc (.cells #[.pointer none, .int .i64 0] 118)) w.heap.size ⟨#[]⟩ := ⟨[], none, rfl, Blk.new w _ _, rfl⟩
set_option maxRecDepth 100000 in
set_option maxHeartbeats 2000000 in
theorem put_all (w : World) (gw : Nat) (T s : ByteArray) (v : Value) (h : WrIs w gw T) (hs : Bt w v s) (hT : T.size + s.size ≤ 1000000000) :
    Calls Tryz.prog 115 #[.pointer (some ⟨gw, 0, none⟩), v] w fun e w' => e = .returned (.tuple #[]) ∧ WrIs w' gw (T ++ s) ∧ Moved w w' gw none := by
  obtain ⟨l, p, hc, hk, hch⟩ := h
  obtain ⟨A, c, rfl, hsc, hrest⟩ := id hs
  have c0 := hk.cell 0; have c1 := hk.cell 1; have f0 := hk.frozen 0; have f1 := hk.frozen 1
  simp only [List.getElem?_toArray, List.getElem?_cons_zero, List.getElem?_cons_succ] at c0 c1
  have hlt := hk.lt
  have hz1 : ((w.setCell ⟨gw, 0, none⟩ (.pointer (some ⟨w.heap.size, 0, none⟩))).setCell ⟨gw, 1, none⟩ (.int .i64 ((T.size : Int) + (s.size : Int)))).heap.size = w.heap.size := by simp
  have hkeep : ∀ (t : TypeId), t ≠ 118 → ∀ (k : Nat) cs fz, w.heap[k]? = some (.cells cs t fz) → (((w.setCell ⟨gw, 0, none⟩ (.pointer (some ⟨w.heap.size, 0, none⟩))).setCell ⟨gw, 1, none⟩ (.int .i64 ((T.size : Int) + (s.size : Int)))).alloc (.cells #[.slice A s.size c, .pointer p] 158)).heap[k]? = w.heap[k]? := fun t ht k cs fz hh => by
    have hne : k ≠ gw := by rintro rfl; exact blk_type hk hh (Ne.symm ht)
    have hkl : k < w.heap.size := (Array.getElem?_eq_some_iff.1 hh).1
    rw [Below.heap_alloc _ _ k (by rw [hz1]; exact hkl), Below.heap_setCell _ ⟨gw, 1, none⟩ _ k hne, Below.heap_setCell _ ⟨gw, 0, none⟩ _ k hne]
  have hfin : WrIs (((w.setCell ⟨gw, 0, none⟩ (.pointer (some ⟨w.heap.size, 0, none⟩))).setCell ⟨gw, 1, none⟩ (.int .i64 ((T.size : Int) + (s.size : Int)))).alloc (.cells #[.slice A s.size c, .pointer p] 158)) gw (T ++ s) := by
    refine ⟨s :: l, some ⟨w.heap.size, 0, none⟩, by rw [cat, hc], ?_, w.heap.size, .slice A s.size c, p, rfl, ?_, ?_, ?_⟩
    · have h2 := ((hk.set_ 0 (.pointer (some ⟨w.heap.size, 0, none⟩))).set_ 1 (.int .i64 ((T.size : Int) + (s.size : Int)))).alloc (.cells #[.slice A s.size c, .pointer p] 158)
      rw [ByteArray.size_append, Int.natCast_add]
      exact h2
    · have h2 := Blk.new ((w.setCell ⟨gw, 0, none⟩ (.pointer (some ⟨w.heap.size, 0, none⟩))).setCell ⟨gw, 1, none⟩ (.int .i64 ((T.size : Int) + (s.size : Int)))) 158 #[.slice A s.size c, .pointer p]
      rw [hz1] at h2
      exact h2
    · exact hs.keep (hkeep _ (by decide))
    · exact Chain.keep (hkeep _ (by decide)) (hkeep _ (by decide)) l p hch
  have hmv : Moved w (((w.setCell ⟨gw, 0, none⟩ (.pointer (some ⟨w.heap.size, 0, none⟩))).setCell ⟨gw, 1, none⟩ (.int .i64 ((T.size : Int) + (s.size : Int)))).alloc (.cells #[.slice A s.size c, .pointer p] 158)) gw none :=
    ((Moved.set_ w gw 0 none _).trans (Moved.set_ _ gw 1 none _) (.inl rfl)).trans (Moved.of_below ((Below.refl _ _).alloc (Nat.le_refl _) _) gw none) (.inl rfl)
  have HF := Lib.hid hfin; have HM := Lib.hid hmv
  have hTI : (T.size : Int) + (s.size : Int) ≤ 1000000000 := by omega
  have hne : gw ≠ w.heap.size := by omega
  clear hfin hmv hs hch hk hrest hkeep hz1
  go_enter Tryz.func115, Tryz.ntmps115
  go_wp2
  go_end0
  exact ⟨rfl, HF.out, HM.out⟩
theorem put_any (w : World) (gw : Nat) (T s : ByteArray) (v : Value) (h : WrIs w gw T) (hs : Bt w v s) (_h0 : 0 < s.size) (hT : T.size + s.size ≤ 1000000000) :
    Calls Tryz.prog 115 #[.pointer (some ⟨gw, 0, none⟩), v] w fun e w' => e = .returned (.tuple #[]) ∧ WrIs w' gw (T ++ s) ∧ Moved w w' gw none := put_all w gw T s v h hs hT
end Go.Proofs.YthmcimpdehgaoaaGreatDoor
