/- The reader's parts: need and number, which may panic; a line's words. -/
import Derived.Test.YtggegefeagkhkaaDoorRpF
import Derived.Lib.SplitLaws
import Derived.Recover
namespace Go.Proofs.YtggegefeagkhkaaDoor
open Go.RowKit

/-- the panic that tells 'no report' -/
def errC : List PanicEntry := [{ v := .iface 30 (.int .i64 270), recovered := false }]
set_option maxHeartbeats 1000000 in
theorem need_yes (w : World) : Calls Tryd.prog 22 #[.bool true] w fun e w' => e = .returned (.tuple #[]) ∧ w = w' := by
  go_enter Tryd.func22, Tryd.ntmps22
  go_wp2
  go_end0
  exact ⟨rfl, rfl⟩
set_option maxHeartbeats 1000000 in
theorem need_no (w : World) : Calls Tryd.prog 22 #[.bool false] w fun e w' => e = .panicked errC ∧ w = w' := by
  go_enter Tryd.func22, Tryd.ntmps22
  go_wp2
  exact ⟨rfl, rfl, rfl⟩
theorem need_any (w : World) (b : Bool) : Calls Tryd.prog 22 #[.bool b] w fun e w' => e = (if b = true then .returned (.tuple #[]) else .panicked errC) ∧ w = w' := by
  cases b
  · exact need_no w
  · exact need_yes w
theorem numL_of {s : ByteArray} {n : Int} (h : numL s.data.toList = some n) : numP (runes s) = (n, 0) := by
  unfold numL at h
  rw [ba_of] at h
  split at h
  · rename_i h2
    injection h with h
    exact Prod.ext h h2
  · cases h
theorem numL_none {s : ByteArray} (h : numL s.data.toList = none) : (numP (runes s)).2 ≠ 0 := by
  unfold numL at h
  rw [ba_of] at h
  split at h
  · cases h
  · assumption
theorem numL_bd {l : List UInt8} {n : Int} (h : numL l = some n) : 0 ≤ n ∧ n ≤ 4611686018427387904 := by
  have h1 := numL_of (s := ba l) (by rw [ba_toList]; exact h)
  exact (read_print _ _ h1).2
set_option maxHeartbeats 2000000 in
theorem number_yes (w : World) (s : ByteArray) (most n : Int) (hs : s.size ≤ 4294967296) (hF : Firsts w) (h : numL s.data.toList = some n) (hm : n ≤ most) :
    Calls Tryd.prog 43 #[.string s, .int .i64 most] w fun e w' => e = .returned (.int .i64 n) ∧ Below w.heap.size w w' := by
  have HN := Lib.hid (number_at s n 0 w hs hF (numL_of h))
  have HY := Lib.hid need_yes
  have hb : decide (n ≤ most) = true := decide_eq_true hm
  clear h hF
  go_enter Tryd.func43, Tryd.ntmps43
  go_wp2_with fail
  refine HN.out.mono ?_
  rintro e w1 ⟨rfl, hb1⟩
  have HB := Lib.hid hb1
  clear hb1
  go_wp2_with fail
  refine (HY.out _).mono ?_
  rintro e w2 ⟨rfl, rfl⟩
  go_wp2
  go_ret
  exact ⟨rfl, HB.out⟩
set_option maxHeartbeats 2000000 in
theorem number_no (w : World) (s : ByteArray) (most : Int) (hs : s.size ≤ 4294967296) (hF : Firsts w) (h : ∀ n, numL s.data.toList = some n → most < n) :
    Calls Tryd.prog 43 #[.string s, .int .i64 most] w fun e w' => e = .panicked errC ∧ Below w.heap.size w w' := by
  have HY := Lib.hid need_no
  cases hn : numL s.data.toList with
  | some n =>
    have HN := Lib.hid (number_at s n 0 w hs hF (numL_of hn))
    have hb : decide (n ≤ most) = false := decide_eq_false (by have := h n hn; omega)
    clear h hF hn
    go_enter Tryd.func43, Tryd.ntmps43
    go_wp2_with fail
    refine HN.out.mono ?_
    rintro e w1 ⟨rfl, hb1⟩
    have HB := Lib.hid hb1
    clear hb1
    go_wp2_with fail
    refine (HY.out _).mono ?_
    rintro e w2 ⟨rfl, rfl⟩
    exact ⟨rfl, rfl, HB.out⟩
  | none =>
    have hne := numL_none hn
    obtain ⟨a, ha⟩ : ∃ a, (numP (runes s)).1 = a := ⟨_, rfl⟩
    obtain ⟨b, hb⟩ : ∃ b, (numP (runes s)).2 = b := ⟨_, rfl⟩
    have HN := Lib.hid (number_at s a b w hs hF (by rw [← ha, ← hb]))
    rw [hb] at hne
    have hbb : (b == 0) = false := by simpa using hne
    clear h hF hn hne ha hb
    go_enter Tryd.func43, Tryd.ntmps43
    go_wp2_with fail
    refine HN.out.mono ?_
    rintro e w1 ⟨rfl, hb1⟩
    have HB := Lib.hid hb1
    clear hb1
    go_wp2_with fail
    refine (HY.out _).mono ?_
    rintro e w2 ⟨rfl, rfl⟩
    exact ⟨rfl, rfl, HB.out⟩
/-- a line's words -/
def spB (s : ByteArray) : List ByteArray := (sp 32 s.data.toList []).map ba
theorem split_spB (s : ByteArray) : Lib.splitB ⟨#[32]⟩ 0 (Lib.countB s ⟨#[32]⟩) s = spB s := by
  have h1 := Lib.splitB_data ⟨#[32]⟩ 0 (Lib.countB s ⟨#[32]⟩) s
  have h2 : Lib.splitK (⟨#[32]⟩ : ByteArray).data.toList 0 (Lib.countB s ⟨#[32]⟩) s.data.toList = sp 32 s.data.toList [] := splitK_sp 32 _ _ (Nat.le_refl _)
  rw [h2] at h1
  unfold spB
  rw [← h1, List.map_map]
  have : (ba ∘ fun x : ByteArray => x.data.toList) = id := funext fun x => ba_of x
  rw [this, List.map_id]
theorem split_len (s : ByteArray) : Lib.countB s ⟨#[32]⟩ + 1 = (spB s).length := by
  rw [← split_spB]
  exact (Lib.splitB_all ⟨#[32]⟩ (by decide) 0 _ s rfl).symm
theorem split_any (w : World) (s : ByteArray) (hs : s.size < 4294967281) (hG : Gl w) :
    Calls Tryd.prog 41 #[.string s, .string ⟨#[32]⟩] w (Gives (spB s) w) := by
  obtain ⟨m, hm⟩ := hG.mx
  refine (Tryd.strings_Split s ⟨#[32]⟩ m w hs hm (by decide)).mono ?_
  rintro e w' ⟨he, rfl⟩
  rw [split_spB]
  refine ⟨some ⟨w.heap.size, 0, none⟩, (spB s).length, by rw [he, split_len], rd_new w _ _ _ rfl, (Below.refl _ _).alloc (Nat.le_refl _) _⟩
/-- a row's string -/
theorem str_at {w : World} {A : Option Addr} {l : List ByteArray} (h : Rd w 1 A l.length (l.map Value.string)) {i : Nat} {x : ByteArray} (hx : l[i]? = some x) : ∃ ad, A = some ad ∧ w.cell? (ad.add i) = some (.string x) := by
  have hi := (List.getElem?_eq_some_iff.1 hx).1
  obtain ⟨ad, u, rfl, hu, hc⟩ := h.at_ (k := i) hi
  rw [List.getElem?_map, hx] at hu
  injection hu with hu
  subst hu
  exact ⟨ad, rfl, hc⟩
theorem sp_total (c : UInt8) : ∀ (s cur : List UInt8), ((sp c s cur).map List.length).sum ≤ s.length + cur.length := by
  intro s
  induction s with
  | nil => intro cur; simp [sp]
  | cons b r ih =>
    intro cur
    rw [sp]
    split
    · have := ih []; simp at this ⊢; omega
    · have := ih (cur ++ [b]); simp at this ⊢; omega
theorem sum_mem {l : List Nat} {x : Nat} (h : x ∈ l) : x ≤ l.sum := by
  induction l with
  | nil => cases h
  | cons a l ih =>
    rw [List.sum_cons]
    rcases List.mem_cons.1 h with rfl | h
    · omega
    · have := ih h; omega
theorem spB_small {s x : ByteArray} (h : x ∈ spB s) : x.size ≤ s.size := by
  obtain ⟨l, hl, rfl⟩ := List.mem_map.1 h
  have h1 := sp_total 32 s.data.toList []
  have h2 := sum_mem (List.mem_map_of_mem (f := List.length) hl)
  rw [size_ba]
  simp at h1
  omega
theorem linesP_small {s x : ByteArray} (h : x ∈ linesP s) : x.size ≤ s.size := by
  rw [linesP_eq] at h
  obtain ⟨l, hl, rfl⟩ := List.mem_map.1 h
  have h1 := lin_size s.data.toList []
  have h2 := sum_mem (List.mem_map_of_mem (f := fun g : List UInt8 => g.length + 1) hl)
  rw [size_ba]
  simp at h1 h2
  omega
end Go.Proofs.YtggegefeagkhkaaDoor
