/- Best: a stable sort of few places; the sort's wrapper; the best of any values. A stable sort in plain words: pieces of one length, each in order. -/
import Derived.Test.YtggegefeagkhkaaDoorRpO
import Derived.Test.YtggegefeagkhkaaDoorRec2
import Derived.Test.YtggegefeagkhkaaDoorRqB
namespace Go.Proofs.YtggegefeagkhkaaDoor
open Go.RowKit

/-- the contract of the stable sort of N places -/
def StableC (N : Nat) : Prop := ∀ (w : World) (vs : List Int) (A : Option Addr) (c g gb : Nat) (l : List Nat), Srt w vs A c g gb l → l.length = N → l.Pairwise (· < ·) →
  Calls Tryd.prog 47 #[.slice (some ⟨g, 0, none⟩) N N, .int .i64 (N : Int), .func (.func 25) #[] #[.pointer (some ⟨gb, 0, none⟩)]] w fun e w' => e = .returned (.tuple #[]) ∧ SrtP w vs A c g gb [] l [] w'
set_option maxRecDepth 100000 in
set_option maxHeartbeats 4000000 in
theorem stable_small (N : Nat) (hN : N < 20) : StableC N := by
  intro w vs A c g gb l h hl hp
  have hi := ins_any w vs A c g gb N [] l [] (by simpa using h) hp (by simpa using hl) (by omega)
  rw [List.length_nil, Nat.zero_add, hl] at hi
  have HI := Lib.hid hi
  have hNI : (N : Int) < 20 := by omega
  clear h hl hp hi
  go_enter Tryd.func47, Tryd.ntmps47
  go_wp2
  refine wp_loop_rounds 1 ?_
  rw [rounds_succ]
  go_wp2_with fail
  refine HI.out.mono ?_
  rintro e w1 ⟨rfl, hw1⟩
  have HW := Lib.hid hw1
  clear hw1
  go_wp2
  refine wp_loop_rounds 1 ?_
  rw [rounds_succ]
  go_wp2
  go_end0
  exact ⟨rfl, HW.out⟩
set_option maxHeartbeats 1000000 in
theorem sortS_any (N : Nat) (hS : StableC N) (w : World) (vs : List Int) (A : Option Addr) (c g gb : Nat) (l : List Nat) (h : Srt w vs A c g gb l) (hl : l.length = N) (hp : l.Pairwise (· < ·)) :
    Calls Tryd.prog 24 #[.slice (some ⟨g, 0, none⟩) N N, .func (.func 25) #[] #[.pointer (some ⟨gb, 0, none⟩)]] w fun e w' => e = .returned (.tuple #[]) ∧ SrtP w vs A c g gb [] l [] w' := by
  have HS := Lib.hid (hS w vs A c g gb l h hl hp)
  clear h hl hp hS
  go_enter Tryd.func24, Tryd.ntmps24
  go_wp2_with fail
  refine HS.out.mono ?_
  rintro e w1 ⟨rfl, hw1⟩
  have HW := Lib.hid hw1
  clear hw1
  go_wp2
  go_end0
  exact ⟨rfl, HW.out⟩
/-- the places of values in their order -/
def IsBest (vs : List Int) (s : List Nat) : Prop := s.Perm (List.range vs.length) ∧ s.Pairwise (lt vs)
theorem isBest_eq {vs : List Int} {s t : List Nat} (h : IsBest vs s) (k : IsBest vs t) : s = t :=
  List.Perm.eq_of_pairwise (fun _ _ _ _ h1 h2 => (lt_asymm h1 h2).elim) h.2 k.2 (h.1.trans k.1.symm)
/-- how many are asked -/
def takeN (n : Int) (N : Nat) : Nat := (max 0 (min n N)).toNat
theorem takeN_le (n : Int) (N : Nat) : takeN n N ≤ N := by unfold takeN; omega
/-- what Best hands back -/
def BestP (w : World) (vs : List Int) (n : Int) (e : Ending) (w' : World) : Prop :=
  Below w.heap.size w w' ∧ ∃ (s : List Nat) (A : Option Addr) (c : Nat), IsBest vs s ∧ e = .returned (.slice A (takeN n vs.length) c) ∧ Rd w' 1 A (takeN n vs.length) ((s.take (takeN n vs.length)).map fun i : Nat => Value.int .i64 (i : Int))
/-- places that are laid so far -/
def laidL (N i : Nat) : List Nat := List.range i ++ List.replicate (N - i) 0
theorem laidL_zero (N : Nat) : laidL N 0 = List.replicate N 0 := by unfold laidL; simp
theorem laidL_done (N : Nat) : laidL N N = List.range N := by unfold laidL; simp
theorem laidL_step {N i : Nat} (h : i < N) : (laidL N i).set i i = laidL N (i + 1) := by
  unfold laidL
  obtain ⟨k, hk⟩ : ∃ k, N - i = k + 1 := ⟨N - i - 1, by omega⟩
  rw [hk, List.replicate_succ, List.range_succ, show N - (i + 1) = k by omega]
  rw [List.set_append_right i i (by simp)]
  simp
theorem made_cells (N : Nat) : (List.replicate N (Value.int .i64 0)).toArray = cellsN (laidL N 0) := by
  rw [laidL_zero]
  unfold cellsN
  rw [List.map_replicate]
  rfl
theorem infoI : (Tryd.prog.info? 3).map (fun i => (i.zero, i.size, i.bytes)) = some (some (.int .i64 0), 1, 8) := by kernel_rfl
theorem laidL_mem {N i x : Nat} (h : x ∈ laidL N i) (hi : i ≤ N) : x < N ∨ (x = 0 ∧ i < N) := by
  unfold laidL at h
  rcases List.mem_append.1 h with h | h
  · have := List.mem_range.1 h; omega
  · have := List.mem_replicate.1 h; omega
/-- the row of places, being laid -/
structure BSt (w wr : World) (A : Option Addr) (N c i : Nat) : Prop where
  below : Below w.heap.size w wr
  row : Blk wr (w.heap.size + 1) 3 (cellsN (laidL N i))
  box : Blk wr w.heap.size 24 #[.slice A N c]
theorem BSt.step {w wr : World} {A : Option Addr} {N c i : Nat} (h : BSt w wr A N c i) (hi : i < N) : BSt w (wr.setCell ⟨w.heap.size + 1, i, none⟩ (.int .i64 (i : Int))) A N c (i + 1) := by
  refine ⟨h.below.setCell (p := ⟨w.heap.size + 1, i, none⟩) (by simp) _, ?_, h.box.far (p := ⟨w.heap.size + 1, i, none⟩) (by simp) _⟩
  have := h.row.set_ i (.int .i64 (i : Int))
  rw [cellsN_set, laidL_step hi] at this
  exact this
theorem rd_places {w : World} {g K : Nat} {s : List Nat} (h : Blk w g 3 (cellsN s)) (hK : K ≤ s.length) : Rd w 1 (some ⟨g, 0, none⟩) K ((s.take K).map fun i : Nat => Value.int .i64 (i : Int)) := by
  refine ⟨by simp; omega, fun _ => ⟨_, rfl, h.lt, fun j u hu => ?_⟩⟩
  have h0 : (⟨g, 0, none⟩ : Addr).add j = ⟨g, j, none⟩ := by
    unfold Addr.add
    split
    · rename_i h; subst h; rfl
    · simp
  rw [h0, h.cell]
  rw [List.getElem?_map] at hu
  cases hx : (s.take K)[j]? with
  | none => rw [hx] at hu; cases hu
  | some x =>
    rw [hx] at hu
    injection hu with hu
    rw [← hu]
    refine cellsN_at ?_
    rw [List.getElem?_take] at hx
    split at hx
    · exact hx
    · cases hx
theorem bestP_of {w wr w2 : World} {vs : List Int} {A : Option Addr} {n : Int} {N c : Nat} (hN : vs.length = N) (h : BSt w wr A N c N) (hp : SrtP wr vs A c (w.heap.size + 1) w.heap.size [] (List.range N) [] w2) : BestP w vs n (.returned (.slice (some ⟨w.heap.size + 1, 0, none⟩) (takeN n N) N)) w2 := by
  subst hN
  obtain ⟨s, h1, h2, h3, h4⟩ := hp
  have h5 : Srt w2 vs A c (w.heap.size + 1) w.heap.size s := by simpa using h3
  refine ⟨h.below.grown h4 h.below.size (fun k hk => by injection hk with hk; omega), s, _, _, ⟨h1, h2⟩, rfl, rd_places h5.row ?_⟩
  have := h1.length_eq
  simp at this
  rw [this]
  exact takeN_le _ _
set_option maxRecDepth 100000 in
set_option maxHeartbeats 4000000 in
theorem best_any (w : World) (vs : List Int) (A : Option Addr) (c : Nat) (n : Int) (hr : Rd w 1 A vs.length (vs.map (Value.int .i64))) (hS : StableC vs.length) (hl : vs.length ≤ 1000000) :
    Calls Tryd.prog 13 #[.slice A vs.length c, .int .i64 n] w (BestP w vs n) := by
  obtain ⟨i0, hi0, hz0, hz1, hz2⟩ := info_parts infoI
  have hmf : ∀ (fn : Fn) (first cap : Array Value) (w : World), (Instr.makeFunc fn first cap).run Tryd.prog w = .ok (.func fn first cap) w := fun _ _ _ _ => rfl
  obtain ⟨N, hN⟩ : ∃ N, vs.length = N := ⟨_, rfl⟩
  have hmk : ∀ W : World, (Instr.makeSlice 39 (.int .i64 (N : Int)) (.int .i64 (N : Int))).run Tryd.prog W = .ok (.slice (some ⟨W.heap.size, 0, none⟩) N N) (W.alloc (.cells (cellsN (laidL N 0)) 3)) := fun W => by
    have := run_make_one (P := Tryd.prog) 39 3 i0 (.int .i64 0) Tryd.underlying39 hi0 hz0 rfl hz1 N (by rw [hz2]; omega) (by omega) W
    rw [made_cells] at this
    exact this
  have hst0 : BSt w ((w.alloc (.cells #[.slice A N c] 24)).alloc (.cells (cellsN (laidL N 0)) 3)) A N c 0 := by
    refine ⟨((Below.refl _ _).alloc (Nat.le_refl _) _).alloc (by simp) _, ?_, (Blk.new w _ _).alloc _⟩
    have := Blk.new (w.alloc (.cells #[.slice A N c] 24)) 3 (cellsN (laidL N 0))
    rwa [show (w.alloc (.cells #[.slice A N c] 24)).heap.size = w.heap.size + 1 by simp] at this
  have hval : ∀ wr, BSt w wr A N c N → Srt wr vs A c (w.heap.size + 1) w.heap.size (List.range N) := fun wr h => by
    refine ⟨by have := h.row; rwa [laidL_done] at this, by rw [hN]; exact h.box, fun i x hx => ?_, fun i hi => by rw [hN]; exact List.mem_range.1 hi⟩
    have hil := (List.getElem?_eq_some_iff.1 hx).1
    obtain ⟨ad, hA, hb, hcell⟩ := hr.2 (by omega)
    have h9 := hcell i (.int .i64 x) (by rw [List.getElem?_map, hx]; rfl)
    exact ⟨ad, hA, by omega, Nat.lt_of_lt_of_le hb h.below.size, (h.below.cell (p := ad.add i) (by rw [block_of_add]; exact hb)).trans h9⟩
  have hsort : ∀ wr, BSt w wr A N c N → Calls Tryd.prog 24 #[.slice (some ⟨w.heap.size + 1, 0, none⟩) N N, .func (.func 25) #[] #[.pointer (some ⟨w.heap.size, 0, none⟩)]] wr fun e w' => e = .returned (.tuple #[]) ∧ SrtP wr vs A c (w.heap.size + 1) w.heap.size [] (List.range N) [] w' := fun wr h =>
    sortS_any N (by rw [← hN]; exact hS) wr vs A c _ _ _ (hval wr h) (by simp) List.pairwise_lt_range
  rw [hN]
  have HST0 := Lib.hid hst0; have HSO := Lib.hid hsort; have HN := Lib.hid hN
  clear hst0 hval hsort hS hr hi0
  rw [hN] at hl
  clear hN
  go_enter Tryd.func13, Tryd.ntmps13
  go_wp2
  go_loopg [12] N (fun gf v12 wr => ∃ i : Nat, v12 = .int .i64 i ∧ i + gf = N ∧ BSt w wr A N c i)
  case atStart => exact ⟨0, rfl, by omega, HST0.out⟩
  case round =>
    clear HST0
    obtain ⟨i, rfl, hi, hst⟩ := hrel
    cases gk with
    | succ gf =>
      have hiI : (i : Int) < (N : Int) := by omega
      have hiN : i < N := by omega
      have hc : wr.cell? ⟨w.heap.size + 1, i, none⟩ = some (.int .i64 ((laidL N i).getD i 0 : Nat)) := by
        rw [hst.row.cell]
        refine cellsN_at ?_
        have : i < (laidL N i).length := by unfold laidL; simp; omega
        rw [List.getElem?_eq_getElem this, getD_get _ _ _ this]
      have hf := hst.row.frozen i
      have hlt := hst.row.lt
      have HST := Lib.hid (hst.step hiN)
      clear hst
      go_wp2
      go_roundg gf
      case measure => omega
      case rel => exact ⟨i + 1, by go_num, by omega, HST.out⟩
    | zero =>
      obtain rfl : i = N := by omega
      have HS := Lib.hid (HSO.out _ hst); have HST := Lib.hid hst
      clear hst
      go_wp2_with fail
      refine HS.out.mono ?_
      rintro e w2 ⟨rfl, hp⟩
      have HP := Lib.hid hp
      clear hp
      go_wp2_with fail
      go_ret
      exact bestP_of HN.out HST.out HP.out
end Go.Proofs.YtggegefeagkhkaaDoor
namespace Go.Proofs.YtggegefeagkhkaaDoor

/-- the list, in pieces of B, each in order, the last one maybe shorter -/
inductive Ch (vs : List Int) (B : Nat) : List Nat → List Nat → Prop
  | last {o t : List Nat} (h : o.length ≤ B) (p : t.Perm o) (s : t.Pairwise (lt vs)) : Ch vs B o t
  | cons {o1 t1 o t : List Nat} (h : o1.length = B) (p : t1.Perm o1) (s : t1.Pairwise (lt vs)) (r : Ch vs B o t) : Ch vs B (o1 ++ o) (t1 ++ t)
theorem Ch.perm {vs : List Int} {B : Nat} {o t : List Nat} (h : Ch vs B o t) : t.Perm o := by
  induction h with
  | last h p s => exact p
  | cons h p s r ih => exact p.append ih
theorem Ch.uncons {vs : List Int} {B : Nat} {o t : List Nat} (h : Ch vs B o t) (hB : B ≤ o.length) :
    ∃ o1 o2 t1 t2, o = o1 ++ o2 ∧ t = t1 ++ t2 ∧ o1.length = B ∧ t1.Perm o1 ∧ t1.Pairwise (lt vs) ∧ Ch vs B o2 t2 := by
  cases h with
  | last h p s => exact ⟨o, [], t, [], by simp, by simp, by omega, p, s, .last (by simp) (List.Perm.refl _) List.Pairwise.nil⟩
  | cons h p s r => exact ⟨_, _, _, _, rfl, rfl, h, p, s, r⟩
theorem Ch.short {vs : List Int} {B : Nat} {o t : List Nat} (h : Ch vs B o t) (hB : o.length ≤ B) : t.Perm o ∧ t.Pairwise (lt vs) := by
  cases h with
  | last h p s => exact ⟨p, s⟩
  | cons h p s r =>
    rename_i o1 t1 o2 t2
    rw [List.length_append] at hB
    obtain rfl : o2 = [] := List.eq_nil_of_length_eq_zero (by omega)
    obtain rfl : t2 = [] := by simpa using r.perm.eq_nil
    simpa using And.intro p s
/-- the pieces that lie behind -/
def Dn (vs : List Int) (B : Nat) (op p : List Nat) : Prop := ∀ o t, Ch vs B o t → Ch vs B (op ++ o) (p ++ t)
theorem dn_nil (vs : List Int) (B : Nat) : Dn vs B [] [] := fun _ _ h => h
theorem Dn.snoc {vs : List Int} {B : Nat} {op p o1 t1 : List Nat} (h : Dn vs B op p) (hl : o1.length = B) (hp : t1.Perm o1) (hs : t1.Pairwise (lt vs)) : Dn vs B (op ++ o1) (p ++ t1) := fun o t k => by
  rw [List.append_assoc, List.append_assoc]
  exact h _ _ (.cons hl hp hs k)
theorem Dn.done {vs : List Int} {B : Nat} {op p o1 t1 : List Nat} (h : Dn vs B op p) (hl : o1.length ≤ B) (hp : t1.Perm o1) (hs : t1.Pairwise (lt vs)) : Ch vs B (op ++ o1) (p ++ t1) := h _ _ (.last hl hp hs)
theorem lt_pieces {o1 o2 t1 t2 a b : List Nat} (h : (a ++ (o1 ++ (o2 ++ b))).Pairwise (· < ·)) (p1 : t1.Perm o1) (p2 : t2.Perm o2) : ∀ x ∈ t1, ∀ y ∈ t2, x < y := by
  intro x hx y hy
  have h1 := (List.pairwise_append.1 h).2.1
  exact (List.pairwise_append.1 h1).2.2 x (p1.mem_iff.1 hx) y (List.mem_append_left _ (p2.mem_iff.1 hy))
theorem piece_in {o1 a b : List Nat} (h : (a ++ (o1 ++ b)).Pairwise (· < ·)) : o1.Pairwise (· < ·) := (List.pairwise_append.1 (List.pairwise_append.1 h).2.1).1
theorem piece_last {o1 a : List Nat} (h : (a ++ o1).Pairwise (· < ·)) : o1.Pairwise (· < ·) := (List.pairwise_append.1 h).2.1
end Go.Proofs.YtggegefeagkhkaaDoor
