/- The contracts of layer 11 as callers take them; works. -/
import Derived.Test.YtbmjmpojabbegaaInbR
namespace Go.Proofs.Ytbmjmpojabbegaa
open Go.RowKit

theorem Rs.lit {α : Type} {enc : α → List Value} {k : Nat} (hk : ∀ a, (enc a).length = k) (w : World) (l : List α) (cs : Array Value) (t : TypeId) (h : cs = (rcs enc l).toArray) (g : Nat) (hg : w.heap.size = g) : Rs enc k (w.alloc (.cells cs t)) (some ⟨g, 0, none⟩) l := by
  subst h
  exact Sl.new w (rcs enc l) t k l.length (rcs_length hk l) g hg
/-- the contract of Fold -/
theorem c_fold (w : World) (k s o d e' : Int) (A : Option Addr) (c : Nat) (l : List (Int × Int)) (h : Rs msgC 2 w A l) (hl : l.length ≤ 1000000000) (hwm : ∀ x ∈ l, (Lit.int .i64 x.1).wf = true) :
    Calls Try.prog 9 #[.agg #[.int .u8 k, .int .i64 s, .int .i64 o, .int .i64 d, .int .i64 e'], .slice A l.length c] w fun e w' => ∃ A' c', e = .returned (.slice A' (foldL k l).length c') ∧ Rs msgC 2 w' A' (foldL k l) ∧ w'.ownsRow w.heap.size 29 2 (.slice A' (foldL k l).length c') (foldL k l).length (rcs msgC (foldL k l)) ∧ Below w.heap.size w w' := by
  refine (fold_any w k s o d e' A c l h hl hwm).mono ?_
  rintro e w' ⟨v, rfl, ho, hb⟩
  obtain ⟨A', c', rfl, -⟩ := own_parts ho
  exact ⟨A', c', rfl, Rs.of_own ho, ho, hb⟩
theorem c_refFold (w : World) (k s o d e' : Int) (A : Option Addr) (c : Nat) (l : List (Int × Int)) (h : Rs msgC 2 w A l) (hl : l.length ≤ 1000000000) :
    Calls Try.prog 11 #[.agg #[.int .u8 k, .int .i64 s, .int .i64 o, .int .i64 d, .int .i64 e'], .slice A l.length c] w fun e w' => ∃ A' c', e = .returned (.slice A' (foldL k l).length c') ∧ Rs msgC 2 w' A' (foldL k l) ∧ Below w.heap.size w w' := by
  refine (refFold_any w k s o d e' A c l h hl).mono ?_
  rintro e w' ⟨v, rfl, ho, hb⟩
  obtain ⟨A', c', rfl, -⟩ := own_parts ho
  exact ⟨A', c', rfl, Rs.of_own ho, hb⟩
/-- the contract of Merge -/
theorem c_merge (w : World) (k s o d e' : Int) (A A2 : Option Addr) (c c2 : Nat) (own : List Int) (L : List (List (Int × Int))) (h1 : Rs intC 1 w A own) (h : RsRs w A2 L) (hl1 : own.length ≤ 1000000000) (hl : L.length ≤ 1000000000) (hlf : L.flatten.length ≤ 1000000000)
    (hwo : ∀ v ∈ own, (Lit.int .i64 v).wf = true) (hwm : ∀ l ∈ L, ∀ x ∈ l, (Lit.int .i64 x.1).wf = true) :
    Calls Try.prog 14 #[.agg #[.int .u8 k, .int .i64 s, .int .i64 o, .int .i64 d, .int .i64 e'], .slice A own.length c, .slice A2 L.length c2] w fun e w' => ∃ g, e = .returned (.slice (some ⟨g, 0, none⟩) (mergeL k own L).length own.length) ∧ Rs mailC 2 w' (some ⟨g, 0, none⟩) (mergeL k own L) ∧ Below w.heap.size w w' := by
  refine (merge_any w k s o d e' A A2 c c2 own L h1 h hl1 hl hlf hwo hwm).mono ?_
  rintro e w' ⟨g, rfl, ho, hb⟩
  rw [← mergeL_len k own L] at ho
  refine ⟨g, by rw [mergeL_len], Rs.of_own ho, hb⟩
/-- slices of messages that are read -/
theorem RsRs.of_rows {w : World} {A : Option Addr} {vs : List Value} {L : List (List (Int × Int))} {B : Nat} (h : Sl w 1 A L.length vs) (hr : RowsO w B vs L) : RsRs w A L := by
  refine ⟨vs, h, fun i l hl => ?_⟩
  have hi : i < vs.length := by rw [hr.len]; exact (List.getElem?_eq_some_iff.1 hl).1
  have ho := hr.own i _ l (List.getElem?_eq_getElem hi) hl
  obtain ⟨A', c', e, hc⟩ := own_parts ho
  rw [e] at ho
  exact ⟨A', c', by rw [List.getElem?_eq_getElem hi, e], hc, Rs.of_own ho⟩
theorem c_split (w : World) (A : Option Addr) (c n : Nat) (l : List (Int × Int)) (h : Rs msgC 2 w A l) (hl : l.length ≤ 1000000000) (hn : 1 ≤ n) (hn2 : n ≤ 64) :
    Calls Try.prog 12 #[.slice A l.length c, .int .i64 n] w fun e w' => ∃ g, e = .returned (.slice (some ⟨g, 0, none⟩) (splitL l n).length n) ∧ RsRs w' (some ⟨g, 0, none⟩) (splitL l n) ∧ Below w.heap.size w w' := by
  refine (split_any w A c n l h hl hn hn2).mono ?_
  rintro e w' ⟨g, vs, rfl, hs⟩
  have ho := hs.own
  have hr := hs.rows
  refine ⟨g, by rw [splitL_len], RsRs.of_rows ?_ hr, hs.below⟩
  rw [splitL_len]
  exact Sl.of_own ho
theorem c_refSplit (w : World) (A : Option Addr) (c n : Nat) (l : List (Int × Int)) (h : Rs msgC 2 w A l) (hl : l.length ≤ 1000000000) (hn : 1 ≤ n) (hn2 : n ≤ 64) :
    Calls Try.prog 13 #[.slice A l.length c, .int .i64 n] w fun e w' => ∃ A' c', e = .returned (.slice A' (splitL l n).length c') ∧ RsRs w' A' (splitL l n) ∧ Below w.heap.size w w' := by
  refine (refSplit_any w A c n l h hl hn hn2).mono ?_
  rintro e w' ⟨v, vs, rfl, ho, hr, hb⟩
  obtain ⟨A', c', rfl, -⟩ := own_parts ho
  refine ⟨A', c', by rw [splitL_len], RsRs.of_rows ?_ hr, hb⟩
  rw [splitL_len]
  exact Sl.of_own ho
theorem RsRs.two {w : World} {t2 : TypeId} {g1 g2 c1 c2 : Nat} {l1 l2 : List (Int × Int)} (h1 : Rs msgC 2 w (some ⟨g1, 0, none⟩) l1) (h2 : Rs msgC 2 w (some ⟨g2, 0, none⟩) l2) (hc1 : l1.length ≤ c1) (hc2 : l2.length ≤ c2) (g : Nat) (hg : w.heap.size = g) :
    RsRs (w.alloc (.cells #[.slice (some ⟨g1, 0, none⟩) l1.length c1, .slice (some ⟨g2, 0, none⟩) l2.length c2] t2)) (some ⟨g, 0, none⟩) [l1, l2] := by
  refine ⟨_, Sl.new w [.slice (some ⟨g1, 0, none⟩) l1.length c1, .slice (some ⟨g2, 0, none⟩) l2.length c2] t2 1 2 rfl g hg, fun i l hl => ?_⟩
  match i with
  | 0 => injection hl with hl; subst hl; exact ⟨_, _, rfl, hc1, h1.alloc _⟩
  | 1 => injection hl with hl; subst hl; exact ⟨_, _, rfl, hc2, h2.alloc _⟩
  | i + 2 => simp at hl
end Go.Proofs.Ytbmjmpojabbegaa
