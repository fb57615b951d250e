/- copy at elements of k cells. -/
import Derived.Test.YtmgnpcoihehelaaDiskL
import Derived.Laws.IdiomCopy
namespace Go.Proofs.Ytmgnpcoihehelaa
open Go.RowKit

/-- 'copy(d, s)' at elements of k cells, one row: the cells are laid in order. -/
theorem run_copy_k {P : Program} (w : World) (dT sT ty elem : TypeId) (k b o dLen dCap : Nat) (a : Addr) (sLen sCap : Nat) (cs : List Value)
    (hu : P.underlying dT = some (.slice elem)) (hs : (P.info? elem).map (·.size) = some k) (hl : cs.length = Nat.min sLen dLen * k)
    (hcs : ∀ j v, cs[j]? = some v → w.cell? (a.add j) = some v)
    (hc : ∀ j, j < cs.length → (w.cell? ⟨b, o + j, none⟩).isSome = true) (hf : ∀ j, j < cs.length → w.frozen? ⟨b, o + j, none⟩ = false) (h1 : ∀ v ∈ cs, v.oneCell' = true) :
    (Builtin.copy_ #[dT, sT] ty #[.slice (some ⟨b, o, none⟩) dLen dCap, .slice (some a) sLen sCap]).run P w = .ok (goInt (Nat.min sLen dLen)) (w.setCells b o cs) := by
  cases hi : P.info? elem with
  | none => rw [hi] at hs; cases hs
  | some i =>
    rw [hi] at hs
    have hz : i.size = k := by simpa using hs
    have hst := run_storeCells_cells (P := P) b o cs 0 w (by simpa using hc) (by simpa using hf) h1
    simp only [Nat.add_zero] at hst
    have hld := run_loadCells_list (P := P) w a cs hcs
    obtain ⟨m, hm⟩ : ∃ m, Nat.min sLen dLen = m := ⟨_, rfl⟩
    rw [hm] at hl ⊢
    simp [Builtin.copy_, run_underlying hu, Builtin.lenOf, Builtin.firstCells, sizeOf, typeInfo, hi, hz, hm, ← hl, hld, hst]
end Go.Proofs.Ytmgnpcoihehelaa
