/- Arrays of bytes: held against one another, read out of a slice. -/
import Derived.Test.YtlcgkcafelpglaaDoorMaL
import Derived.Laws.StructEq
import Derived.ChangeKeysEq
import Derived.Laws.Cover3
namespace Go.Proofs.YtlcgkcafelpglaaDoor
open Go.RowKit Go.Maps

theorem plainU : Tryd.prog.plainKey 5 = true := by kernel_rfl
theorem cellsU1 : Tryd.prog.cellsOf 5 = 1 := by kernel_rfl
theorem eqItems_u8 (d : Nat) (w : World) (xs ys : Array Value) (f g : Nat → Int) : ∀ (is : List Nat), (∀ i ∈ is, xs[i]? = some (.int .u8 (f i))) → (∀ i ∈ is, ys[i]? = some (.int .u8 (g i))) →
    (Op.eqItems (d + 1) 5 1 xs ys is).run Tryd.prog w = .ok (is.all fun i => f i == g i) w := by
  intro is
  induction is with
  | nil => intro _ _; simp [Op.eqItems]
  | cons i is ih =>
    intro hx hy
    have h1 := run_part_plain w plainU (off := i) (hx i (by simp))
    have h2 := run_part_plain w plainU (off := i) (hy i (by simp))
    have h3 := run_equalIn_int (P := Tryd.prog) w d 5 .u8 .u8 (f i) (g i) Tryd.underlying5
    have h4 := ih (fun j hj => hx j (List.mem_cons_of_mem _ hj)) (fun j hj => hy j (List.mem_cons_of_mem _ hj))
    simp only [Op.eqItems, Sem.run_bind, Nat.mul_one, h1, h2, h3, Result.andThen_ok, List.all_cons]
    cases he : (f i == g i)
    · simp
    · simpa using h4
theorem all_range {n : Nat} {p : Nat → Bool} : (List.range n).all p = true ↔ ∀ i, i < n → p i = true := by
  simp [List.all_eq_true]
theorem run_neq_raw (w : World) (s t : ByteArray) (hs : s.size = 50) (ht : t.size = 50) :
    (binOp .neq 66 (.agg (ucells s).toArray) (.agg (ucells t).toArray)).run Tryd.prog w = .ok (.bool (decide (s ≠ t))) w := by
  obtain ⟨i0, hi0, hz0, hz1, hz2⟩ := parts infoU
  have hcell : ∀ (s : ByteArray), s.size = 50 → ∀ i ∈ List.range 50, (ucells s).toArray[i]? = some (.int .u8 ((s.get! i).toNat : Int)) := fun s hs i hi => by
    rw [List.getElem?_toArray]
    exact ucells_at s i (by rw [hs]; exact List.mem_range.1 hi)
  have h := eqItems_u8 9998 w (ucells s).toArray (ucells t).toArray (fun i => ((s.get! i).toNat : Int)) (fun i => ((t.get! i).toNat : Int)) (List.range 50) (hcell s hs) (hcell t ht)
  have h2 := run_equalIn_array (P := Tryd.prog) (w := w) 9999 (ucells s).toArray (ucells t).toArray Tryd.underlying66 hi0
  rw [cellsU1, h] at h2
  have hiff : ((List.range 50).all fun i => ((s.get! i).toNat : Int) == ((t.get! i).toNat : Int)) = true ↔ s = t := by
    rw [all_range]
    constructor
    · intro h
      apply ByteArray.ext
      apply Array.ext
      · show s.size = t.size; rw [hs, ht]
      · intro i h1 h2
        have h1' : i < s.data.size := h1
        have h2' : i < t.data.size := h2
        have := h i (by rw [← hs]; exact h1')
        simp only [ByteArray.get!, getElem!_pos, h1', h2', beq_iff_eq, Int.natCast_inj] at this
        exact UInt8.toNat_inj.1 this
    · rintro rfl i _; simp
  have e : (!((List.range 50).all fun i => ((s.get! i).toNat : Int) == ((t.get! i).toNat : Int))) = decide (s ≠ t) := by
    cases hd : ((List.range 50).all fun i => ((s.get! i).toNat : Int) == ((t.get! i).toNat : Int))
    · have : s ≠ t := fun e => by rw [hiff.2 e] at hd; cases hd
      simp [this]
    · simp [hiff.1 hd]
  rw [run_neq_struct, h2, Result.andThen_ok, e]
theorem run_load_raw (w : World) (ad : Addr) (s : ByteArray) (hs : s.size = 50) (h : ∀ j u, (ucells s)[j]? = some u → w.cell? (ad.add j) = some u) :
    (Instr.loadAt 66 (.pointer (some ad))).run Tryd.prog w = .ok (.agg (ucells s).toArray) w := by
  have hl : (ucells s).length = 50 := by rw [ucells_length, hs]
  have h1 := run_loadCells_list (P := Tryd.prog) w ad (ucells s) h
  rw [hl] at h1
  have hagg : (isAgg 66).run Tryd.prog w = .ok true w := by
    unfold isAgg
    rw [Sem.run_bind, run_underlying Tryd.underlying66 w]
    rfl
  have hq : ∃ i, Tryd.prog.info? 66 = some i ∧ i.size = 50 := by
    have := rawInfo
    cases hx : Tryd.prog.info? 66 with
    | none => rw [hx] at this; cases this
    | some i => rw [hx] at this; exact ⟨i, rfl, by simpa using this⟩
  obtain ⟨i, hq, hs50⟩ := hq
  simp only [Instr.loadAt, Instr.sureAddr, Sem.run_bind, Sem.run_pure, Result.andThen_ok, loadVar, hagg, sizeOf, typeInfo, if_true]
  simp [hq, hs50, h1, Result.andThen]
theorem run_execOp_load {P : Program} {ρ : Operand → Value} {o : Oper} {t : TypeId} {x : Operand} {v : Value} {w : World} (ho : o.op = .load t x) (h : (Instr.loadAt t (ρ x)).run P w = .ok v w) : (execOp ρ o).run P w = .ok (.value v) w := by
  unfold execOp
  simp [ho, h, Result.andThen]
theorem run_execOp_conv {P : Program} {ρ : Operand → Value} {o : Oper} {t t' : TypeId} {x : Operand} {v : Value} {w : World} (ho : o.op = .convert t t' x) (h : (convert t t' (ρ x)).run P w = .ok v w) : (execOp ρ o).run P w = .ok (.value v) w := by
  unfold execOp
  simp [ho, h, Result.andThen]
theorem run_execOp_slice {P : Program} {ρ : Operand → Value} {o : Oper} {t : TypeId} {x lo hi : Operand} {v : Value} {w : World} (ho : o.op = .slice t x (some lo) (some hi) none) (h : (Instr.sliceAt t (ρ x) (some (ρ lo)) (some (ρ hi)) none).run P w = .ok v w) : (execOp ρ o).run P w = .ok (.value v) w := by
  unfold execOp
  simp [ho, h, Result.andThen]
theorem results_row_tmp {P : Program} {fn : Func} {p u : Tmp} {ty : TypeId} (h : fn.results = #[.cell p ty, .tmp u]) (tmps : Array Value) (w : World) (g : Nat) (t : TypeId) (cs : Array Value) (fr : Nat × Nat) (d : TypeDesc)
    (hp : tmps.getD p undef = .pointer (some ⟨g, 0, none⟩)) (hg : w.heap[g]? = some (.cells cs t fr))
    (hu : P.underlying ty = some d) (hd : (match d with | .struct _ | .array _ _ => true | _ => false) = true) (hi : (P.info? ty).map (·.size) = some cs.size) :
    (results fn tmps).run P w = .ok (.tuple #[.agg cs, tmps.getD u undef]) w := by
  have hp' : tmps[p]?.getD undef = .pointer (some ⟨g, 0, none⟩) := by simpa using hp
  simp [results, h, hp', asAddr, run_loadVar_row w g t ty cs fr d hg hu hd hi]
theorem infoMf : (Tryd.prog.info? 24).map (·.size) = some 7 := by kernel_rfl
theorem mCells_oneA (m : ManM) : (mCells m).all (·.oneCell') = true := by
  unfold mCells
  simp [Value.oneCell']
end Go.Proofs.YtlcgkcafelpglaaDoor
