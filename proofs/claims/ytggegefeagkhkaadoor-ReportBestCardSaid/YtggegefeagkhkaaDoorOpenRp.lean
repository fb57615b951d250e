/- Arguments of layer 27, opened: a job, a state, a row of numbers; the laid tables. -/
import Derived.Test.YtggegefeagkhkaaDoorRpF
import Derived.Test.YtggegefeagkhkaaDoorPk47
import Derived.Lib.LaidTab
import Derived.Shelf.Vars
namespace Go.Proofs.YtggegefeagkhkaaDoor
open Go.RowKit Go.WideShapes Go.ChangeShapes

theorem laidMet_tail {P : Program} {W : World} {x : String × DataW Unit} {L : List (String × DataW Unit)} (h : laidMet P (x :: L) W) : laidMet P L W := by
  obtain ⟨ps, ⟨g', t', cs, fuel, p, q, hg', ht', hvar, hd, htl, heq⟩, hn, hr⟩ := h
  subst heq
  exact ⟨q, htl, (List.nodup_append.1 hn).2.1, fun b off hm => hr b off (List.mem_append_right _ hm)⟩
section
variable {P : Program} {H : Type} {enc : TypeId × Value → H} {t : TypeId} {W : World}
theorem one_of_drop {cs : List Value} {i : Nat} {v : Value} (h : cs[i]? = some v) : (cs.drop i).take 1 = [v] := by
  obtain ⟨hlt, rfl⟩ := List.getElem?_eq_some_iff.1 h
  rw [List.drop_eq_getElem_cons hlt]
  rfl
theorem struct_at {fs : Array Field} {n : Nat} {cs : List Value} {x : DataW H × List MemPlace} (ht : P.underlying t = some (.struct fs)) (h : DataW.trod enc P W 0 (fun _ => true) true n t cs = some x) (i : Nat) (f : Field) (hi : fs[i]? = some f)
    (hc : P.cellsOf f.type = 1) {v : Value} (hv : cs[f.offset]? = some v) : ∃ m y, DataW.trod enc P W 0 (fun _ => true) true m f.type [v] = some y := by
  obtain ⟨xs, m, _, _, hl, hlen, hf⟩ := DataW.trod_struct ht h
  have := hf i f hi
  rw [hc, one_of_drop hv, List.getElem?_eq_getElem (by rw [hlen]; exact (Array.getElem?_eq_some_iff.1 hi).1)] at this
  exact ⟨m, _, this⟩
theorem struct_int {fs : Array Field} {n : Nat} {cs : List Value} {x : DataW H × List MemPlace} (ht : P.underlying t = some (.struct fs)) (h : DataW.trod enc P W 0 (fun _ => true) true n t cs = some x) (i : Nat) (f : Field) (hi : fs[i]? = some f) {k : IntKind}
    (hu : P.underlying f.type = some (.int k)) (hc : P.cellsOf f.type = 1) {v : Value} (hv : cs[f.offset]? = some v) : ∃ z, v = .int k z ∧ (Lit.int k z).wf = true := by
  obtain ⟨m, y, this⟩ := struct_at ht h i f hi hc hv
  obtain ⟨z, h1, _, h2⟩ := DataW.trod_int hu this
  injection h1 with h1 _
  exact ⟨z, h1, h2⟩
/-- a table of strings holds what it is laid as -/
theorem strs_of_tab {base : Nat} {sp : Nat → Bool} {held : Bool} {fuel : Nat} {e : TypeId} {n : Nat} {cs : List Value} {zs : List (List UInt8)} {p : List MemPlace}
    (ht : P.underlying t = some (.array n e)) (he : P.underlying e = some .string) (hce : P.cellsOf e = 1) (hct : P.cellsOf t = n)
    (h : DataW.trod enc P W base sp held fuel t cs = some (.agg (zs.map fun z => .lit (.string z)), p)) : ∀ (i : Nat) (z : List UInt8), zs[i]? = some z → cs[i]? = some (.string ⟨z.toArray⟩) := by
  cases fuel with
  | zero => simp [DataW.trod] at h
  | succ fuel =>
    simp only [DataW.trod, ht, hce, hct, Nat.mul_one] at h
    split at h
    · obtain ⟨xs, hm, hx⟩ := Option.map_eq_some_iff.1 h
      have hxs : xs.map (·.1) = zs.map fun z => (DataW.lit (.string z) : DataW H) := by
        have := congrArg Prod.fst hx
        simpa using this
      intro i z hz
      have hxl : xs.length = n := by simpa using Lib.mapM_length hm
      have hzl : zs.length = n := by
        have := congrArg List.length hxs
        simp at this
        omega
      have hi : i < n := by rw [← hzl]; exact (List.getElem?_eq_some_iff.1 hz).1
      obtain ⟨b, hb, hf⟩ := Lib.mapM_at hm i i (by simp [hi])
      obtain ⟨s, hc, rfl, _⟩ := DataW.trod_string he hf
      have h1 : cs[i]? = some (.string s) := by
        have := congrArg (·[0]?) hc
        simpa [List.getElem?_take, List.getElem?_drop] using this
      have h2 : (xs.map (·.1))[i]? = some (DataW.lit (.string s.data.toList) : DataW H) := by simp [hb]
      rw [hxs] at h2
      simp only [List.getElem?_map, hz, Option.map_some, Option.some.injEq, DataW.lit.injEq, Lit.string.injEq] at h2
      rw [h1, h2]
    · cases h
theorem strs_of_head {name : String} {zs : List (List UInt8)} {rest : List (String × DataW Unit)} {g : Nat} {e : TypeId} {n : Nat}
    (hg : P.globalNamed name = some g) (hty : (P.globals[g]?).map (·.type) = some t) (ht : P.underlying t = some (.array n e)) (he : P.underlying e = some .string) (hce : P.cellsOf e = 1) (hct : P.cellsOf t = n)
    (h : laidMet P ((name, .agg (zs.map fun z => .lit (.string z))) :: rest) W) : ∀ (i : Nat) (z : List UInt8), zs[i]? = some z → W.cell? ⟨g, i, none⟩ = some (.string ⟨z.toArray⟩) := by
  obtain ⟨ps, ⟨g', t', cs, fuel, p, q, hg', ht', hvar, hd, _, _⟩, _⟩ := h
  obtain rfl := Option.some.inj (hg.symm.trans hg')
  obtain rfl := Option.some.inj (hty.symm.trans ht')
  intro i z hz
  have h1 := strs_of_tab ht he hce hct hd i z hz
  rw [World.var?_cell hg hvar i]
  simpa using h1
end
/-- what a laid datum's cells are -/
def litCell : Lit → List Value
  | .int k n => [.int k n]
  | .string b => [.string ⟨b.toArray⟩]
  | .bool b => [.bool b]
  | _ => []
def datCell : DataW Unit → List Value
  | .lit l => litCell l
  | .agg ps => ps.flatMap fun
    | .lit l => litCell l
    | .agg qs => qs.flatMap fun
      | .lit l => litCell l
      | _ => []
    | _ => []
  | _ => []
def layObj (d : DataW Unit) : Obj → Obj
  | .cells _ t fz => .cells (datCell d).toArray t fz
  | o => o
theorem array5 {α : Type} {cs : Array α} (h : cs.size = 5) : ∃ c0 c1 c2 c3 c4, cs = #[c0, c1, c2, c3, c4] := by
  obtain ⟨l⟩ := cs
  match l, h with
  | [c0, c1, c2, c3, c4], _ => exact ⟨c0, c1, c2, c3, c4, rfl⟩
theorem array6 {α : Type} {cs : Array α} (h : cs.size = 6) : ∃ c0 c1 c2 c3 c4 c5, cs = #[c0, c1, c2, c3, c4, c5] := by
  obtain ⟨l⟩ := cs
  match l, h with
  | [c0, c1, c2, c3, c4, c5], _ => exact ⟨c0, c1, c2, c3, c4, c5, rfl⟩
theorem list1 {α : Type} {cs : List α} (h : cs.length = 1) : ∃ c0, cs = [c0] := by
  match cs, h with
  | [c0], _ => exact ⟨c0, rfl⟩
theorem cellsJ : Tryd.prog.cellsOf 23 = 5 := by kernel_rfl
theorem cellsS : Tryd.prog.cellsOf 28 = 6 := by kernel_rfl
theorem cellsI : Tryd.prog.cellsOf 3 = 1 := by kernel_rfl
theorem cellsI64 : Tryd.prog.cellsOf 2 = 1 := by kernel_rfl
theorem cellsU8 : Tryd.prog.cellsOf 5 = 1 := by kernel_rfl
theorem cellsRI : Tryd.prog.cellsOf 24 = 1 := by kernel_rfl
theorem cellsRB : Tryd.prog.cellsOf 25 = 1 := by kernel_rfl
theorem cellsRM : Tryd.prog.cellsOf 26 = 1 := by kernel_rfl
theorem cellsBo : Tryd.prog.cellsOf 4 = 1 := by kernel_rfl
theorem cellsMa : Tryd.prog.cellsOf 149 = 2 := by kernel_rfl
theorem cellsBp : 0 < Tryd.prog.cellsOf 4 := Nat.lt_of_lt_of_eq (Nat.zero_lt_succ 0) cellsBo.symm
theorem cellsMp : 0 < Tryd.prog.cellsOf 149 := Nat.lt_of_lt_of_eq (Nat.zero_lt_succ 1) cellsMa.symm
theorem cellsIp : 0 < Tryd.prog.cellsOf 2 := Nat.lt_of_lt_of_eq (Nat.zero_lt_succ 0) cellsI64.symm
section
variable {H : Type} {enc : TypeId × Value → H} {W : World} {base : Nat} {v : Value} {d : DataW H} {ps : List MemPlace}
theorem nums_of {A : Option Addr} {len : Nat} (hr : len = 0 ∨ ∃ b o, A = some ⟨b, o, none⟩ ∧ b < W.heap.size ∧
      ∀ i, i < len → ∃ cs' m y, cs'.length = Tryd.prog.cellsOf 2 ∧ (∀ j, j < Tryd.prog.cellsOf 2 → W.cell? ⟨b, o + i * Tryd.prog.cellsOf 2 + j, none⟩ = cs'[j]?) ∧ DataW.trod enc Tryd.prog W 0 (fun _ => true) true m 2 cs' = some y) :
    ∃ l : List Int, l.length = len ∧ Rd W 1 A l.length (l.map (Value.int .i64)) := by
  rcases hr with rfl | ⟨b, o, rfl, hb, hx⟩
  · exact ⟨[], rfl, Rd.nil' _⟩
  · rw [cellsI64] at hx
    have each : ∀ i, i < len → ∃ z : Int, W.cell? ⟨b, o + i, none⟩ = some (.int .i64 z) := by
      intro i hi
      obtain ⟨cs, m, y, hl, hc, ht⟩ := hx i hi
      obtain ⟨c0, rfl⟩ := list1 hl
      obtain ⟨z, h1, _⟩ := DataW.trod_int Tryd.underlying2 ht
      injection h1 with h1 _
      subst h1
      have := hc 0 (by omega)
      rw [Nat.mul_one, Nat.add_zero] at this
      exact ⟨z, this⟩
    obtain ⟨l, hl, hm⟩ := list_of_each each
    refine ⟨l, hl, by simp, fun _ => ⟨_, rfl, hb, fun j u hu => ?_⟩⟩
    rw [List.getElem?_map] at hu
    cases hz : l[j]? with
    | none => rw [hz] at hu; cases hu
    | some z =>
      rw [hz] at hu
      injection hu with hu
      rw [← hu]
      have := hm j z hz
      have h0 : (⟨b, o, none⟩ : Addr).add j = ⟨b, o + j, none⟩ := by
        unfold Addr.add
        split
        · rename_i h; subst h; rfl
        · rfl
      rw [h0]
      exact this
set_option maxRecDepth 100000 in
theorem open_job (hv : Value.okWide Tryd.prog W .any base 23 v) (h : DataW.Trod enc Tryd.prog W 0 (fun _ => true) true 23 v d ps) :
    ∃ k s o d' e : Int, v = .agg #[.int .u8 k, .int .i64 s, .int .i64 o, .int .i64 d', .int .i64 e] ∧ 0 ≤ k ∧ k ≤ 255 := by
  obtain ⟨cs, rfl, hsz⟩ := okWide_struct Tryd.underlying23 hv
  rw [cellsJ] at hsz
  obtain ⟨c0, c1, c2, c3, c4, rfl⟩ := array5 hsz
  obtain ⟨n, hn⟩ := h
  obtain ⟨k, rfl, hw⟩ := struct_int Tryd.underlying23 hn 0 _ rfl Tryd.underlying5 cellsU8 (v := c0) rfl
  obtain ⟨s, rfl, _⟩ := struct_int Tryd.underlying23 hn 1 _ rfl Tryd.underlying3 cellsI (v := c1) rfl
  obtain ⟨o, rfl, _⟩ := struct_int Tryd.underlying23 hn 2 _ rfl Tryd.underlying3 cellsI (v := c2) rfl
  obtain ⟨d', rfl, _⟩ := struct_int Tryd.underlying23 hn 3 _ rfl Tryd.underlying2 cellsI64 (v := c3) rfl
  obtain ⟨e, rfl, _⟩ := struct_int Tryd.underlying23 hn 4 _ rfl Tryd.underlying2 cellsI64 (v := c4) rfl
  have hb : 0 ≤ k ∧ k ≤ 255 := by
    simp [Lit.wf, IntKind.min, IntKind.max, IntKind.signed, IntKind.bits] at hw
    omega
  exact ⟨k, s, o, d', e, rfl, hb⟩
set_option maxRecDepth 100000 in
theorem open_state (hv : Value.okWide Tryd.prog W .any base 28 v) (h : DataW.Trod enc Tryd.prog W 0 (fun _ => true) true 28 v d ps) :
    ∃ (step : Int) (A : Option Addr) (l : List Int) (c : Nat) (A2 : Option Addr) (n2 c2 : Nat) (A3 : Option Addr) (n3 c3 : Nat) (s4 s5 : Int), v = .agg #[.int .i64 step, .slice A l.length c, .slice A2 n2 c2, .slice A3 n3 c3, .int .i64 s4, .int .i64 s5] ∧ Rd W 1 A l.length (l.map (Value.int .i64)) ∧ l.length ≤ maxLen := by
  obtain ⟨cs, rfl, hsz⟩ := okWide_struct Tryd.underlying28 hv
  rw [cellsS] at hsz
  obtain ⟨c0, c1, c2, c3, c4, c5, rfl⟩ := array6 hsz
  obtain ⟨n, hn⟩ := h
  obtain ⟨k, rfl, hw⟩ := struct_int Tryd.underlying28 hn 0 _ rfl Tryd.underlying3 cellsI (v := c0) rfl
  obtain ⟨m1, y1, g1⟩ := struct_at Tryd.underlying28 hn 1 _ rfl cellsRI (v := c1) rfl
  obtain ⟨A, len, c, hcs, h1, h2, hr⟩ := open_row_cells Tryd.underlying24 cellsIp g1
  obtain ⟨m2, y2, g2⟩ := struct_at Tryd.underlying28 hn 2 _ rfl cellsRB (v := c2) rfl
  obtain ⟨A2, n2, e2, hcs2, _, _, _⟩ := open_row_cells Tryd.underlying25 cellsBp g2
  obtain ⟨m3, y3, g3⟩ := struct_at Tryd.underlying28 hn 3 _ rfl cellsRM (v := c3) rfl
  obtain ⟨A3, n3, e3, hcs3, _, _, _⟩ := open_row_cells Tryd.underlying26 cellsMp g3
  obtain ⟨s4, rfl, _⟩ := struct_int Tryd.underlying28 hn 4 _ rfl Tryd.underlying2 cellsI64 (v := c4) rfl
  obtain ⟨s5, rfl, _⟩ := struct_int Tryd.underlying28 hn 5 _ rfl Tryd.underlying2 cellsI64 (v := c5) rfl
  simp only [List.cons.injEq, and_true] at hcs hcs2 hcs3
  subst hcs hcs2 hcs3
  obtain ⟨l, rfl, hR⟩ := nums_of hr
  exact ⟨k, A, l, c, A2, n2, e2, A3, n3, e3, s4, s5, rfl, hR, Nat.le_trans h1 h2⟩
set_option maxRecDepth 100000 in
theorem open_nums (hv : Value.okWide Tryd.prog W .any base 24 v) (h : DataW.Trod enc Tryd.prog W 0 (fun _ => true) true 24 v d ps) :
    ∃ (A : Option Addr) (l : List Int) (c : Nat), v = .slice A l.length c ∧ Rd W 1 A l.length (l.map (Value.int .i64)) ∧ l.length ≤ maxLen := by
  obtain ⟨A, len, c, rfl, h1, h2, hr⟩ := open_row Tryd.underlying24 cellsIp hv h
  obtain ⟨l, rfl, hR⟩ := nums_of hr
  exact ⟨A, l, c, rfl, hR, Nat.le_trans h1 h2⟩
end
end Go.Proofs.YtggegefeagkhkaaDoor
