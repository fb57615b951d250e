/- Arguments of layer 11, opened: jobs, messages, rows of messages, mail, numbers. -/
import Derived.Test.YtbmjmpojabbegaaLawFold
import Derived.Test.YtbmjmpojabbegaaOpenRow
namespace Go.Proofs.Ytbmjmpojabbegaa
open Go.RowKit Go.WideShapes Go.ChangeShapes

section
variable {P : Program} {H : Type} {enc : TypeId × Value → H} {t : TypeId} {W : World}
theorem one_of_drop {cs : List Value} {i : Nat} {v : Value} (h : cs[i]? = some v) : (cs.drop i).take 1 = [v] := by
  obtain ⟨hlt, rfl⟩ := List.getElem?_eq_some_iff.1 h
  rw [List.drop_eq_getElem_cons hlt]
  rfl
theorem struct_int {fs : Array Field} {n : Nat} {cs : List Value} {x : DataW H × List MemPlace} (ht : P.underlying t = some (.struct fs)) (h : DataW.trod enc P W 0 (fun _ => true) true n t cs = some x) (i : Nat) (f : Field) (hi : fs[i]? = some f) {k : IntKind}
    (hu : P.underlying f.type = some (.int k)) (hc : P.cellsOf f.type = 1) {v : Value} (hv : cs[f.offset]? = some v) : ∃ z, v = .int k z ∧ (Lit.int k z).wf = true := by
  obtain ⟨xs, m, _, _, hl, hlen, hf⟩ := DataW.trod_struct ht h
  have := hf i f hi
  rw [hc, one_of_drop hv, List.getElem?_eq_getElem (by rw [hlen]; exact (Array.getElem?_eq_some_iff.1 hi).1)] at this
  obtain ⟨z, h1, _, h2⟩ := DataW.trod_int hu this
  injection h1 with h1 _
  exact ⟨z, h1, h2⟩
theorem struct_bool {fs : Array Field} {n : Nat} {cs : List Value} {x : DataW H × List MemPlace} (ht : P.underlying t = some (.struct fs)) (h : DataW.trod enc P W 0 (fun _ => true) true n t cs = some x) (i : Nat) (f : Field) (hi : fs[i]? = some f)
    (hu : P.underlying f.type = some .bool) (hc : P.cellsOf f.type = 1) {v : Value} (hv : cs[f.offset]? = some v) : ∃ z, v = .bool z := by
  obtain ⟨xs, m, _, _, hl, hlen, hf⟩ := DataW.trod_struct ht h
  have := hf i f hi
  rw [hc, one_of_drop hv, List.getElem?_eq_getElem (by rw [hlen]; exact (Array.getElem?_eq_some_iff.1 hi).1)] at this
  obtain ⟨z, h1, _⟩ := DataW.trod_bool hu this
  injection h1 with h1 _
  exact ⟨z, h1⟩
end
theorem array5 {α : Type} {cs : Array α} (h : cs.size = 5) : ∃ c0 c1 c2 c3 c4, cs = #[c0, c1, c2, c3, c4] := by
  obtain ⟨l⟩ := cs
  match l, h with
  | [c0, c1, c2, c3, c4], _ => exact ⟨c0, c1, c2, c3, c4, rfl⟩
theorem list2 {α : Type} {cs : List α} (h : cs.length = 2) : ∃ c0 c1, cs = [c0, c1] := by
  match cs, h with
  | [c0, c1], _ => exact ⟨c0, c1, rfl⟩
theorem list1 {α : Type} {cs : List α} (h : cs.length = 1) : ∃ c0, cs = [c0] := by
  match cs, h with
  | [c0], _ => exact ⟨c0, rfl⟩
theorem Rs.of_each {α : Type} {enc : α → List Value} {k : Nat} (hk : ∀ a, (enc a).length = k) {w : World} {b o : Nat} {l : List α} (hb : b < w.heap.size) (h : ∀ i a, l[i]? = some a → ∀ j, j < k → w.cell? ⟨b, o + i * k + j, none⟩ = (enc a)[j]?) : Rs enc k w (some ⟨b, o, none⟩) l := by
  refine ⟨rcs_length hk l, fun _ => ⟨b, o, rfl, hb, fun j u hu => ?_⟩⟩
  have hlt := (List.getElem?_eq_some_iff.1 hu).1
  rw [rcs_length hk] at hlt
  have hk0 : 0 < k := by
    rcases Nat.eq_zero_or_pos k with h0 | h0
    · subst h0; omega
    · exact h0
  have hi : j / k < l.length := Nat.div_lt_of_lt_mul (by rw [Nat.mul_comm]; exact hlt)
  have hr := Nat.mod_lt j hk0
  have e : j = j / k * k + j % k := by rw [Nat.mul_comm]; exact (Nat.div_add_mod j k).symm
  have h1 := h (j / k) _ (List.getElem?_eq_getElem hi) (j % k) hr
  rw [← rcs_get hk (List.getElem?_eq_getElem hi) hr, ← e, Nat.add_assoc, ← e, hu] at h1
  exact h1
theorem cellsJ : Try.prog.cellsOf 23 = 5 := by kernel_rfl
theorem cellsM : Try.prog.cellsOf 29 = 2 := by kernel_rfl
theorem cellsL : Try.prog.cellsOf 43 = 2 := by kernel_rfl
theorem cellsI : Try.prog.cellsOf 3 = 1 := by kernel_rfl
theorem cellsI64 : Try.prog.cellsOf 2 = 1 := by kernel_rfl
theorem cellsU8 : Try.prog.cellsOf 5 = 1 := by kernel_rfl
theorem cellsBo : Try.prog.cellsOf 4 = 1 := by kernel_rfl
theorem cellsR : Try.prog.cellsOf 24 = 1 := by kernel_rfl
theorem cellsMp : 0 < Try.prog.cellsOf 29 := Nat.lt_of_lt_of_eq (Nat.zero_lt_succ 1) cellsM.symm
theorem cellsLp : 0 < Try.prog.cellsOf 43 := Nat.lt_of_lt_of_eq (Nat.zero_lt_succ 1) cellsL.symm
theorem cellsIp : 0 < Try.prog.cellsOf 3 := Nat.lt_of_lt_of_eq (Nat.zero_lt_succ 0) cellsI.symm
theorem cellsRp : 0 < Try.prog.cellsOf 24 := Nat.lt_of_lt_of_eq (Nat.zero_lt_succ 0) cellsR.symm
section
variable {H : Type} {enc : TypeId × Value → H} {W : World} {base : Nat} {v : Value} {d : DataW H} {ps : List MemPlace}
set_option maxRecDepth 100000 in
theorem open_job (hv : Value.okWide Try.prog W .any base 23 v) (h : DataW.Trod enc Try.prog W 0 (fun _ => true) true 23 v d ps) :
    ∃ k s o d' e : Int, v = .agg #[.int .u8 k, .int .i64 s, .int .i64 o, .int .i64 d', .int .i64 e] ∧ (Lit.int .u8 k).wf = true := by
  obtain ⟨cs, rfl, hsz⟩ := okWide_struct Try.underlying23 hv
  rw [cellsJ] at hsz
  obtain ⟨c0, c1, c2, c3, c4, rfl⟩ := array5 hsz
  obtain ⟨n, hn⟩ := h
  obtain ⟨k, rfl, hw⟩ := struct_int Try.underlying23 hn 0 _ rfl Try.underlying5 cellsU8 (v := c0) rfl
  obtain ⟨s, rfl, _⟩ := struct_int Try.underlying23 hn 1 _ rfl Try.underlying3 cellsI (v := c1) rfl
  obtain ⟨o, rfl, _⟩ := struct_int Try.underlying23 hn 2 _ rfl Try.underlying3 cellsI (v := c2) rfl
  obtain ⟨d', rfl, _⟩ := struct_int Try.underlying23 hn 3 _ rfl Try.underlying2 cellsI64 (v := c3) rfl
  obtain ⟨e, rfl, _⟩ := struct_int Try.underlying23 hn 4 _ rfl Try.underlying2 cellsI64 (v := c4) rfl
  exact ⟨k, s, o, d', e, rfl, hw⟩
theorem msgs_of {A : Option Addr} {len : Nat} (hr : len = 0 ∨ ∃ b o, A = some ⟨b, o, none⟩ ∧ b < W.heap.size ∧
      ∀ i, i < len → ∃ cs' m y, cs'.length = Try.prog.cellsOf 29 ∧ (∀ j, j < Try.prog.cellsOf 29 → W.cell? ⟨b, o + i * Try.prog.cellsOf 29 + j, none⟩ = cs'[j]?) ∧ DataW.trod enc Try.prog W 0 (fun _ => true) true m 29 cs' = some y) :
    ∃ l : List (Int × Int), l.length = len ∧ Rs msgC 2 W A l ∧ ∀ x ∈ l, (Lit.int .i64 x.1).wf = true := by
  rcases hr with rfl | ⟨b, o, rfl, hb, hx⟩
  · exact ⟨[], rfl, Rs.nil' _, by simp⟩
  · rw [cellsM] at hx
    have each : ∀ i, i < len → ∃ m : Int × Int, (∀ j, j < 2 → W.cell? ⟨b, o + i * 2 + j, none⟩ = (msgC m)[j]?) ∧ (Lit.int .i64 m.1).wf = true := by
      intro i hi
      obtain ⟨cs, m, y, hl, hc, ht⟩ := hx i hi
      obtain ⟨c0, c1, rfl⟩ := list2 hl
      obtain ⟨a, rfl, hw⟩ := struct_int Try.underlying29 ht 0 _ rfl Try.underlying3 cellsI (v := c0) rfl
      obtain ⟨e, rfl, _⟩ := struct_int Try.underlying29 ht 1 _ rfl Try.underlying2 cellsI64 (v := c1) rfl
      exact ⟨(a, e), hc, hw⟩
    obtain ⟨l, hl, hm⟩ := list_of_each each
    refine ⟨l, hl, Rs.of_each msgC_len hb fun i a ha => (hm i a ha).1, fun x hx => ?_⟩
    obtain ⟨i, hi, rfl⟩ := List.mem_iff_getElem.1 hx
    exact (hm i _ (List.getElem?_eq_getElem hi)).2
theorem open_msgs (hv : Value.okWide Try.prog W .any base 24 v) (h : DataW.Trod enc Try.prog W 0 (fun _ => true) true 24 v d ps) :
    ∃ (A : Option Addr) (l : List (Int × Int)) (c : Nat), v = .slice A l.length c ∧ l.length ≤ c ∧ c ≤ maxLen ∧ Rs msgC 2 W A l ∧ ∀ x ∈ l, (Lit.int .i64 x.1).wf = true := by
  obtain ⟨A, len, c, rfl, h1, h2, hr⟩ := open_row Try.underlying24 cellsMp hv h
  obtain ⟨l, rfl, hR, hw⟩ := msgs_of hr
  exact ⟨A, l, c, rfl, h1, h2, hR, hw⟩
theorem open_ints_ (hv : Value.okWide Try.prog W .any base 34 v) (h : DataW.Trod enc Try.prog W 0 (fun _ => true) true 34 v d ps) :
    ∃ (A : Option Addr) (l : List Int) (c : Nat), v = .slice A l.length c ∧ l.length ≤ c ∧ c ≤ maxLen ∧ Rs intC 1 W A l ∧ ∀ x ∈ l, (Lit.int .i64 x).wf = true := by
  obtain ⟨A, len, c, rfl, h1, h2, hr⟩ := open_row Try.underlying34 cellsIp hv h
  rcases hr with rfl | ⟨b, o, rfl, hb, hx⟩
  · exact ⟨A, [], c, rfl, h1, h2, Rs.nil' _, by simp⟩
  · rw [cellsI] at hx
    have each : ∀ i, i < len → ∃ m : Int, (∀ j, j < 1 → W.cell? ⟨b, o + i * 1 + j, none⟩ = (intC m)[j]?) ∧ (Lit.int .i64 m).wf = true := by
      intro i hi
      obtain ⟨cs, m, y, hl, hc, ht⟩ := hx i hi
      obtain ⟨c0, rfl⟩ := list1 hl
      obtain ⟨a, e, _, hw⟩ := DataW.trod_int Try.underlying3 ht
      injection e with e _
      subst e
      exact ⟨a, hc, hw⟩
    obtain ⟨l, rfl, hm⟩ := list_of_each each
    refine ⟨_, l, c, rfl, h1, h2, Rs.of_each intC_len hb fun i a ha => (hm i a ha).1, fun x hx => ?_⟩
    obtain ⟨i, hi, rfl⟩ := List.mem_iff_getElem.1 hx
    exact (hm i _ (List.getElem?_eq_getElem hi)).2
theorem open_mails (hv : Value.okWide Try.prog W .any base 35 v) (h : DataW.Trod enc Try.prog W 0 (fun _ => true) true 35 v d ps) :
    ∃ (A : Option Addr) (l : List (Bool × Int)) (c : Nat), v = .slice A l.length c ∧ l.length ≤ c ∧ c ≤ maxLen ∧ Rs mailC 2 W A l := by
  obtain ⟨A, len, c, rfl, h1, h2, hr⟩ := open_row Try.underlying35 cellsLp hv h
  rcases hr with rfl | ⟨b, o, rfl, hb, hx⟩
  · exact ⟨A, [], c, rfl, h1, h2, Rs.nil' _⟩
  · rw [cellsL] at hx
    have each : ∀ i, i < len → ∃ m : Bool × Int, ∀ j, j < 2 → W.cell? ⟨b, o + i * 2 + j, none⟩ = (mailC m)[j]? := by
      intro i hi
      obtain ⟨cs, m, y, hl, hc, ht⟩ := hx i hi
      obtain ⟨c0, c1, rfl⟩ := list2 hl
      obtain ⟨a, rfl⟩ := struct_bool Try.underlying43 ht 0 _ rfl Try.underlying4 cellsBo (v := c0) rfl
      obtain ⟨e, rfl, _⟩ := struct_int Try.underlying43 ht 1 _ rfl Try.underlying2 cellsI64 (v := c1) rfl
      exact ⟨(a, e), hc⟩
    obtain ⟨l, rfl, hm⟩ := list_of_each each
    exact ⟨_, l, c, rfl, h1, h2, Rs.of_each mailC_len hb fun i a ha => hm i a ha⟩
theorem open_rows (hv : Value.okWide Try.prog W .any base 31 v) (h : DataW.Trod enc Try.prog W 0 (fun _ => true) true 31 v d ps) :
    ∃ (A : Option Addr) (L : List (List (Int × Int))) (c : Nat), v = .slice A L.length c ∧ L.length ≤ c ∧ c ≤ maxLen ∧ RsRs W A L ∧ ∀ l ∈ L, ∀ x ∈ l, (Lit.int .i64 x.1).wf = true := by
  obtain ⟨A, len, c, rfl, h1, h2, hr⟩ := open_row Try.underlying31 cellsRp hv h
  rcases hr with rfl | ⟨b, o, rfl, hb, hx⟩
  · exact ⟨A, [], c, rfl, h1, h2, ⟨[], Sl.nil' _, by simp⟩, by simp⟩
  · rw [cellsR] at hx
    have each : ∀ i, i < len → ∃ m : Value × List (Int × Int), (∃ A' c', m.1 = .slice A' m.2.length c' ∧ m.2.length ≤ c' ∧ Rs msgC 2 W A' m.2) ∧ W.cell? ⟨b, o + i, none⟩ = some m.1 ∧ ∀ x ∈ m.2, (Lit.int .i64 x.1).wf = true := by
      intro i hi
      obtain ⟨cs, m, y, hl, hc, ht⟩ := hx i hi
      obtain ⟨A', len', c', rfl, g1, g2, hr'⟩ := open_row_cells Try.underlying24 cellsMp ht
      obtain ⟨l, rfl, hR, hw⟩ := msgs_of hr'
      have h0 := hc 0 (by omega)
      rw [Nat.mul_one, Nat.add_zero] at h0
      exact ⟨(.slice A' l.length c', l), ⟨A', c', rfl, g1, hR⟩, h0, hw⟩
    obtain ⟨ms, hl, hm⟩ := list_of_each each
    subst hl
    refine ⟨_, ms.map (·.2), c, by rw [List.length_map], by rw [List.length_map]; exact h1, h2, ⟨ms.map (·.1), ?_, fun i l hl => ?_⟩, fun l hl x hx' => ?_⟩
    · refine ⟨by simp, fun _ => ⟨b, o, rfl, hb, fun j u hu => ?_⟩⟩
      rw [List.getElem?_map] at hu
      cases he : ms[j]? with
      | none => rw [he] at hu; cases hu
      | some m =>
        rw [he] at hu
        injection hu with hu
        subst hu
        exact (hm j m he).2.1
    · rw [List.getElem?_map] at hl
      cases he : ms[i]? with
      | none => rw [he] at hl; cases hl
      | some m =>
        rw [he] at hl
        injection hl with hl
        subst hl
        obtain ⟨A', c', e, g1, hR⟩ := (hm i m he).1
        exact ⟨A', c', by rw [List.getElem?_map, he, ← e]; rfl, g1, hR⟩
    · obtain ⟨m, hmm, rfl⟩ := List.mem_map.1 hl
      obtain ⟨i, hi, rfl⟩ := List.mem_iff_getElem.1 hmm
      exact (hm i _ (List.getElem?_eq_getElem hi)).2.2 x hx'
end
end Go.Proofs.Ytbmjmpojabbegaa
