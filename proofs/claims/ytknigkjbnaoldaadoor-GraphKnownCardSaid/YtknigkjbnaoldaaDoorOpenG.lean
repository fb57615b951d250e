/- A law's arguments: what a call that writes only new memory leaves of them; []byte arguments. A slice argument, opened: its cells, element by element. Arguments of layer 4, opened: a graph. -/
import Derived.Test.YtknigkjbnaoldaaDoorMem
import Derived.WideKeyArgs
import Derived.WideShapes
import Derived.ProofKit
import Derived.OpenShut
import Derived.KernelRfl
import Derived.Deep.Slices
import Derived.Test.YtknigkjbnaoldaaDoorGrA
namespace Go.Proofs.YtknigkjbnaoldaaDoor
open Go.RowKit Go.WideShapes Go.ChangeShapes

theorem same_of_below {W W' : World} (hb : Below W.heap.size W W') {p : MemPlace} (hp : p.block < W.heap.size) : W.sameAt W' p := by
  cases p with
  | cell b off => exact hb.cell (p := ⟨b, off, none⟩) hp
  | map b => exact hb.block b hp
section
variable {H : Type} {enc : TypeId × Value → H} {P : Program}
theorem trodAll_stays (hl : laidOutB P = true) {W W' : World} {sp' : Nat → Bool} : ∀ (ts : List TypeId) (vs : List Value) (ds : List (DataW H)) (ps : List MemPlace), DataW.TrodAll enc P W 0 (fun _ => true) true ts vs ds ps →
    (∀ t ∈ ts, P.readableRec t = true ∧ t < P.types.size) → (∀ p ∈ ps, W.sameAt W' p) → (∀ p ∈ ps, sp' p.block = true) → DataW.TrodAll enc P W' 0 sp' true ts vs ds ps := by
  intro ts
  induction ts with
  | nil =>
    intro vs ds ps h _ _ _
    obtain ⟨rfl, rfl, rfl⟩ := trodAll_nil h
    exact trodAll_mk0
  | cons t ts ih =>
    intro vs ds ps h hr hs hp
    obtain ⟨v, vs', d, ds', p, q, rfl, rfl, rfl, h0, h1⟩ := trodAll_cons h
    exact trodAll_cons_mk (WideElems.Trod_stays hl (hr t (by simp)).1 (hr t (by simp)).2 h0 (fun x hx => hs x (List.mem_append_left _ hx)) (fun x hx => hp x (List.mem_append_left _ hx)))
      (ih _ _ _ h1 (fun u hu => hr u (List.mem_cons_of_mem _ hu)) (fun x hx => hs x (List.mem_append_right _ hx)) (fun x hx => hp x (List.mem_append_right _ hx)))
/-- a law answers true, and its arguments read as they did -/
theorem law_post {f : Func} {s : ChangeSpec} {W W' : World} {args : Array Value} {ds : List (DataW H)} {ps : List MemPlace} {tb : TypeId} (hl : laidOutB P = true) (hvars : s.vars = [])
    (hW : DataW.Whole enc P f.params.toList s.vars false W args.toList ds [] ps) (hA : DataW.TrodAll enc P W 0 (fun _ => true) true f.params.toList args.toList ds ps)
    (hr : ∀ t ∈ f.params.toList, P.readableRec t = true ∧ t < P.types.size) (hres : f.resultTypes = #[tb]) (htb : P.underlying tb = some .bool) (hfn : s.fn H (ds ++ []) = { results := [.lit (.bool true)], args := ds })
    (hb : Below W.heap.size W W') : s.post enc P f false true false false W args (.bool true) W' := by
  have hlt : ∀ p ∈ ps, p.block < W.heap.size := fun p hp => hW.lt p hp
  have hsame : ∀ p ∈ ps, W.sameAt W' p := fun p hp => same_of_below hb (hlt p hp)
  refine post_of_below (pa := ps) (pv := []) hW ?_ ?_ ?_ (by simp) hb ?_
  · intro b sp hd
    rw [hfn, hres]
    exact trodAll_cons_mk (shut_bool htb true) trodAll_mk0
  · intro sp hsp
    rw [hfn]
    exact trodAll_stays hl _ _ _ _ hA hr hsame hsp
  · intro sp hsp
    rw [hfn, hvars]
    rfl
  · exact ok_one hres rfl (okWide_bool_mk htb true)
end
/-- a []byte argument -/
theorem open_btr {P : Program} {H : Type} {enc : TypeId × Value → H} {t e : TypeId} (ht : P.underlying t = some (.slice e)) (he : P.underlying e = some (.int .u8)) (hc : P.cellsOf e = 1) {W : World} {base : Nat} {v : Value} {d : DataW H} {ps : List MemPlace}
    (hv : Value.okWide P W .any base t v) (h : DataW.Trod enc P W 0 (fun _ => true) true t v d ps) :
    ∃ (A : Option Addr) (l : List UInt8) (c : Nat), v = .slice A l.length c ∧ l.length ≤ c ∧ c ≤ maxLen ∧ (0 < l.length → ∃ ad, A = some ad ∧ ad.block < W.heap.size ∧ ∀ j (hj : j < l.length), W.cell? (ad.add j) = some (.int .u8 (l[j].toNat : Int))) := by
  obtain ⟨a0, len0, cap0, rfl⟩ := okWide_slice ht hv
  obtain ⟨n, hn⟩ := h
  rcases open_ints ht he hc hn with ⟨hcs, _⟩ | ⟨a, len, cap, zs, hcs, _, hl, hm, hz, _, hcell, hw⟩
  · simp [Value.cells] at hcs
    obtain ⟨rfl, rfl, rfl⟩ := hcs
    exact ⟨none, [], 0, rfl, Nat.le_refl _, Nat.zero_le _, fun h => absurd h (by simp)⟩
  · simp [Value.cells] at hcs
    obtain ⟨rfl, rfl, rfl⟩ := hcs
    simp only [if_true] at hz
    have hlen : ((zs.take len0).map fun z => UInt8.ofNat z.toNat).length = len0 := by rw [List.length_map, List.length_take]; omega
    refine ⟨some a, (zs.take len0).map fun z => UInt8.ofNat z.toNat, cap0, by rw [hlen], by rw [hlen]; exact hl, hm, fun h0 => ⟨a, rfl, ?_, fun j hj => ?_⟩⟩
    · have := hcell 0 (by rw [hlen] at h0; omega)
      have h1 := World.block_lt_of_cell? _ _ this
      rw [block_of_add] at h1
      exact h1
    · have hj' : j < len0 := by rw [hlen] at hj; exact hj
      rw [hcell j (by omega)]
      have hwj := bounds_u8 (hw (zs.getD j 0) (by rw [List.getD_eq_getElem?_getD, List.getElem?_eq_getElem (by omega)]; exact List.getElem_mem _))
      have e1 : (((zs.take len0).map fun z => UInt8.ofNat z.toNat)[j]).toNat = (zs.getD j 0).toNat := by
        rw [List.getElem_map, List.getElem_take, UInt8.toNat_ofNat']
        have e2 : zs.getD j 0 = zs[j] := by rw [List.getD_eq_getElem?_getD, List.getElem?_eq_getElem (by omega)]; rfl
        rw [e2] at hwj ⊢
        omega
      rw [e1, Int.toNat_of_nonneg hwj.1]
end Go.Proofs.YtknigkjbnaoldaaDoor
namespace Go.Proofs.YtknigkjbnaoldaaDoor
open Go.RowKit Go.WideShapes Go.ChangeShapes

theorem cell_spot {W : World} {a : Addr} {v : Value} (h : W.cell? a = some v) : a.spot = none ∧ a.block < W.heap.size := by
  refine ⟨?_, World.block_lt_of_cell? _ _ h⟩
  unfold World.cell? at h
  split at h
  · split at h
    · cases h
    · rename_i hs
      cases hsp : a.spot with
      | none => rfl
      | some _ => rw [hsp] at hs; simp at hs
  · cases h
section
variable {P : Program} {H : Type} {enc : TypeId × Value → H} {t e : TypeId} {W : World}
theorem open_row_cells (ht : P.underlying t = some (.slice e)) (hk : 0 < P.cellsOf e) {n : Nat} {cs : List Value} {x : DataW H × List MemPlace} (hn : DataW.trod enc P W 0 (fun _ => true) true n t cs = some x) :
    ∃ (A : Option Addr) (len c : Nat), cs = [.slice A len c] ∧ len ≤ c ∧ c ≤ maxLen ∧ (len = 0 ∨ ∃ b o, A = some ⟨b, o, none⟩ ∧ b < W.heap.size ∧
      ∀ i, i < len → ∃ cs' m y, cs'.length = P.cellsOf e ∧ (∀ j, j < P.cellsOf e → W.cell? ⟨b, o + i * P.cellsOf e + j, none⟩ = cs'[j]?) ∧ DataW.trod enc P W 0 (fun _ => true) true m e cs' = some y) := by
  rcases Go.Deep.open_slice ht hn with ⟨hcs, _⟩ | ⟨a, len, cap, m, n', D, Pl, hcs, _, hl, hm, hmm, _, hx⟩
  · exact ⟨none, 0, 0, hcs, Nat.le_refl _, Nat.zero_le _, .inl rfl⟩
  · simp only [if_true] at hmm
    subst hmm
    refine ⟨some a, len, m, hcs, hl, hm, ?_⟩
    rcases Nat.eq_zero_or_pos len with h0 | h0
    · exact .inl h0
    · right
      obtain ⟨cs0, h1, _⟩ := hx 0 (by omega)
      obtain ⟨_, hlen, hcell⟩ := World.cells?_some h1
      have hc0 := hcell 0 hk
      rw [List.getElem?_eq_getElem (by omega)] at hc0
      have ha : (a.add (0 * P.cellsOf e)).add 0 = a := by simp [Addr.add]
      rw [ha] at hc0
      obtain ⟨hs, hb⟩ := cell_spot hc0
      obtain ⟨b, o, sp⟩ := a
      simp only at hs
      subst hs
      refine ⟨b, o, rfl, hb, fun i hi => ?_⟩
      obtain ⟨cs', h1, h2⟩ := hx i (by omega)
      obtain ⟨_, hlen, hcell⟩ := World.cells?_some h1
      refine ⟨cs', n', _, hlen, fun j hj => ?_, h2⟩
      rw [← hcell j hj]
      congr 1
      unfold Addr.add
      split <;> split <;> simp_all <;> omega
theorem open_row (ht : P.underlying t = some (.slice e)) (hk : 0 < P.cellsOf e) {base : Nat} {v : Value} {d : DataW H} {ps : List MemPlace} (hv : Value.okWide P W .any base t v) (h : DataW.Trod enc P W 0 (fun _ => true) true t v d ps) :
    ∃ (A : Option Addr) (len c : Nat), v = .slice A len c ∧ len ≤ c ∧ c ≤ maxLen ∧ (len = 0 ∨ ∃ b o, A = some ⟨b, o, none⟩ ∧ b < W.heap.size ∧
      ∀ i, i < len → ∃ cs' m y, cs'.length = P.cellsOf e ∧ (∀ j, j < P.cellsOf e → W.cell? ⟨b, o + i * P.cellsOf e + j, none⟩ = cs'[j]?) ∧ DataW.trod enc P W 0 (fun _ => true) true m e cs' = some y) := by
  obtain ⟨a0, len0, cap0, rfl⟩ := okWide_slice ht hv
  obtain ⟨n, hn⟩ := h
  obtain ⟨A, len, c, hcs, hr⟩ := open_row_cells ht hk hn
  simp [Value.cells] at hcs
  obtain ⟨rfl, rfl, rfl⟩ := hcs
  exact ⟨_, _, _, rfl, hr⟩
end
/-- what each index has, as a list -/
theorem list_of_each {α : Type} {n : Nat} {p : Nat → α → Prop} (h : ∀ i, i < n → ∃ x, p i x) : ∃ l : List α, l.length = n ∧ ∀ i x, l[i]? = some x → p i x := by
  induction n with
  | zero => exact ⟨[], rfl, by simp⟩
  | succ n ih =>
    obtain ⟨l, hl, hp⟩ := ih fun i hi => h i (by omega)
    obtain ⟨x, hx⟩ := h n (by omega)
    refine ⟨l ++ [x], by simp [hl], fun i y hy => ?_⟩
    rw [List.getElem?_append] at hy
    split at hy
    · exact hp i y hy
    · rw [List.getElem?_singleton] at hy
      split at hy
      · injection hy with hy; subst hy
        obtain rfl : i = n := by omega
        exact hx
      · cases hy
end Go.Proofs.YtknigkjbnaoldaaDoor
namespace Go.Proofs.YtknigkjbnaoldaaDoor
open Go.RowKit Go.WideShapes Go.ChangeShapes

section
variable {P : Program} {H : Type} {enc : TypeId × Value → H} {t : TypeId} {W : World}
theorem one_of_drop {cs : List Value} {i : Nat} {v : Value} (h : cs[i]? = some v) : (cs.drop i).take 1 = [v] := by
  obtain ⟨hlt, rfl⟩ := List.getElem?_eq_some_iff.1 h
  rw [List.drop_eq_getElem_cons hlt]
  rfl
theorem struct_at {fs : Array Field} {n : Nat} {cs : List Value} {x : DataW H × List MemPlace} (ht : P.underlying t = some (.struct fs)) (h : DataW.trod enc P W 0 (fun _ => true) true n t cs = some x) (i : Nat) (f : Field) (hi : fs[i]? = some f)
    (hc : P.cellsOf f.type = 1) {v : Value} (hv : cs[f.offset]? = some v) : ∃ m y, DataW.trod enc P W 0 (fun _ => true) true m f.type [v] = some y := by
  obtain ⟨xs, m, _, _, hl, hlen, hf⟩ := DataW.trod_struct ht h
  have := hf i f hi
  rw [hc, one_of_drop hv, List.getElem?_eq_getElem (by rw [hlen]; exact (Array.getElem?_eq_some_iff.1 hi).1)] at this
  exact ⟨m, _, this⟩
theorem struct_int {fs : Array Field} {n : Nat} {cs : List Value} {x : DataW H × List MemPlace} (ht : P.underlying t = some (.struct fs)) (h : DataW.trod enc P W 0 (fun _ => true) true n t cs = some x) (i : Nat) (f : Field) (hi : fs[i]? = some f) {k : IntKind}
    (hu : P.underlying f.type = some (.int k)) (hc : P.cellsOf f.type = 1) {v : Value} (hv : cs[f.offset]? = some v) : ∃ z, v = .int k z ∧ (Lit.int k z).wf = true := by
  obtain ⟨m, y, this⟩ := struct_at ht h i f hi hc hv
  obtain ⟨z, h1, _, h2⟩ := DataW.trod_int hu this
  injection h1 with h1 _
  exact ⟨z, h1, h2⟩
end
theorem array2 {α : Type} {cs : Array α} (h : cs.size = 2) : ∃ c0 c1, cs = #[c0, c1] := by
  obtain ⟨l⟩ := cs
  match l, h with
  | [c0, c1], _ => exact ⟨c0, c1, rfl⟩
theorem list3 {α : Type} {cs : List α} (h : cs.length = 3) : ∃ c0 c1 c2, cs = [c0, c1, c2] := by
  match cs, h with
  | [c0, c1, c2], _ => exact ⟨c0, c1, c2, rfl⟩
theorem Rs.of_each {α : Type} {enc : α → List Value} {k : Nat} (hk : ∀ a, (enc a).length = k) {w : World} {b o : Nat} {l : List α} (hb : b < w.heap.size) (h : ∀ i a, l[i]? = some a → ∀ j, j < k → w.cell? ⟨b, o + i * k + j, none⟩ = (enc a)[j]?) : Rs enc k w (some ⟨b, o, none⟩) l := by
  refine ⟨rcs_length hk l, fun _ => ⟨b, o, rfl, hb, fun j u hu => ?_⟩⟩
  have hlt := (List.getElem?_eq_some_iff.1 hu).1
  rw [rcs_length hk] at hlt
  have hk0 : 0 < k := by
    rcases Nat.eq_zero_or_pos k with h0 | h0
    · subst h0; omega
    · exact h0
  have hi : j / k < l.length := Nat.div_lt_of_lt_mul (by rw [Nat.mul_comm]; exact hlt)
  have hr := Nat.mod_lt j hk0
  have e : j = j / k * k + j % k := by rw [Nat.mul_comm]; exact (Nat.div_add_mod j k).symm
  have h1 := h (j / k) _ (List.getElem?_eq_getElem hi) (j % k) hr
  rw [← rcs_get hk (List.getElem?_eq_getElem hi) hr, ← e, Nat.add_assoc, ← e, hu] at h1
  exact h1
theorem cellsE : Tryd.prog.cellsOf 35 = 3 := by kernel_rfl
theorem cellsG : Tryd.prog.cellsOf 25 = 2 := by kernel_rfl
theorem cellsI : Tryd.prog.cellsOf 3 = 1 := by kernel_rfl
theorem cellsI64 : Tryd.prog.cellsOf 2 = 1 := by kernel_rfl
theorem cellsR : Tryd.prog.cellsOf 23 = 1 := by kernel_rfl
theorem cellsEp : 0 < Tryd.prog.cellsOf 35 := Nat.lt_of_lt_of_eq (Nat.zero_lt_succ 2) cellsE.symm
/-- an edge's numbers are numbers of 64 bits -/
def EdgIn (e : Edg) : Prop := (-9223372036854775808 ≤ e.1 ∧ e.1 ≤ 9223372036854775807) ∧ (-9223372036854775808 ≤ e.2.1 ∧ e.2.1 ≤ 9223372036854775807) ∧ (-9223372036854775808 ≤ e.2.2 ∧ e.2.2 ≤ 9223372036854775807)
section
variable {H : Type} {enc : TypeId × Value → H} {W : World} {base : Nat} {v : Value} {d : DataW H} {ps : List MemPlace}
theorem edges_of {A : Option Addr} {len : Nat} (hr : len = 0 ∨ ∃ b o, A = some ⟨b, o, none⟩ ∧ b < W.heap.size ∧
      ∀ i, i < len → ∃ cs' m y, cs'.length = Tryd.prog.cellsOf 35 ∧ (∀ j, j < Tryd.prog.cellsOf 35 → W.cell? ⟨b, o + i * Tryd.prog.cellsOf 35 + j, none⟩ = cs'[j]?) ∧ DataW.trod enc Tryd.prog W 0 (fun _ => true) true m 35 cs' = some y) :
    ∃ l : List Edg, l.length = len ∧ Rs edgC 3 W A l ∧ ∀ x ∈ l, EdgIn x := by
  rcases hr with rfl | ⟨b, o, rfl, hb, hx⟩
  · exact ⟨[], rfl, Rs.nil' _, by simp⟩
  · rw [cellsE] at hx
    have each : ∀ i, i < len → ∃ m : Edg, (∀ j, j < 3 → W.cell? ⟨b, o + i * 3 + j, none⟩ = (edgC m)[j]?) ∧ EdgIn m := by
      intro i hi
      obtain ⟨cs, m, y, hl, hc, ht⟩ := hx i hi
      obtain ⟨c0, c1, c2, rfl⟩ := list3 hl
      obtain ⟨a, rfl, h1⟩ := struct_int Tryd.underlying35 ht 0 _ rfl Tryd.underlying3 cellsI (v := c0) rfl
      obtain ⟨e, rfl, h2⟩ := struct_int Tryd.underlying35 ht 1 _ rfl Tryd.underlying3 cellsI (v := c1) rfl
      obtain ⟨g, rfl, h3⟩ := struct_int Tryd.underlying35 ht 2 _ rfl Tryd.underlying2 cellsI64 (v := c2) rfl
      exact ⟨(a, e, g), hc, bounds_i64 h1, bounds_i64 h2, bounds_i64 h3⟩
    obtain ⟨l, hl, hm⟩ := list_of_each each
    refine ⟨l, hl, Rs.of_each edgC_len hb fun i a ha => (hm i a ha).1, fun x hx => ?_⟩
    obtain ⟨i, hi, rfl⟩ := List.mem_iff_getElem.1 hx
    exact (hm i _ (List.getElem?_eq_getElem hi)).2
set_option maxRecDepth 100000 in
theorem open_graph (hv : Value.okWide Tryd.prog W .any base 25 v) (h : DataW.Trod enc Tryd.prog W 0 (fun _ => true) true 25 v d ps) :
    ∃ (n : Int) (A : Option Addr) (l : List Edg) (c : Nat), v = .agg #[.int .i64 n, .slice A l.length c] ∧ l.length ≤ c ∧ c ≤ maxLen ∧ Rs edgC 3 W A l ∧ (-9223372036854775808 ≤ n ∧ n ≤ 9223372036854775807) ∧ ∀ x ∈ l, EdgIn x := by
  obtain ⟨cs, rfl, hsz⟩ := okWide_struct Tryd.underlying25 hv
  rw [cellsG] at hsz
  obtain ⟨c0, c1, rfl⟩ := array2 hsz
  obtain ⟨n, hn⟩ := h
  obtain ⟨k, rfl, hw⟩ := struct_int Tryd.underlying25 hn 0 _ rfl Tryd.underlying3 cellsI (v := c0) rfl
  obtain ⟨m, y, hs⟩ := struct_at Tryd.underlying25 hn 1 _ rfl cellsR (v := c1) rfl
  obtain ⟨A, len, c, hcs, h1, h2, hr⟩ := open_row_cells Tryd.underlying23 cellsEp hs
  simp only [List.cons.injEq, and_true] at hcs
  subst hcs
  obtain ⟨l, rfl, hR, hw2⟩ := edges_of hr
  exact ⟨k, A, l, c, rfl, h1, h2, hR, bounds_i64 hw, hw2⟩
end
end Go.Proofs.YtknigkjbnaoldaaDoor
