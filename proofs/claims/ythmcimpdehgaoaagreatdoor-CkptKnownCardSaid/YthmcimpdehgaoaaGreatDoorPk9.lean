/- Slices of records: elements of k cells each, read as a list. Rows of one type stay where a row of another type grows. -/
import Derived.Test.YthmcimpdehgaoaaGreatDoorMem
import Derived.WalkKit
namespace Go.Proofs.YthmcimpdehgaoaaGreatDoor
open Go.RowKit

section
variable {α : Type}
/-- the cells of a list of records -/
def rcs (enc : α → List Value) (l : List α) : List Value := l.flatMap enc
variable {enc : α → List Value} {k : Nat}
theorem rcs_nil : rcs enc [] = [] := rfl
theorem rcs_append (l m : List α) : rcs enc (l ++ m) = rcs enc l ++ rcs enc m := by unfold rcs; rw [List.flatMap_append]
theorem rcs_one (a : α) : rcs enc [a] = enc a := by simp [rcs]
variable (hk : ∀ a, (enc a).length = k)
include hk
theorem rcs_length (l : List α) : (rcs enc l).length = l.length * k := by
  induction l with
  | nil => simp [rcs]
  | cons a l ih =>
    have : rcs enc (a :: l) = enc a ++ rcs enc l := by simp [rcs]
    rw [this, List.length_append, ih, hk, List.length_cons, Nat.add_mul]; omega
theorem rcs_take (l : List α) (i : Nat) : (rcs enc l).take (i * k) = rcs enc (l.take i) := by
  induction l generalizing i with
  | nil => simp [rcs]
  | cons a l ih =>
    have e : rcs enc (a :: l) = enc a ++ rcs enc l := by simp [rcs]
    cases i with
    | zero => simp [rcs]
    | succ i =>
      have e2 : rcs enc ((a :: l).take (i + 1)) = enc a ++ rcs enc (l.take i) := by simp [rcs]
      rw [e, e2, List.take_append, hk, Nat.add_mul, List.take_of_length_le (by rw [hk]; omega), show i * k + 1 * k - k = i * k by omega, ih]
theorem rcs_drop (l : List α) (i : Nat) : (rcs enc l).drop (i * k) = rcs enc (l.drop i) := by
  induction l generalizing i with
  | nil => simp [rcs]
  | cons a l ih =>
    have e : rcs enc (a :: l) = enc a ++ rcs enc l := by simp [rcs]
    cases i with
    | zero => simp [rcs]
    | succ i =>
      rw [e, List.drop_succ_cons, List.drop_append, hk, Nat.add_mul, List.drop_of_length_le (by rw [hk]; omega), show i * k + 1 * k - k = i * k by omega, ih]
      simp
theorem rcs_get {l : List α} {i : Nat} {a : α} (h : l[i]? = some a) {j : Nat} (hj : j < k) : (rcs enc l)[i * k + j]? = (enc a)[j]? := by
  have h1 : (rcs enc l)[i * k + j]? = ((rcs enc l).drop (i * k))[j]? := by rw [List.getElem?_drop]
  rw [h1, rcs_drop hk]
  have h2 : l.drop i = a :: l.drop (i + 1) := by
    have hlt := (List.getElem?_eq_some_iff.1 h).1
    rw [List.drop_eq_getElem_cons hlt]
    rw [List.getElem?_eq_getElem hlt] at h
    injection h with h; rw [h]
  rw [h2]
  have e : rcs enc (a :: l.drop (i + 1)) = enc a ++ rcs enc (l.drop (i + 1)) := by simp [rcs]
  rw [e, List.getElem?_append_left (by rw [hk]; exact hj)]
end
/-- a slice's cells, at a place that is written out -/
def Sl (w : World) (k : Nat) (A : Option Addr) (n : Nat) (xs : List Value) : Prop :=
  xs.length = n * k ∧ (0 < n → ∃ b o, A = some ⟨b, o, none⟩ ∧ b < w.heap.size ∧ ∀ j u, xs[j]? = some u → w.cell? ⟨b, o + j, none⟩ = some u)
theorem addr_add (b o j : Nat) : (⟨b, o, none⟩ : Addr).add j = ⟨b, o + j, none⟩ := by
  unfold Addr.add
  split
  · rename_i h; subst h; rfl
  · rfl
section
variable {w w' : World} {k n : Nat} {A : Option Addr} {xs : List Value}
theorem Sl.rd (h : Sl w k A n xs) : Rd w k A n xs :=
  ⟨h.1, fun hn => by
    obtain ⟨b, o, rfl, hb, hc⟩ := h.2 hn
    exact ⟨_, rfl, hb, fun j u hu => by rw [addr_add]; exact hc j u hu⟩⟩
theorem Sl.below (h : Sl w k A n xs) (hb : Below w.heap.size w w') : Sl w' k A n xs :=
  ⟨h.1, fun hn => by
    obtain ⟨b, o, e, hlt, hc⟩ := h.2 hn
    exact ⟨b, o, e, Nat.lt_of_lt_of_le hlt hb.size, fun j u hu => (hb.cell (p := ⟨b, o + j, none⟩) hlt).trans (hc j u hu)⟩⟩
theorem Sl.drewN (h : Sl w k A n xs) (q : Nat) : Sl (w.drewN q) k A n xs := h
theorem Sl.drew (h : Sl w k A n xs) : Sl w.drew k A n xs := h
theorem Sl.alloc (h : Sl w k A n xs) (o : Obj) : Sl (w.alloc o) k A n xs := h.below ((Below.refl _ _).alloc (Nat.le_refl _) o)
theorem Sl.nil' (A : Option Addr) : Sl w k A 0 [] := ⟨by simp, fun h => absurd h (by omega)⟩
theorem Sl.of_own {base : Nat} {e : TypeId} {c : Nat} (h : w.ownsRow base e k (.slice A n c) n xs) : Sl w k A n xs := by
  refine ⟨h.1, fun hn => ?_⟩
  obtain ⟨g, cap, hv, _, hlt⟩ := h.form hn
  have hA : A = some ⟨g, 0, none⟩ := by injection hv
  subst hA
  refine ⟨g, 0, rfl, hlt, fun j u hu => ?_⟩
  have := h.cells (g := g) rfl j u hu
  rw [addr_add] at this
  exact this
/-- a new block of cells -/
theorem Sl.new (w : World) (cs : List Value) (t : TypeId) (k n : Nat) (hl : cs.length = n * k) (g : Nat) (hg : w.heap.size = g) : Sl (w.alloc (.cells cs.toArray t)) k (some ⟨g, 0, none⟩) n cs := by
  refine ⟨hl, fun _ => ⟨g, 0, rfl, by simp [← hg], fun j u hu => ?_⟩⟩
  have := cells_new w cs t g hg j u hu
  rw [addr_add] at this
  exact this
end
/-- a slice of records -/
def Rs {α : Type} (enc : α → List Value) (k : Nat) (w : World) (A : Option Addr) (l : List α) : Prop := Sl w k A l.length (rcs enc l)
section
variable {α : Type} {enc : α → List Value} {k : Nat} {w w' : World} {A : Option Addr} {l : List α}
theorem Rs.below (h : Rs enc k w A l) (hb : Below w.heap.size w w') : Rs enc k w' A l := Sl.below h hb
theorem Rs.alloc (h : Rs enc k w A l) (o : Obj) : Rs enc k (w.alloc o) A l := Sl.alloc h o
theorem Rs.drewN (h : Rs enc k w A l) (q : Nat) : Rs enc k (w.drewN q) A l := h
theorem Rs.drew (h : Rs enc k w A l) : Rs enc k w.drew A l := h
theorem Rs.nil' (A : Option Addr) : Rs enc k w A [] := Sl.nil' A
theorem Rs.rd (h : Rs enc k w A l) : Rd w k A l.length (rcs enc l) := Sl.rd h
theorem Rs.of_own {base : Nat} {e : TypeId} {c : Nat} (h : w.ownsRow base e k (.slice A l.length c) l.length (rcs enc l)) : Rs enc k w A l := Sl.of_own h
/-- an element, its cells -/
theorem Rs.at_ (hk : ∀ a, (enc a).length = k) (h : Rs enc k w A l) {i : Nat} (hi : i < l.length) :
    ∃ b o a, A = some ⟨b, o, none⟩ ∧ b < w.heap.size ∧ l[i]? = some a ∧ ∀ j, j < k → w.cell? ⟨b, o + (i * k + j), none⟩ = (enc a)[j]? := by
  obtain ⟨b, o, hA, hb, hc⟩ := h.2 (by omega)
  refine ⟨b, o, l[i], hA, hb, List.getElem?_eq_getElem hi, fun j hj => ?_⟩
  have h1 := rcs_get hk (List.getElem?_eq_getElem hi) hj
  have h2 : j < (enc l[i]).length := by rw [hk]; exact hj
  rw [List.getElem?_eq_getElem h2] at h1 ⊢
  exact hc _ _ h1
/-- the cut ones -/
theorem Rs.take (hk : ∀ a, (enc a).length = k) (h : Rs enc k w A l) (i : Nat) : Rs enc k w A (l.take i) := by
  refine ⟨rcs_length hk _, fun hn => ?_⟩
  obtain ⟨b, o, hA, hb, hc⟩ := h.2 (by rw [List.length_take] at hn; omega)
  refine ⟨b, o, hA, hb, fun j u hu => hc j u ?_⟩
  rw [← rcs_take hk, List.getElem?_take] at hu
  split at hu
  · exact hu
  · cases hu
theorem Rs.drop (hk : ∀ a, (enc a).length = k) {b o : Nat} (h : Rs enc k w (some ⟨b, o, none⟩) l) (i : Nat) : Rs enc k w (some ⟨b, o + i * k, none⟩) (l.drop i) := by
  refine ⟨rcs_length hk _, fun hn => ?_⟩
  obtain ⟨b', o', hA, hb, hc⟩ := h.2 (by rw [List.length_drop] at hn; omega)
  injection hA with hA
  injection hA with h1 h2 _
  subst h1 h2
  refine ⟨_, _, rfl, hb, fun j u hu => ?_⟩
  rw [← rcs_drop hk, List.getElem?_drop] at hu
  have := hc _ u hu
  rwa [Nat.add_assoc]
end
theorem own_parts {w : World} {b : Nat} {e : TypeId} {size n : Nat} {v : Value} {xs : List Value} (h : w.ownsRow b e size v n xs) : ∃ A c, v = .slice A n c ∧ n ≤ c := by
  rcases h.2 with ⟨h, h0⟩ | ⟨_, cap, _, h, _, _, hc, _⟩
  · exact ⟨none, 0, by rw [h, h0], by omega⟩
  · exact ⟨_, cap, h, hc⟩
theorem take_snoc_ {α : Type} {l : List α} {i : Nat} {x : α} (h : l[i]? = some x) : l.take (i + 1) = l.take i ++ [x] := by rw [List.take_add_one, h]; rfl
theorem below_eta {B : Nat} {a b b' : World} (h : Below B a b) (h1 : b'.os = b.os) (h2 : b'.tape = b.tape) (h3 : b'.output = b.output) (h4 : b'.heap = b.heap) : Below B a b' :=
  ⟨h1.trans h.os, h2.trans h.tape, h3.trans h.output, by rw [h4]; exact h.size, fun i hi => by rw [h4]; exact h.block i hi⟩
theorem own_keep {w w' : World} {b : Nat} {e : TypeId} {size n : Nat} {v : Value} {xs : List Value} (h : w.ownsRow b e size v n xs) (hk : ∀ (g : Nat) cs fz, w.heap[g]? = some (.cells cs e fz) → w'.heap[g]? = w.heap[g]?) : w'.ownsRow b e size v n xs := by
  refine ⟨h.1, ?_⟩
  rcases h.2 with hn | ⟨g, cap, cur, hv, hb, hh, rest⟩
  · exact .inl hn
  · exact .inr ⟨g, cap, cur, hv, hb, (hk g cur _ hh).trans hh, rest⟩
theorem own_below {w w' : World} {b : Nat} {e : TypeId} {size n : Nat} {v : Value} {xs : List Value} (h : w.ownsRow b e size v n xs) (hb : Below w.heap.size w w') : w'.ownsRow b e size v n xs :=
  own_keep h fun g _ _ hh => hb.block g (Array.getElem?_eq_some_iff.1 hh).1
/-- append of a slice that reads as a list, onto a row of the call's own -/
theorem wpList_cat {P : Program} {ops : Array Oper} {rest : List Oper} {o : Oper} {a : Act} {Q : Exit → Act → World → Prop} (w0 : World) (hgd : o.guard = none) (s x : Operand) (t : TypeId)
    (ho : o.op = .call { callee := .builtin .append, args := #[s, x], argTypes := #[t, t] })
    (base : Nat) (e : TypeId) (i : TypeInfo) (z : Value) (size bytes : Nat) (ht : P.underlying t = some (.slice e)) (hi : P.info? e = some i) (hz : i.zero = some z)
    (hsize : i.size = size) (hby : i.bytes = bytes) (hzs : z.cells.size = size) (hsz : 0 < size) (hb128 : bytes ≤ 128)
    (v : Value) (n : Nat) (xs : List Value) (hs : a.eval s = v) (hown : Hid (w0.ownsRow base e size v n xs))
    (A : Option Addr) (m c : Nat) (news : List Value) (hx : a.eval x = .slice A m c) (hr : Hid (Sl w0 size A m news)) (h1 : ∀ u ∈ news, u.oneCell' = true)
    (hn : n + m ≤ 1000000000000) (hbase : base ≤ w0.heap.size)
    (h : ∀ v' w', Hid (w'.ownsRow base e size v' (n + m) (xs ++ news)) → Hid (w0.grownBy w' v.ownBlock) → Hid (Below base w0 w') → wpList P ops Q rest (a.put o.dst v') w') :
    wpList P ops Q (o :: rest) a w0 := by
  have hbb : (n + m) * bytes ≤ 140737488355328 := by
    have : (n + m) * bytes ≤ 1000000000000 * 128 := Nat.mul_le_mul hn hb128
    omega
  refine wpList_append_any _ hgd s x t ho base e i z size bytes ht hi hz hsize hby hzs hsz v n xs hs hown.out w0.heap.size A m c news hx hr.out.rd h1 (by unfold maxLen; omega) hbb hbase fun v' w' h2 h3 _ => h v' w' h2 h3 ?_
  exact (Below.refl base w0).grown h3 hbase fun k hk => (hown.out.lt k hk).1
/-- where a slice that is cut at a place begins -/
def cutA (A : Option Addr) (c i k : Nat) : Option Addr := if c = i then A else A.map (·.add (i * k))
theorem run_upto {P : Program} {t e : TypeId} {i : TypeInfo} (ht : P.underlying t = some (.slice e)) (hi : P.info? e = some i) (A : Option Addr) (n c j : Nat) (hj : j ≤ c) (w : World) :
    (Instr.slice t (.slice A n c) none (some (.int .i64 j)) none).run P w = .ok (.slice A j c) w := by
  have he : P.elem t = e := by unfold Program.elem; rw [ht]
  have hA : A.map (fun a => a.add 0) = A := by cases A <;> simp [Addr.add]
  rw [run_slice_h w t A n c (by rw [he]; exact ht) .i64 j (by omega) (by omega)]
  simp [he, sizeOf, typeInfo, hi, sliced, hA, Result.andThen]
theorem run_from {P : Program} {t e : TypeId} {i : TypeInfo} (ht : P.underlying t = some (.slice e)) (hi : P.info? e = some i) (A : Option Addr) (n c j k : Nat) (hk : i.size = k) (hj : j ≤ n) (w : World) :
    (Instr.slice t (.slice A n c) (some (.int .i64 j)) none none).run P w = .ok (.slice (cutA A c j k) (n - j) (c - j)) w := by
  have he : P.elem t = e := by unfold Program.elem; rw [ht]
  rw [run_slice_l w t A n c (by rw [he]; exact ht) .i64 j (by omega) (by omega)]
  simp [he, sizeOf, typeInfo, hi, sliced, cutA, hk, Result.andThen]
/-- a slice is cut: from its head, or to its end; for the walk -/
theorem wpList_upto {P : Program} {ops : Array Oper} {rest : List Oper} {o : Oper} {a : Act} {Q : Exit → Act → World → Prop} {w : World} (hgd : o.guard = none) (t e : TypeId) (x hi : Operand)
    (ho : o.op = .slice t x none (some hi) none) (i : TypeInfo) (ht : P.underlying t = some (.slice e)) (hi0 : P.info? e = some i) (A : Option Addr) (n c j : Nat) (hx : a.eval x = .slice A n c) (hh : a.eval hi = .int .i64 (j : Int)) (hj : j ≤ c)
    (h : wpList P ops Q rest (a.put o.dst (.slice A j c)) w) : wpList P ops Q (o :: rest) a w := by
  refine wpList_plain hgd fun K' hK' => ?_
  have he : P.elem t = e := by unfold Program.elem; rw [ht]
  have hrun : (Instr.sliceAt t (.slice A n c) none (some (.int .i64 (j : Int))) none).run P w = .ok (.slice A j c) w := (run_sliceAt_slice w t _ _ _ _ (by rw [he]; exact ht)).trans (run_upto ht hi0 A n c j hj w)
  unfold Oper.wp
  simp [execOp, ho, hx, hh, hrun, Result.andThen]
  exact hK' _ _ h
theorem wpList_from {P : Program} {ops : Array Oper} {rest : List Oper} {o : Oper} {a : Act} {Q : Exit → Act → World → Prop} {w : World} (hgd : o.guard = none) (t e : TypeId) (x lo : Operand)
    (ho : o.op = .slice t x (some lo) none none) (i : TypeInfo) (ht : P.underlying t = some (.slice e)) (hi0 : P.info? e = some i) (A : Option Addr) (n c j k : Nat) (hk : i.size = k) (hx : a.eval x = .slice A n c) (hh : a.eval lo = .int .i64 (j : Int)) (hj : j ≤ n)
    (h : wpList P ops Q rest (a.put o.dst (.slice (cutA A c j k) (n - j) (c - j))) w) : wpList P ops Q (o :: rest) a w := by
  refine wpList_plain hgd fun K' hK' => ?_
  have he : P.elem t = e := by unfold Program.elem; rw [ht]
  have hrun : (Instr.sliceAt t (.slice A n c) (some (.int .i64 (j : Int))) none none).run P w = .ok (.slice (cutA A c j k) (n - j) (c - j)) w := (run_sliceAt_slice w t _ _ _ _ (by rw [he]; exact ht)).trans (run_from ht hi0 A n c j k hk hj w)
  unfold Oper.wp
  simp [execOp, ho, hx, hh, hrun, Result.andThen]
  exact hK' _ _ h
theorem Rs.cut {α : Type} {enc : α → List Value} {k : Nat} {w : World} {A : Option Addr} {l : List α} (hk : ∀ a, (enc a).length = k) (h : Rs enc k w A l) {c i : Nat} (hc : l.length ≤ c) : Rs enc k w (cutA A c i k) (l.drop i) := by
  unfold cutA
  split
  · rename_i hci
    subst hci
    rw [List.drop_of_length_le hc]
    exact Rs.nil' _
  · rcases Nat.eq_zero_or_pos l.length with h0 | h0
    · rw [List.eq_nil_of_length_eq_zero h0, List.drop_nil]
      exact Rs.nil' _
    · obtain ⟨b, o, rfl, _⟩ := h.2 h0
      rw [Option.map_some, addr_add]
      exact Rs.drop hk h i
end Go.Proofs.YthmcimpdehgaoaaGreatDoor
namespace Go.Proofs.YthmcimpdehgaoaaGreatDoor
open Go.RowKit

theorem blk_type2 {w : World} {i : Nat} {t t' : TypeId} {cs cs' : Array Value} {fz fz' : Nat × Nat} (h : w.heap[i]? = some (Obj.cells cs t fz)) (h' : w.heap[i]? = some (Obj.cells cs' t' fz')) (hne : t ≠ t') : False := by
  rw [h] at h'
  injection h' with h'
  injection h' with _ e _
  exact hne e
theorem own_type2 {w : World} {base : Nat} {e : TypeId} {size n : Nat} {v : Value} {xs : List Value} (h : w.ownsRow base e size v n xs) {t : TypeId} (hne : e ≠ t) : ∀ g, v.ownBlock = some g → ∀ cs fz, w.heap[g]? ≠ some (Obj.cells cs t fz) := by
  intro g hg cs fz hh
  rcases h.2 with ⟨rfl, _⟩ | ⟨g', cap, cur, rfl, _, hg', _⟩
  · cases hg
  · simp only [Value.ownBlock, Option.some.injEq] at hg
    subst hg
    exact blk_type2 hg' hh hne
theorem type_grown {w w' : World} {B n size : Nat} {e t : TypeId} {v : Value} {xs : List Value} (ho : w.ownsRow B e size v n xs) {o : Obj} (hg : (w.alloc o).grownBy w' v.ownBlock) (ht : e ≠ t) : ∀ (k : Nat) cs fz, w.heap[k]? = some (.cells cs t fz) → w'.heap[k]? = w.heap[k]? := by
  intro k cs fz hh
  have hk := (Array.getElem?_eq_some_iff.1 hh).1
  exact (hg.block k (by simp; omega) (fun e' => own_type2 ho ht k e'.symm cs fz hh)).trans (Below.heap_alloc w o k hk)
/-- a row that make has made: of one cell each -/
theorem run_make_one {P : Program} (t e : TypeId) (i : TypeInfo) (z : Value) (ht : P.underlying t = some (.slice e)) (hi : P.info? e = some i) (hz : i.zero = some z) (hz1 : z.cells = #[z]) (hs : i.size = 1)
    (n : Nat) (hbytes : i.bytes * n ≤ 281474976710656) (h63 : n ≤ 9223372036854775807) (w : World) :
    (Instr.makeSlice t (.int .i64 (n : Int)) (.int .i64 (n : Int))).run P w = .ok (.slice (some ⟨w.heap.size, 0, none⟩) n n) (w.alloc (.cells (List.replicate n z).toArray e)) := by
  have h := run_make_rowN (P := P) t e i z ht hi hz .i64 .i64 n n (Nat.le_refl _) hbytes h63 w
  have h2 : madeCells z.cells (n * i.size) = (List.replicate n z).toArray := by
    rw [hz1, hs, Nat.mul_one]
    have := toList_madeCells_one z n
    rw [← this]
  rw [h2] at h
  exact h
theorem own_made {w : World} {B : Nat} {e : TypeId} {z : Value} {n : Nat} (hB : B ≤ w.heap.size) (hn : n ≤ maxLen) : (w.alloc (.cells (List.replicate n z).toArray e)).ownsRow B e 1 (.slice (some ⟨w.heap.size, 0, none⟩) n n) n (List.replicate n z) :=
  ⟨by simp, .inr ⟨w.heap.size, n, _, rfl, hB, heap_alloc_new w _, Nat.le_refl _, hn, by simp, by simp⟩⟩
/-- a row of one-cell elements is written at a place -/
theorem own_set1 {w : World} {B g n cap : Nat} {e : TypeId} {xs : List Value} (h : w.ownsRow B e 1 (.slice (some ⟨g, 0, none⟩) n cap) n xs) {i : Nat} (u : Value) :
    (w.setCell ⟨g, i, none⟩ u).ownsRow B e 1 (.slice (some ⟨g, 0, none⟩) n cap) n (xs.set i u) := by
  rcases h.2 with ⟨hv, _⟩ | ⟨g', cap', cur, hv, hb, hh, hc, hmx, hcs, htk⟩
  · cases hv
  · simp only [Value.slice.injEq, Option.some.injEq, Addr.mk.injEq, and_true, true_and] at hv
    obtain ⟨rfl, rfl⟩ := hv
    refine ⟨by rw [List.length_set]; exact h.1, .inr ⟨g, cap, _, rfl, hb, Blk.set_ (cs := cur) hh i u, hc, hmx, by simpa using hcs, ?_⟩⟩
    rw [Array.toList_setIfInBounds, List.take_set, htk]
theorem own_blk {w : World} {B g n cap size : Nat} {e : TypeId} {xs : List Value} (h : w.ownsRow B e size (.slice (some ⟨g, 0, none⟩) n cap) n xs) : ∃ cur, Blk w g e cur ∧ B ≤ g := by
  rcases h.2 with ⟨hv, _⟩ | ⟨g', cap', cur, hv, hb, hh, _⟩
  · cases hv
  · simp only [Value.slice.injEq, Option.some.injEq, Addr.mk.injEq, and_true, true_and] at hv
    obtain ⟨rfl, rfl⟩ := hv
    exact ⟨cur, hh, hb⟩
/-- one cell of a block is written: blocks of other types stay -/
theorem type_set {w : World} {g i : Nat} {e t : TypeId} {cur : Array Value} (hb : Blk w g e cur) (ht : e ≠ t) (u : Value) : ∀ (k : Nat) cs fz, w.heap[k]? = some (.cells cs t fz) → (w.setCell ⟨g, i, none⟩ u).heap[k]? = w.heap[k]? := by
  intro k cs fz hh
  refine Below.heap_setCell w _ u k (fun e' => ?_)
  have e' : k = g := e'
  subst e'
  exact blk_type2 hb hh ht
/-- two cells of a list are set -/
theorem set_two {α : Type} (xs : List α) (p : Nat) (a b : α) (h : p + 2 ≤ xs.length) : (xs.set p a).set (p + 1) b = xs.take p ++ [a, b] ++ xs.drop (p + 2) := by
  apply List.ext_getElem?
  intro j
  rw [List.getElem?_set, List.getElem?_set, List.length_set]
  by_cases h1 : j < p
  · rw [if_neg (by omega), if_neg (by omega), List.append_assoc, List.getElem?_append_left (by rw [List.length_take]; omega), List.getElem?_take, if_pos h1]
  · by_cases h2 : j = p
    · subst h2
      rw [if_neg (by omega), if_pos rfl, if_pos (by omega), List.append_assoc, List.getElem?_append_right (by rw [List.length_take]; omega), List.length_take, show j - min j xs.length = 0 by omega]; rfl
    · by_cases h3 : j = p + 1
      · subst h3
        rw [if_pos rfl, if_pos (by omega), List.append_assoc, List.getElem?_append_right (by rw [List.length_take]; omega), List.length_take, show p + 1 - min p xs.length = 1 by omega]; rfl
      · rw [if_neg (by omega), if_neg (by omega), List.getElem?_append_right (by rw [List.length_append, List.length_take, List.length_cons, List.length_cons, List.length_nil]; omega), List.getElem?_drop]
        congr 1
        rw [List.length_append, List.length_take, List.length_cons, List.length_cons, List.length_nil]; omega
theorem rcs_set {α : Type} {enc : α → List Value} {k : Nat} (hk : ∀ a, (enc a).length = k) (l : List α) (i : Nat) (hi : i < l.length) (y : α) : (rcs enc l).take (i * k) ++ enc y ++ (rcs enc l).drop (i * k + k) = rcs enc (l.set i y) := by
  rw [rcs_take hk, show i * k + k = (i + 1) * k by rw [Nat.add_mul, Nat.one_mul], rcs_drop hk, List.set_eq_take_append_cons_drop, if_pos hi, rcs_append]
  have : rcs enc (y :: l.drop (i + 1)) = enc y ++ rcs enc (l.drop (i + 1)) := by simp [rcs]
  rw [this, List.append_assoc]
/-- a row of two-cell elements is written at a place -/
theorem own_set2 {α : Type} {enc : α → List Value} {w : World} {B g n cap : Nat} {e : TypeId} {l : List α} (hk : ∀ a, (enc a).length = 2) (h : w.ownsRow B e 2 (.slice (some ⟨g, 0, none⟩) n cap) n (rcs enc l)) {i : Nat} (hi : i < l.length) {y : α} {a b : Value} (hy : enc y = [a, b]) :
    ((w.setCell ⟨g, i * 2, none⟩ a).setCell ⟨g, i * 2 + 1, none⟩ b).ownsRow B e 2 (.slice (some ⟨g, 0, none⟩) n cap) n (rcs enc (l.set i y)) := by
  rcases h.2 with ⟨hv, _⟩ | ⟨g', cap', cur, hv, hb, hh, hc, hmx, hcs, htk⟩
  · cases hv
  · simp only [Value.slice.injEq, Option.some.injEq, Addr.mk.injEq, and_true, true_and] at hv
    obtain ⟨rfl, rfl⟩ := hv
    have hl := h.1
    rw [rcs_length hk] at hl
    refine ⟨by rw [rcs_length hk, List.length_set]; exact hl, .inr ⟨g, cap, _, rfl, hb, (Blk.set_ (cs := cur) hh (i * 2) a).set_ (i * 2 + 1) b, hc, hmx, by simpa using hcs, ?_⟩⟩
    rw [Array.toList_setIfInBounds, List.take_set, Array.toList_setIfInBounds, List.take_set, htk, set_two _ _ _ _ (by rw [rcs_length hk]; omega), ← rcs_set hk l i hi y, hy]
theorem made_two (a b : Value) (n : Nat) : madeCells #[a, b] (n * 2) = (List.replicate n [a, b]).flatten.toArray := by
  have h : ∀ n, (List.range (n * 2)).map (fun j => (#[a, b] : Array Value)[j % 2]!) = (List.replicate n [a, b]).flatten := by
    intro n
    induction n with
    | zero => rfl
    | succ n ih =>
      rw [show (n + 1) * 2 = n * 2 + 1 + 1 by omega, List.range_succ, List.range_succ, List.map_append, List.map_append, ih, List.replicate_succ', List.flatten_append]
      have e0 : n * 2 % 2 = 0 := by omega
      have e1 : (n * 2 + 1) % 2 = 1 := by omega
      simp [e0, e1]
  unfold madeCells
  rw [← h n]
  apply Array.ext'
  simp
end Go.Proofs.YthmcimpdehgaoaaGreatDoor
