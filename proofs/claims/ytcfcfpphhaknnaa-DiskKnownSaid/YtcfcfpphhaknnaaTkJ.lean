/- The closed law of disks in plain words: its rows of calls, its great arrays. -/
import Derived.Test.YtcfcfpphhaknnaaTkI
import Derived.Test.YtcfcfpphhaknnaaNews
import Derived.Test.YtcfcfpphhaknnaaRoomL
namespace Go.Proofs.Ytcfcfpphhaknnaa
open Go.RowKit Go.Maps

/-- a call that is written out, with the slices that it holds -/
abbrev CvT := CallD × Value × Value
def cvCellsT (x : CvT) : List Value := [.int .u8 x.1.kind, .string x.1.name, .string x.1.dst, x.2.1, .int .i64 x.1.n, x.2.2]
theorem flat6_len (L : List CvT) : (L.flatMap cvCellsT).length = L.length * 6 := by
  induction L with
  | nil => rfl
  | cons x L ih => rw [List.flatMap_cons, List.length_append, ih, List.length_cons, show (cvCellsT x).length = 6 from rfl]; omega
theorem flat6_at : ∀ (L : List CvT) (i : Nat) (x : CvT) (j : Nat), L[i]? = some x → j < 6 → (L.flatMap cvCellsT)[i * 6 + j]? = (cvCellsT x)[j]? := by
  intro L
  induction L with
  | nil => intro i m j h _; cases h
  | cons y L ih =>
    intro i x j h hj
    rw [List.flatMap_cons]
    have hs : (cvCellsT y).length = 6 := rfl
    cases i with
    | zero =>
      simp at h
      subst h
      rw [List.getElem?_append_left (by omega), Nat.zero_mul, Nat.zero_add]
    | succ i =>
      rw [List.getElem?_append_right (by omega), hs, show (i + 1) * 6 + j - 6 = i * 6 + j by omega]
      exact ih i x j (by simpa using h) hj
structure CvOkT (w : World) (x : CvT) : Prop where
  kb : 0 ≤ x.1.kind ∧ x.1.kind ≤ 255
  nb : In64T x.1.n
  keepb : ∀ z ∈ x.1.keep, In64T z
  bs : ∃ A cc, x.2.1 = .slice A x.1.b.size cc ∧ BtR w (.slice A x.1.b.size cc) x.1.b
  keep : ∃ A cc, x.2.2 = .slice A x.1.keep.length cc ∧ Rd w 1 A x.1.keep.length (x.1.keep.map (Value.int .i64))
theorem CvOkT.below {w w' : World} {x : CvT} (h : CvOkT w x) (hb : Below w.heap.size w w') : CvOkT w' x := by
  obtain ⟨A, cc, h1, h2⟩ := h.bs
  obtain ⟨A2, cc2, h3, h4⟩ := h.keep
  exact ⟨h.kb, h.nb, h.keepb, ⟨A, cc, h1, h2.below hb⟩, ⟨A2, cc2, h3, h4.below hb⟩⟩
theorem CvOkT.one {w : World} {x : CvT} (h : CvOkT w x) : ∀ u ∈ cvCellsT x, u.oneCell' = true := by
  obtain ⟨A, cc, h1, _⟩ := h.bs
  obtain ⟨A2, cc2, h3, _⟩ := h.keep
  intro u hu
  simp only [cvCellsT, List.mem_cons, List.not_mem_nil, or_false] at hu
  rcases hu with rfl | rfl | rfl | rfl | rfl | rfl
  · rfl
  · rfl
  · rfl
  · rw [h1]; rfl
  · rfl
  · rw [h3]; rfl
theorem callsT_of {w : World} {b o : Nat} {L : List CvT} (hlt : b < w.heap.size) (hc : ∀ j, j < L.length * 6 → w.cell? ⟨b, o + j, none⟩ = (L.flatMap cvCellsT)[j]?) (hL : ∀ x ∈ L, CvOkT w x) : CallsT w (some ⟨b, o, none⟩) (L.map (·.1)) := fun _ =>
  ⟨b, o, rfl, hlt, fun i c hi => by
    rw [List.getElem?_map] at hi
    obtain ⟨x, hx, rfl⟩ := Option.map_eq_some_iff.1 hi
    have hil := (List.getElem?_eq_some_iff.1 hx).1
    have ho := hL x (List.mem_of_getElem? hx)
    have hcell : ∀ j, j < 6 → w.cell? ⟨b, o + i * 6 + j, none⟩ = (cvCellsT x)[j]? := fun j hj => by
      rw [Nat.add_assoc, hc (i * 6 + j) (by omega)]
      exact flat6_at L i x j hx hj
    obtain ⟨A, cc, h1, h2⟩ := ho.bs
    obtain ⟨A2, cc2, h3, h4⟩ := ho.keep
    refine ⟨ho.kb, ho.nb, ho.keepb, hcell 0 (by decide), hcell 1 (by decide), hcell 2 (by decide), ⟨A, cc, ?_, h2⟩, hcell 4 (by decide), ⟨A2, cc2, ?_, h4⟩⟩
    · rw [hcell 3 (by decide), ← h1]; rfl
    · rw [hcell 5 (by decide), ← h3]; rfl⟩
theorem CallsT.drop {w : World} {b o : Nat} {l : List CallD} (h : CallsT w (some ⟨b, o, none⟩) l) (i : Nat) : CallsT w (some ⟨b, o + i * 6, none⟩) (l.drop i) := fun h0 => by
  rw [List.length_drop] at h0
  obtain ⟨b', o', e, hlt, hc⟩ := h (by omega)
  injection e with e
  injection e with e1 e2
  subst e1 e2
  refine ⟨b, o + i * 6, rfl, hlt, fun j c hj => ?_⟩
  rw [List.getElem?_drop] at hj
  have := hc (i + j) c hj
  rw [show o + i * 6 + j * 6 = o + (i + j) * 6 by omega]
  exact this
theorem FewT.drop {most : Nat} {l : List CallD} (h : FewT most l) (i : Nat) : FewT most (l.drop i) := by
  refine ⟨by rw [List.length_drop]; have := h.len; omega, ?_, fun c hc => h.name c (List.mem_of_mem_drop hc), fun c hc => h.dst c (List.mem_of_mem_drop hc), fun c hc => h.keep c (List.mem_of_mem_drop hc)⟩
  have h8 : sumT l = sumT (l.take i) + sumT (l.drop i) := by
    unfold sumT
    rw [← List.sum_append, ← List.map_append, List.take_append_drop]
  have := h.sum
  omega
theorem FewT.more {m n : Nat} {l : List CallD} (h : FewT m l) (hmn : m ≤ n) : FewT n l := ⟨Nat.le_trans h.len hmn, h.sum, h.name, h.dst, h.keep⟩
def cT (k : Int) (a b : ByteArray) (bs : ByteArray) (n : Int) (ks : List Int) : CallD := ⟨k, a, b, bs, n, ks⟩
def E0T : ByteArray := ⟨#[]⟩
def sT (u : UInt8) : ByteArray := ⟨#[u]⟩
abbrev nilV : Value := .slice none 0 0
/-- the chapter's row; s: a name that is too long; t: one that is as long as may be -/
def knA (s t : ByteArray) (v1 v2 v3 v4 v5 : Value) : List CvT :=
  [(cT 0 (sT 97) E0T ⟨#[1, 2]⟩ 0 [], v1, nilV), (cT 2 (sT 97) E0T E0T 0 [], nilV, nilV), (cT 1 (sT 98) E0T ⟨#[3]⟩ 0 [], v2, nilV), (cT 4 (sT 97) (sT 97) E0T 0 [], nilV, nilV), (cT 0 (sT 97) E0T ⟨#[4, 5, 6]⟩ 0 [], v3, nilV),
   (cT 3 (sT 97) E0T E0T 6 [], nilV, nilV), (cT 3 (sT 97) E0T E0T 4 [], nilV, nilV), (cT 0 (sT 97) E0T ⟨#[7]⟩ 0 [], v4, nilV), (cT 4 (sT 98) (sT 99) E0T 0 [], nilV, nilV), (cT 0 s E0T E0T 0 [], nilV, nilV),
   (cT 0 t E0T E0T 0 [], nilV, nilV), (cT 4 t s E0T 0 [], nilV, nilV), (cT 4 (sT 120) E0T E0T 0 [], nilV, nilV), (cT 5 (sT 120) E0T E0T 0 [], nilV, nilV), (cT 9 (sT 99) E0T E0T 0 [], nilV, nilV),
   (cT 0 (sT 100) E0T E0T 0 [], nilV, nilV), (cT 1 (sT 101) E0T ⟨#[8, 9]⟩ 0 [], v5, nilV), (cT 5 (sT 99) E0T E0T 0 [], nilV, nilV)]
/-- the power's row -/
def knB (v1 v2 k1 k2 : Value) : List CvT :=
  [(cT 6 E0T E0T E0T 1 [], nilV, nilV), (cT 0 (sT 102) E0T ⟨#[1]⟩ 0 [], v1, nilV), (cT 1 (sT 102) E0T ⟨#[2]⟩ 0 [], v2, nilV), (cT 2 (sT 102) E0T E0T 0 [], nilV, nilV), (cT 8 E0T E0T E0T 0 [-1, 7, 4611686018427387904, -9223372036854775808], nilV, k1),
   (cT 8 E0T E0T E0T 0 [9], nilV, k2), (cT 6 E0T E0T E0T 0 [], nilV, nilV), (cT 6 E0T E0T E0T (-5) [], nilV, nilV), (cT 2 (sT 102) E0T E0T 0 [], nilV, nilV), (cT 7 E0T E0T E0T 0 [], nilV, nilV), (cT 9 (sT 102) E0T E0T 0 [], nilV, nilV), (cT 8 E0T E0T E0T 0 [], nilV, nilV)]
theorem cv_okT {w : World} {k n : Int} {a b bs : ByteArray} {ks : List Int} {v1 v2 : Value} (h1 : 0 ≤ k ∧ k ≤ 255) (h3 : In64T n) (h4 : ∀ z ∈ ks, In64T z) (h5 : ∃ A cc, v1 = .slice A bs.size cc ∧ BtR w (.slice A bs.size cc) bs) (h6 : ∃ A cc, v2 = .slice A ks.length cc ∧ Rd w 1 A ks.length (ks.map (Value.int .i64))) : CvOkT w (cT k a b bs n ks, v1, v2) := ⟨h1, h3, h4, h5, h6⟩
/-- what lies in a slot of bytes, of numbers -/
def BtV (w : World) (v : Value) (b : ByteArray) : Prop := ∃ A cc, v = .slice A b.size cc ∧ BtR w (.slice A b.size cc) b
def RdV (w : World) (v : Value) (l : List Int) : Prop := ∃ A cc, v = .slice A l.length cc ∧ Rd w 1 A l.length (l.map (Value.int .i64))
theorem BtV.below {w w' : World} {v : Value} {b : ByteArray} (h : BtV w v b) (hb : Below w.heap.size w w') : BtV w' v b := by
  obtain ⟨A, cc, h1, h2⟩ := h
  exact ⟨A, cc, h1, h2.below hb⟩
theorem RdV.below {w w' : World} {v : Value} {l : List Int} (h : RdV w v l) (hb : Below w.heap.size w w') : RdV w' v l := by
  obtain ⟨A, cc, h1, h2⟩ := h
  exact ⟨A, cc, h1, h2.below hb⟩
theorem btV_nil (w : World) : BtV w nilV E0T := ⟨none, 0, rfl, (bt_nil w).btr⟩
theorem rdV_nil (w : World) : RdV w nilV [] := ⟨none, 0, rfl, Rd.nil_⟩
theorem in64_nil : ∀ z ∈ ([] : List Int), In64T z := fun _ h => by cases h
theorem knA_ok {w : World} {s t : ByteArray} {v1 v2 v3 v4 v5 : Value} (h1 : BtV w v1 ⟨#[1, 2]⟩) (h2 : BtV w v2 ⟨#[3]⟩) (h3 : BtV w v3 ⟨#[4, 5, 6]⟩) (h4 : BtV w v4 ⟨#[7]⟩) (h5 : BtV w v5 ⟨#[8, 9]⟩) : ∀ x ∈ knA s t v1 v2 v3 v4 v5, CvOkT w x := by
  intro x hm
  simp only [knA, List.mem_cons, List.not_mem_nil, or_false] at hm
  rcases hm with rfl | rfl | rfl | rfl | rfl | rfl | rfl | rfl | rfl | rfl | rfl | rfl | rfl | rfl | rfl | rfl | rfl | rfl <;>
    exact cv_okT ⟨by decide, by decide⟩ ⟨by decide, by decide⟩ in64_nil (by first | exact btV_nil w | exact h1 | exact h2 | exact h3 | exact h4 | exact h5) (rdV_nil w)
theorem knB_ok {w : World} {v1 v2 k1 k2 : Value} (h1 : BtV w v1 ⟨#[1]⟩) (h2 : BtV w v2 ⟨#[2]⟩) (h3 : RdV w k1 [-1, 7, 4611686018427387904, -9223372036854775808]) (h4 : RdV w k2 [9]) : ∀ x ∈ knB v1 v2 k1 k2, CvOkT w x := by
  have hi : ∀ z ∈ ([-1, 7, 4611686018427387904, -9223372036854775808] : List Int), In64T z := fun z h => by
    simp only [List.mem_cons, List.not_mem_nil, or_false] at h
    rcases h with rfl | rfl | rfl | rfl <;> exact ⟨by decide, by decide⟩
  have hj : ∀ z ∈ ([9] : List Int), In64T z := fun z h => by
    simp only [List.mem_cons, List.not_mem_nil, or_false] at h
    subst h; exact ⟨by decide, by decide⟩
  intro x hm
  simp only [knB, List.mem_cons, List.not_mem_nil, or_false] at hm
  rcases hm with rfl | rfl | rfl | rfl | rfl | rfl | rfl | rfl | rfl | rfl | rfl | rfl <;>
    exact cv_okT ⟨by decide, by decide⟩ ⟨by decide, by decide⟩ (by first | exact in64_nil | exact hi | exact hj) (by first | exact btV_nil w | exact h1 | exact h2) (by first | exact rdV_nil w | exact h3 | exact h4)
theorem knA_few {s t : ByteArray} (v1 v2 v3 v4 v5 : Value) (hs : s.size ≤ 140) (ht : t.size ≤ 140) : FewT 40 ((knA s t v1 v2 v3 v4 v5).map (·.1)) := by
  refine ⟨by simp [knA], by simp only [sumT, knA, cT, E0T, List.map_cons, List.map_nil, List.sum_cons, List.sum_nil]; decide, fun c hc => ?_, fun c hc => ?_, fun c hc => ?_⟩ <;>
  · obtain ⟨x, hm, rfl⟩ := List.mem_map.1 hc
    simp only [knA, List.mem_cons, List.not_mem_nil, or_false] at hm
    rcases hm with rfl | rfl | rfl | rfl | rfl | rfl | rfl | rfl | rfl | rfl | rfl | rfl | rfl | rfl | rfl | rfl | rfl | rfl <;> first | exact hs | exact ht | exact Nat.zero_le _ | (show (1 : Nat) ≤ 140; decide)
theorem knAB_few {s t : ByteArray} (v1 v2 v3 v4 v5 u1 u2 k1 k2 : Value) (hs : s.size ≤ 140) (ht : t.size ≤ 140) : FewT 50 ((knA s t v1 v2 v3 v4 v5 ++ knB u1 u2 k1 k2).map (·.1)) := by
  have h := knA_few v1 v2 v3 v4 v5 hs ht
  refine ⟨by simp [knA, knB], by simp only [sumT, knA, knB, cT, E0T, List.map_cons, List.map_nil, List.sum_cons, List.sum_nil, List.cons_append, List.nil_append]; decide, fun c hc => ?_, fun c hc => ?_, fun c hc => ?_⟩ <;>
  · rw [List.map_append] at hc
    rcases List.mem_append.1 hc with hc | hc
    · first | exact h.name c hc | exact h.dst c hc | exact h.keep c hc
    · obtain ⟨x, hm, rfl⟩ := List.mem_map.1 hc
      simp only [knB, List.mem_cons, List.not_mem_nil, or_false] at hm
      rcases hm with rfl | rfl | rfl | rfl | rfl | rfl | rfl | rfl | rfl | rfl | rfl | rfl <;> first | exact Nat.zero_le _ | (show (1 : Nat) ≤ 140; decide) | (show (4 : Nat) ≤ 40; decide) | (show (1 : Nat) ≤ 40; decide)
/-- all but the first byte of an array -/
theorem bt_tail {w : World} {g n c : Nat} {s : ByteArray} (h : Bt w (.slice (some ⟨g, 0, none⟩) n c) s) (hn : 1 ≤ n) : ∃ t, t.size = n - 1 ∧ Bt w (.slice (some ⟨g, 1, none⟩) (n - 1) (c - 1)) t := by
  obtain ⟨A, c', e, hc, hr⟩ := h
  simp only [Value.slice.injEq] at e
  obtain ⟨rfl, rfl, rfl⟩ := e
  obtain ⟨blk, off, cs, fz, e2, hh, hx⟩ := hr (by omega)
  injection e2 with e2
  injection e2 with e3 e4
  subst e3 e4
  have hsz : (s.extract 1 s.size).size = s.size - 1 := by rw [ByteArray.size_extract]; omega
  refine ⟨s.extract 1 s.size, hsz, some ⟨g, 1, none⟩, c - 1, by rw [hsz], by omega, fun _ => ⟨g, 1, cs, fz, rfl, hh, fun j hj => ?_⟩⟩
  have := hx (1 + j) (by omega)
  rw [Nat.zero_add] at this
  rw [this]
  have e1 : (s.extract 1 s.size).get! j = s.get! (1 + j) := by
    unfold ByteArray.get!
    simp [ByteArray.data_extract, getElem!_def, Array.getElem?_extract]
    rw [if_pos (by omega)]
  rw [e1]
theorem limit0 {t b : ByteArray} {q n : Int} (ht : badN t = false) (hb : 8388608 < b.size) : (⟨[], q, n, -1, false⟩ : DiskD).append t b = (3, ⟨[], q, n, -1, false⟩) := by
  have hat : (⟨[], q, n, -1, false⟩ : DiskD).at_ t = none := rfl
  unfold DiskD.append
  rw [one_asked ht, if_neg (by simp)]
  have hw : (⟨[], q, n, -1, false⟩ : DiskD).was t = ⟨t, ByteArray.empty, -1⟩ := by unfold DiskD.was; rw [hat]
  rw [hw, if_pos (by show (8388608 : Int) < ((ByteArray.empty).size : Int) + (b.size : Int); simp; omega)]
theorem limit1 {t b0 b : ByteArray} {q n s : Int} (ht : badN t = false) (hb : 8388608 < b0.size + b.size) : (⟨[⟨t, b0, s⟩], q, n, -1, false⟩ : DiskD).append t b = (3, ⟨[⟨t, b0, s⟩], q, n, -1, false⟩) := by
  unfold DiskD.append
  rw [one_asked ht, if_neg (by simp)]
  have hw : (⟨[⟨t, b0, s⟩], q, n, -1, false⟩ : DiskD).was t = ⟨t, b0, s⟩ := by unfold DiskD.was; rw [one_at]
  rw [hw, if_pos (by show (8388608 : Int) < (b0.size : Int) + (b.size : Int); omega)]
end Go.Proofs.Ytcfcfpphhaknnaa
