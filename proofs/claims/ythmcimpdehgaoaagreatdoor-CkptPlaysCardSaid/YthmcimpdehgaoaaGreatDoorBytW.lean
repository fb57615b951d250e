/- Bytes that may be written over; what calls and such writes leave of the rest. -/
import Derived.Test.YthmcimpdehgaoaaGreatDoorRkC
import Derived.Laws.Tables
namespace Go.Proofs.YthmcimpdehgaoaaGreatDoor
open Go.RowKit Go.Maps

theorem row_setT {W : World} {g : Nat} {C : Array Value} {t : TypeId} {fz : Nat × Nat} (i : Nat) (v : Value) (h : W.heap[g]? = some (.cells C t fz)) : (W.setCell ⟨g, i, none⟩ v).heap[g]? = some (.cells (C.setIfInBounds i v) t fz) := by
  simp [World.setCell, Array.getElem?_modify, h]
theorem row_frozenT {W : World} {g : Nat} {C : Array Value} {t : TypeId} {i : Nat} (hi : i < C.size) (h : W.heap[g]? = some (.cells C t (C.size, C.size + 1))) : W.frozen? ⟨g, i, none⟩ = false := by
  have h2 : ¬ C.size ≤ i := by omega
  simp [World.frozen?, h, h2]
/-- so many bytes that may be written over -/
def BytesW (w : World) (g n : Nat) : Prop := ∃ C : Array Value, w.heap[g]? = some (.cells C 5 (C.size, C.size + 1)) ∧ n ≤ C.size ∧ ∀ k, k < n → ∃ z : Int, 0 ≤ z ∧ z ≤ 255 ∧ C[k]? = some (.int .u8 z)
theorem BytesW.lt {w : World} {g n : Nat} (h : BytesW w g n) : g < w.heap.size := by
  obtain ⟨C, h1, _⟩ := h
  exact (Array.getElem?_eq_some_iff.1 h1).1
theorem BytesW.at_ {w : World} {g n k : Nat} (h : BytesW w g n) (hk : k < n) : ∃ z : Int, 0 ≤ z ∧ z ≤ 255 ∧ w.cell? ⟨g, k, none⟩ = some (.int .u8 z) ∧ w.frozen? ⟨g, k, none⟩ = false := by
  obtain ⟨C, h1, h2, h3⟩ := h
  obtain ⟨z, h4, h5, h6⟩ := h3 k hk
  exact ⟨z, h4, h5, by rw [cell_of_row w g k C _ _ h1, h6], row_frozenT (by omega) h1⟩
theorem BytesW.set_ {w : World} {g n k : Nat} (h : BytesW w g n) {z : Int} (h0 : 0 ≤ z) (h1 : z ≤ 255) : BytesW (w.setCell ⟨g, k, none⟩ (.int .u8 z)) g n := by
  obtain ⟨C, e1, e2, e3⟩ := h
  refine ⟨C.setIfInBounds k (.int .u8 z), ?_, by rw [Array.size_setIfInBounds]; exact e2, fun j hj => ?_⟩
  · rw [Array.size_setIfInBounds]; exact row_setT k _ e1
  · rw [Array.getElem?_setIfInBounds]
    split
    · rename_i hkj
      subst hkj
      rw [if_pos (by omega)]
      exact ⟨z, h0, h1, rfl⟩
    · exact e3 j hj
theorem BytesW.keep {w w' : World} {g n : Nat} (h : BytesW w g n) (hk : ∀ cs fz, w.heap[g]? = some (.cells cs 5 fz) → w'.heap[g]? = w.heap[g]?) : BytesW w' g n := by
  obtain ⟨C, e1, e2, e3⟩ := h
  exact ⟨C, (hk _ _ e1).trans e1, e2, e3⟩
/-- a text's bytes, made new -/
theorem text_bytes (T : ByteArray) (W : World) : ∃ (C : Array Value) (cap : Nat),
    (convert 9 33 (.string T)).run Tryz.prog W = .ok (.slice (some ⟨W.heap.size, 0, none⟩) T.size cap) (W.drew.alloc (.cells C 5 (C.size, C.size + 1))) ∧ T.size ≤ cap ∧
    ∀ W' : World, W'.heap[W.heap.size]? = some (.cells C 5 (C.size, C.size + 1)) → BytesW W' W.heap.size T.size ∧ Bt W' (.slice (some ⟨W.heap.size, 0, none⟩) T.size cap) T := by
  have hcap := grownCap_ge W T.size 0 5
  have hC : ∀ k, k < T.size → (bytesRow T (grownCap W T.size 0 5))[k]? = (T.data[k]?).map fun b => Value.int .u8 (b.toNat : Int) := fun k hk => by
    have hk' : k < T.data.size := hk
    unfold bytesRow
    rw [Array.getElem?_append_left (by simpa using hk')]
    simp
  have hsz : T.size ≤ (bytesRow T (grownCap W T.size 0 5)).size := by
    unfold bytesRow
    simp only [Array.size_append, Array.size_map]
    show T.data.size ≤ _
    omega
  obtain ⟨C, hCe⟩ : ∃ C, bytesRow T (grownCap W T.size 0 5) = C := ⟨_, rfl⟩
  have hrun := run_bytes_of_string W 9 33 5 T Tryz.underlying9 Tryz.underlying33 Tryz.underlying5
  rw [hCe] at hC hrun hsz
  refine ⟨C, grownCap W T.size 0 5, hrun, by omega, fun W' hW => ⟨⟨C, hW, hsz, fun k hk => ?_⟩, ?_⟩⟩
  · have hk' : k < T.data.size := hk
    rw [hC k hk, Array.getElem?_eq_getElem hk']
    exact ⟨_, by omega, by have := T.data[k].toNat_lt; omega, rfl⟩
  · refine ⟨_, _, rfl, by omega, fun h0 => ⟨W.heap.size, 0, C, _, rfl, hW, fun j hj => ?_⟩⟩
    have hj' : j < T.data.size := hj
    rw [Nat.zero_add, hC j hj, Array.getElem?_eq_getElem hj']
    unfold ByteArray.get!
    simp only [Option.map_some, getElem!_pos T.data j hj']
/-- what a round's calls and writes leave of the rest -/
structure KeepT (B : Nat) (w wr : World) : Prop where
  below : Below B w wr
  blk : ∀ (g : Nat) cs t fz, t ≠ 68 → t ≠ 90 → w.heap[g]? = some (.cells cs t fz) → wr.heap[g]? = w.heap[g]?
theorem KeepT.rk [Forb] {B0 B q : Nat} {w w' : World} {R : RDisk} (o : KeepT B0 w w') (h : RkIs w B q R) : RkIs w' B q R := by
  obtain ⟨hB, vf, vs, hb, hf, hs2⟩ := h
  have hk : KeepF w w' := ⟨o.below.size, fun b cs t fz ht hh => o.blk b cs t fz (by rcases ht with rfl | rfl <;> decide) (by rcases ht with rfl | rfl <;> decide) hh⟩
  exact ⟨hB, vf, vs, (o.blk q _ _ _ (by decide) (by decide) hb).trans hb, hf.keep hk, hs2.keep hk⟩
theorem KeepT.of_below {B : Nat} {w w' : World} (h : Below w.heap.size w w') (hB : B ≤ w.heap.size) : KeepT B w w' := ⟨h.mono hB, fun g _ _ _ _ _ hh => h.block g (Array.getElem?_eq_some_iff.1 hh).1⟩
theorem KeepT.trans {B : Nat} {a b c : World} (h : KeepT B a b) (k : KeepT B b c) : KeepT B a c :=
  ⟨h.below.trans k.below, fun g cs t fz h1 h2 hh => by have e := h.blk g cs t fz h1 h2 hh; exact (k.blk g cs t fz h1 h2 (e.trans hh)).trans e⟩
theorem KeepT.out [Forb] {B p : Nat} {w w' : World} {v v1 : Value} {D : DiskD} (o : Out B w w' p v D v1) : KeepT B w w' := ⟨o.below, o.blk⟩
theorem KeepT.write {B g k : Nat} {w wr : World} {u : Value} (h : KeepT B w wr) (hg : w.heap.size ≤ g) (hB : B ≤ w.heap.size) : KeepT B w (wr.setCell ⟨g, k, none⟩ u) :=
  ⟨h.below.setCell (p := ⟨g, k, none⟩) (by show B ≤ g; omega) u, fun i cs t fz h1 h2 hh => (Below.heap_setCell wr _ u i (by show i ≠ g; have := (Array.getElem?_eq_some_iff.1 hh).1; omega)).trans (h.blk i cs t fz h1 h2 hh)⟩
theorem BtO.toF {F : Forb} {w : World} {v : Value} {s : ByteArray} (h : @BtO Forb.none w v s) (hF : ∀ k, F.bad k → w.heap.size ≤ k) : @BtO F w v s := by
  refine ⟨h.1, fun ad n c e hn hb => ?_⟩
  obtain ⟨A, c', e', _, hr⟩ := h.1
  rw [e] at e'
  simp only [Value.slice.injEq] at e'
  obtain ⟨rfl, rfl, rfl⟩ := e'
  obtain ⟨blk, off, cs, fz, e2, hh, _⟩ := hr hn
  injection e2 with e2
  subst e2
  have h9 : w.heap.size ≤ blk := hF _ hb
  have := (Array.getElem?_eq_some_iff.1 hh).1
  omega
theorem BtO.wr {F : Forb} {w : World} {g k : Nat} {v u : Value} {s : ByteArray} (h : @BtO F w v s) (hg : F.bad g) : @BtO F (w.setCell ⟨g, k, none⟩ u) v s := by
  have hne : ∀ i, i ≠ g → (w.setCell ⟨g, k, none⟩ u).heap[i]? = w.heap[i]? := fun i hi => Below.heap_setCell w _ u i hi
  obtain ⟨⟨A, c, e, hc, hr⟩, ho⟩ := h
  refine ⟨⟨A, c, e, hc, fun hs => ?_⟩, ho⟩
  obtain ⟨blk, off, cs, fz, e2, hh, hx2⟩ := hr hs
  exact ⟨blk, off, cs, fz, e2, (hne blk (fun e3 => ho ⟨blk, off, none⟩ _ c (by rw [e, e2]) hs (by rw [e3]; exact hg))).trans hh, hx2⟩
theorem RRow.toF {F : Forb} {w : World} {v : Value} {rows : List RF} (h : @RRow Forb.none w v rows) (hF : ∀ k, F.bad k → w.heap.size ≤ k) : @RRow F w v rows := by
  obtain ⟨A, c, hv, hc, hR, hT, hB⟩ := h
  exact ⟨A, c, hv, hc, hR, hT, fun x hx => (hB x hx).toF hF⟩
theorem RRow.ofF {F : Forb} {w : World} {v : Value} {rows : List RF} (h : @RRow F w v rows) : @RRow Forb.none w v rows := by
  obtain ⟨A, c, hv, hc, hR, hT, hB⟩ := h
  exact ⟨A, c, hv, hc, hR, hT, fun x hx => (hB x hx).1.o⟩
theorem RRow.wr {F : Forb} {w : World} {g k : Nat} {v u : Value} {rows : List RF} (h : @RRow F w v rows) (hg : F.bad g) (hu : ∃ cs fz, w.heap[g]? = some (.cells cs 5 fz)) : @RRow F (w.setCell ⟨g, k, none⟩ u) v rows := by
  obtain ⟨cs0, fz0, hg0⟩ := hu
  have hne : ∀ i, i ≠ g → (w.setCell ⟨g, k, none⟩ u).heap[i]? = w.heap[i]? := fun i hi => Below.heap_setCell w _ u i hi
  obtain ⟨A, c, hv, hc, hR, hT, hB⟩ := h
  have hbg : ∀ b cs fz, w.heap[b]? = some (.cells cs 100 fz) → b ≠ g := fun b cs fz hh e => by
    subst e
    rw [hg0] at hh
    injection hh with hh
    injection hh with _ ht _
    exact absurd ht (by decide)
  refine ⟨A, c, hv, hc, ⟨hR.1, fun h0 => ?_⟩, fun b o h0 hA => ?_, fun x hx => (hB x hx).wr hg⟩
  · obtain ⟨b, o, hA, hlt, hcl⟩ := hR.2 h0
    obtain ⟨cs, fz, hh⟩ := hT b o h0 hA
    have he := hne b (hbg b cs fz hh)
    exact ⟨b, o, hA, by simpa using hlt, fun j u hu => (cell_of_block he _).trans (hcl j u hu)⟩
  · obtain ⟨cs, fz, hh⟩ := hT b o h0 hA
    exact ⟨cs, fz, (hne b (hbg b cs fz hh)).trans hh⟩
theorem RkIs.toF {F : Forb} {w : World} {B p : Nat} {R : RDisk} (h : @RkIs Forb.none w B p R) (hF : ∀ k, F.bad k → w.heap.size ≤ k) : @RkIs F w B p R := by
  obtain ⟨h1, vf, vs, h2, ⟨r1, h3, e3⟩, ⟨r2, h4, e4⟩⟩ := h
  exact ⟨h1, vf, vs, h2, ⟨r1, h3.toF hF, e3⟩, ⟨r2, h4.toF hF, e4⟩⟩
theorem RkIs.ofF {F : Forb} {w : World} {B p : Nat} {R : RDisk} (h : @RkIs F w B p R) : @RkIs Forb.none w B p R := by
  obtain ⟨h1, vf, vs, h2, ⟨r1, h3, e3⟩, ⟨r2, h4, e4⟩⟩ := h
  exact ⟨h1, vf, vs, h2, ⟨r1, h3.ofF, e3⟩, ⟨r2, h4.ofF, e4⟩⟩
theorem RkIs.wr {F : Forb} {w : World} {B p g k : Nat} {u : Value} {R : RDisk} (h : @RkIs F w B p R) (hg : F.bad g) (hu : ∃ cs fz, w.heap[g]? = some (.cells cs 5 fz)) : @RkIs F (w.setCell ⟨g, k, none⟩ u) B p R := by
  obtain ⟨h1, vf, vs, h2, ⟨r1, h3, e3⟩, ⟨r2, h4, e4⟩⟩ := h
  obtain ⟨cs0, fz0, hg0⟩ := id hu
  have hpg : p ≠ g := fun e => by subst e; exact blk_type h2 hg0 (by decide)
  exact ⟨h1, vf, vs, (Below.heap_setCell w _ u p hpg).trans h2, ⟨r1, h3.wr hg hu, e3⟩, ⟨r2, h4.wr hg hu, e4⟩⟩
/-- so many bytes that may be written over, whatever else is marked in their block -/
def BytesN (w : World) (g n : Nat) : Prop := ∃ (C : Array Value) (fz : Nat × Nat), w.heap[g]? = some (.cells C 5 fz) ∧ n ≤ C.size ∧ (n ≤ fz.1 ∨ fz.2 = 0) ∧ ∀ k, k < n → ∃ z : Int, 0 ≤ z ∧ z ≤ 255 ∧ C[k]? = some (.int .u8 z)
theorem BytesW.toN {w : World} {g n : Nat} (h : BytesW w g n) : BytesN w g n := by
  obtain ⟨C, h1, h2, h3⟩ := h
  exact ⟨C, _, h1, h2, .inl h2, h3⟩
theorem BytesN.lt {w : World} {g n : Nat} (h : BytesN w g n) : g < w.heap.size := by
  obtain ⟨C, fz, h1, _⟩ := h
  exact (Array.getElem?_eq_some_iff.1 h1).1
theorem BytesN.u8 {w : World} {g n : Nat} (h : BytesN w g n) : ∃ cs fz, w.heap[g]? = some (.cells cs 5 fz) := by
  obtain ⟨C, fz, h1, _⟩ := h
  exact ⟨C, fz, h1⟩
theorem BytesN.at_ {w : World} {g n k : Nat} (h : BytesN w g n) (hk : k < n) : ∃ z : Int, 0 ≤ z ∧ z ≤ 255 ∧ w.cell? ⟨g, k, none⟩ = some (.int .u8 z) ∧ w.frozen? ⟨g, k, none⟩ = false := by
  obtain ⟨C, fz, h1, h2, h3, h4⟩ := h
  obtain ⟨z, h5, h6, h7⟩ := h4 k hk
  refine ⟨z, h5, h6, by rw [cell_of_row w g k C _ _ h1, h7], ?_⟩
  have hz : ¬ (fz.1 ≤ k ∧ k < fz.2) := by omega
  simp only [World.frozen?, h1]
  simpa using fun h => by omega
theorem BytesN.set_ {w : World} {g n k : Nat} (h : BytesN w g n) {z : Int} (h0 : 0 ≤ z) (h1 : z ≤ 255) : BytesN (w.setCell ⟨g, k, none⟩ (.int .u8 z)) g n := by
  obtain ⟨C, fz, e1, e2, e3, e4⟩ := h
  refine ⟨C.setIfInBounds k (.int .u8 z), fz, row_setT k _ e1, by rw [Array.size_setIfInBounds]; exact e2, e3, fun j hj => ?_⟩
  rw [Array.getElem?_setIfInBounds]
  split
  · rename_i hkj
    subst hkj
    rw [if_pos (by omega)]
    exact ⟨z, h0, h1, rfl⟩
  · exact e4 j hj
theorem BytesN.keep {w w' : World} {g n : Nat} (h : BytesN w g n) (hk : ∀ cs fz, w.heap[g]? = some (.cells cs 5 fz) → w'.heap[g]? = w.heap[g]?) : BytesN w' g n := by
  obtain ⟨C, fz, e1, e2⟩ := h
  exact ⟨C, fz, (hk _ _ e1).trans e1, e2⟩
theorem BytesN.below {w w' : World} {g n : Nat} (h : BytesN w g n) (hb : Below w.heap.size w w') : BytesN w' g n := h.keep fun _ _ _ => hb.block g h.lt
theorem BytesN.of_own {w : World} {base n : Nat} {v : Value} {b : ByteArray} (h : w.ownsRow base 5 1 v n (ucells b)) : (v = .slice none 0 0 ∧ n = 0) ∨ ∃ g cap, v = .slice (some ⟨g, 0, none⟩) n cap ∧ base ≤ g ∧ n ≤ cap ∧ BytesN w g n := by
  rcases h.2 with h0 | ⟨g, cap, cur, hv, hg, hh, hn, hm, hs, ht⟩
  · exact .inl h0
  · refine .inr ⟨g, cap, hv, hg, hn, cur, _, hh, by omega, .inr rfl, fun k hk => ?_⟩
    have hl := h.1
    have hk2 : k < b.data.size := by
      have : (ucells b).length = b.data.size := by simp [ucells]
      omega
    have e : cur[k]? = (ucells b)[k]? := by
      rw [← ht, List.getElem?_take, if_pos (by omega), Array.getElem?_toList]
    rw [e]
    unfold ucells
    rw [List.getElem?_map, Array.getElem?_toList, Array.getElem?_eq_getElem hk2]
    exact ⟨_, by omega, by have := b.data[k].toNat_lt; omega, rfl⟩
end Go.Proofs.YthmcimpdehgaoaaGreatDoor
