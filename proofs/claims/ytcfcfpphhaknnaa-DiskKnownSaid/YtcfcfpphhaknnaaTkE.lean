/- Chapter 16's law DiskTells: calls, each on both disks; what was handed in is written over. -/
import Derived.Test.YtcfcfpphhaknnaaTkD
import Derived.Test.YtcfcfpphhaknnaaSimF
import Derived.Deep.DeepCutAuto
import Derived.OrdersHeld
import Derived.Laws.Tables
namespace Go.Proofs.Ytcfcfpphhaknnaa
open Go.RowKit Go.Maps

theorem infoCallT : (Try.prog.info? 50).map (·.size) = some 6 := by kernel_rfl
theorem row_setT {W : World} {g : Nat} {C : Array Value} {t : TypeId} {fz : Nat × Nat} (i : Nat) (v : Value) (h : W.heap[g]? = some (.cells C t fz)) : (W.setCell ⟨g, i, none⟩ v).heap[g]? = some (.cells (C.setIfInBounds i v) t fz) := by
  simp [World.setCell, Array.getElem?_modify, h]
theorem row_frozenT {W : World} {g : Nat} {C : Array Value} {t : TypeId} {i : Nat} (hi : i < C.size) (h : W.heap[g]? = some (.cells C t (C.size, C.size + 1))) : W.frozen? ⟨g, i, none⟩ = false := by
  have h2 : ¬ C.size ≤ i := by omega
  simp [World.frozen?, h, h2]
/-- so many bytes that may be written over -/
def BytesW (w : World) (g n : Nat) : Prop := ∃ C : Array Value, w.heap[g]? = some (.cells C 5 (C.size, C.size + 1)) ∧ n ≤ C.size ∧ ∀ k, k < n → ∃ z : Int, 0 ≤ z ∧ z ≤ 255 ∧ C[k]? = some (.int .u8 z)
theorem BytesW.lt {w : World} {g n : Nat} (h : BytesW w g n) : g < w.heap.size := by
  obtain ⟨C, h1, _⟩ := h
  exact (Array.getElem?_eq_some_iff.1 h1).1
theorem BytesW.at_ {w : World} {g n k : Nat} (h : BytesW w g n) (hk : k < n) : ∃ z : Int, 0 ≤ z ∧ z ≤ 255 ∧ w.cell? ⟨g, k, none⟩ = some (.int .u8 z) ∧ w.frozen? ⟨g, k, none⟩ = false := by
  obtain ⟨C, h1, h2, h3⟩ := h
  obtain ⟨z, h4, h5, h6⟩ := h3 k hk
  exact ⟨z, h4, h5, by rw [cell_of_row w g k C _ _ h1, h6], row_frozenT (by omega) h1⟩
theorem BytesW.set_ {w : World} {g n k : Nat} (h : BytesW w g n) {z : Int} (h0 : 0 ≤ z) (h1 : z ≤ 255) : BytesW (w.setCell ⟨g, k, none⟩ (.int .u8 z)) g n := by
  obtain ⟨C, e1, e2, e3⟩ := h
  refine ⟨C.setIfInBounds k (.int .u8 z), ?_, by rw [Array.size_setIfInBounds]; exact e2, fun j hj => ?_⟩
  · rw [Array.size_setIfInBounds]; exact row_setT k _ e1
  · rw [Array.getElem?_setIfInBounds]
    split
    · rename_i hkj
      subst hkj
      rw [if_pos (by omega)]
      exact ⟨z, h0, h1, rfl⟩
    · exact e3 j hj
theorem BytesW.keep {w w' : World} {g n : Nat} (h : BytesW w g n) (hk : ∀ cs fz, w.heap[g]? = some (.cells cs 5 fz) → w'.heap[g]? = w.heap[g]?) : BytesW w' g n := by
  obtain ⟨C, e1, e2, e3⟩ := h
  exact ⟨C, (hk _ _ e1).trans e1, e2, e3⟩
/-- a text's bytes, made new -/
theorem text_bytes (T : ByteArray) (W : World) : ∃ (C : Array Value) (cap : Nat),
    (convert 9 22 (.string T)).run Try.prog W = .ok (.slice (some ⟨W.heap.size, 0, none⟩) T.size cap) (W.drew.alloc (.cells C 5 (C.size, C.size + 1))) ∧ T.size ≤ cap ∧
    ∀ W' : World, W'.heap[W.heap.size]? = some (.cells C 5 (C.size, C.size + 1)) → BytesW W' W.heap.size T.size ∧ BtR W' (.slice (some ⟨W.heap.size, 0, none⟩) T.size cap) T := by
  have hcap := grownCap_ge W T.size 0 5
  have hC : ∀ k, k < T.size → (bytesRow T (grownCap W T.size 0 5))[k]? = (T.data[k]?).map fun b => Value.int .u8 (b.toNat : Int) := fun k hk => by
    have hk' : k < T.data.size := hk
    unfold bytesRow
    rw [Array.getElem?_append_left (by simpa using hk')]
    simp
  have hsz : T.size ≤ (bytesRow T (grownCap W T.size 0 5)).size := by
    unfold bytesRow
    simp only [Array.size_append, Array.size_map]
    show T.data.size ≤ _
    omega
  obtain ⟨C, hCe⟩ : ∃ C, bytesRow T (grownCap W T.size 0 5) = C := ⟨_, rfl⟩
  have hrun := run_bytes_of_string W 9 22 5 T Try.underlying9 Try.underlying22 Try.underlying5
  rw [hCe] at hC hrun hsz
  refine ⟨C, grownCap W T.size 0 5, hrun, by omega, fun W' hW => ⟨⟨C, hW, hsz, fun k hk => ?_⟩, ?_⟩⟩
  · have hk' : k < T.data.size := hk
    rw [hC k hk, Array.getElem?_eq_getElem hk']
    exact ⟨_, by omega, by have := T.data[k].toNat_lt; omega, rfl⟩
  · refine Bt.btr ⟨_, _, rfl, by omega, fun h0 => ⟨W.heap.size, 0, C, _, rfl, hW, fun j hj => ?_⟩⟩
    have hj' : j < T.data.size := hj
    rw [Nat.zero_add, hC j hj, Array.getElem?_eq_getElem hj']
    unfold ByteArray.get!
    simp only [Option.map_some, getElem!_pos T.data j hj']
/-- what a round's calls and writes leave of the rest -/
structure KeepT (B : Nat) (w wr : World) : Prop where
  below : Below B w wr
  blk : ∀ (g : Nat) cs t fz, t ≠ 56 → t ≠ 61 → w.heap[g]? = some (.cells cs t fz) → wr.heap[g]? = w.heap[g]?
theorem KeepT.rk {B0 B q : Nat} {w w' : World} {R : RDisk} (o : KeepT B0 w w') (h : RkIs w B q R) : RkIs w' B q R := by
  obtain ⟨hB, vf, vs, hb, hf, hs2⟩ := h
  have hk : KeepF w w' := ⟨o.below.size, fun b cs t fz ht hh => o.blk b cs t fz (by rcases ht with rfl | rfl <;> decide) (by rcases ht with rfl | rfl <;> decide) hh⟩
  exact ⟨hB, vf, vs, (o.blk q _ _ _ (by decide) (by decide) hb).trans hb, hf.keep hk, hs2.keep hk⟩
theorem KeepT.of_below {B : Nat} {w w' : World} (h : Below w.heap.size w w') (hB : B ≤ w.heap.size) : KeepT B w w' := ⟨h.mono hB, fun g _ _ _ _ _ hh => h.block g (Array.getElem?_eq_some_iff.1 hh).1⟩
theorem KeepT.trans {B : Nat} {a b c : World} (h : KeepT B a b) (k : KeepT B b c) : KeepT B a c :=
  ⟨h.below.trans k.below, fun g cs t fz h1 h2 hh => by have e := h.blk g cs t fz h1 h2 hh; exact (k.blk g cs t fz h1 h2 (e.trans hh)).trans e⟩
theorem KeepT.out [Forb] {B p : Nat} {w w' : World} {v v1 : Value} {D : DiskD} (o : Out B w w' p v D v1) : KeepT B w w' := ⟨o.below, o.blk⟩
theorem KeepT.write {B g k : Nat} {w wr : World} {u : Value} (h : KeepT B w wr) (hg : w.heap.size ≤ g) (hB : B ≤ w.heap.size) : KeepT B w (wr.setCell ⟨g, k, none⟩ u) :=
  ⟨h.below.setCell (p := ⟨g, k, none⟩) (by show B ≤ g; omega) u, fun i cs t fz h1 h2 hh => (Below.heap_setCell wr _ u i (by show i ≠ g; have := (Array.getElem?_eq_some_iff.1 hh).1; omega)).trans (h.blk i cs t fz h1 h2 hh)⟩
/-- both disks -/
structure TlS (w wr : World) (p q : Nat) (v : Value) (D : DiskD) (R : RDisk) : Prop where
  is : DiskIs wr w.heap.size p v D
  rk : RkIs wr w.heap.size q R
  below : Below w.heap.size w wr
theorem TlS.below_ {w wr w2 : World} {p q : Nat} {v : Value} {D : DiskD} {R : RDisk} (a : TlS w wr p q v D R) (hb : Below wr.heap.size wr w2) : TlS w w2 p q v D R :=
  ⟨a.is.below hb (Nat.le_refl _), a.rk.below hb, a.below.trans (hb.mono a.below.size)⟩
theorem TlS.rout {w wr w2 : World} {p q : Nat} {v : Value} {D : DiskD} {R R2 : RDisk} (a : TlS w wr p q v D R) (o : RkOut w.heap.size wr w2 q R2) : TlS w w2 p q v D R2 :=
  ⟨o.disk a.rk a.is, o.is, a.below.trans (o.belowB a.below.size)⟩
theorem TlS.out {w wr w2 : World} {p q : Nat} {v v2 : Value} {D D2 : DiskD} {R : RDisk} (a : TlS w wr p q v D R) (o : Out w.heap.size wr w2 p v D2 v2) : TlS w w2 p q v2 D2 R :=
  ⟨o.is, (KeepT.out o).rk a.rk, a.below.trans o.below⟩
/-- amid a round: the copy x, its bytes -/
structure TlX (w wr wx : World) (p : Nat) (v : Value) (D : DiskD) (gX g n : Nat) (cs : Array Value) : Prop where
  is : @DiskIs (Forb.at g) wx w.heap.size p v D
  keep : KeepT w.heap.size wr wx
  x : Blk wx gX 50 cs
  b : BytesW wx g n
  gx : wr.heap.size ≤ gX
  gg : wr.heap.size ≤ g
theorem TlX.hB {w wr wx : World} {p gX g n : Nat} {v : Value} {D : DiskD} {cs : Array Value} (a : TlX w wr wx p v D gX g n cs) (h : w.heap.size ≤ wr.heap.size) : w.heap.size ≤ wx.heap.size := Nat.le_trans h a.keep.below.size
theorem TlX.out {w wr wx w2 : World} {p gX g n : Nat} {v v2 : Value} {D D2 : DiskD} {cs : Array Value} (a : TlX w wr wx p v D gX g n cs) (o : @Out (Forb.at g) w.heap.size wx w2 p v D2 v2) : TlX w wr w2 p v2 D2 gX g n cs := by
  obtain ⟨o1, o2, _, o4, _⟩ := o
  exact ⟨o1, a.keep.trans ⟨o2, o4⟩, (o4 gX _ _ _ (by decide) (by decide) a.x).trans a.x, a.b.keep fun _ _ hh => o4 g _ _ _ (by decide) (by decide) hh, a.gx, a.gg⟩
theorem TlX.drew_ {w wr wx : World} {p gX g n : Nat} {v : Value} {D : DiskD} {cs : Array Value} (a : TlX w wr wx p v D gX g n cs) : TlX w wr wx.drew p v D gX g n cs :=
  ⟨a.is, ⟨a.keep.below.drew, a.keep.blk⟩, a.x, a.b, a.gx, a.gg⟩
theorem TlX.put {w wr wx : World} {p gX g n k : Nat} {v : Value} {D : DiskD} {cs : Array Value} (a : TlX w wr wx p v D gX g n cs) (hw : w.heap.size ≤ wr.heap.size) {z : Int} (h0 : 0 ≤ z) (h1 : z ≤ 255) : TlX w wr (wx.setCell ⟨g, k, none⟩ (.int .u8 z)) p v D gX g n cs := by
  have hb := a.b
  obtain ⟨C, e1, _⟩ := id hb
  refine ⟨DiskIs.wr a.is rfl ⟨C, _, e1⟩, a.keep.write a.gg hw, a.x.far (p := ⟨g, k, none⟩) (fun e => ?_) _, hb.set_ h0 h1, a.gx, a.gg⟩
  have e : gX = g := e
  subst e
  exact blk_type a.x e1 (by decide)
theorem TlX.done {w wr wx : World} {p q gX g n : Nat} {v v0 : Value} {D D0 : DiskD} {R : RDisk} {cs : Array Value} (a : TlX w wr wx p v D gX g n cs) (h : TlS w wr p q v0 D0 R) : TlS w wx p q v D R :=
  ⟨DiskIs.ofF a.is, a.keep.rk h.rk, h.below.trans a.keep.below⟩
/-- how far calls have come -/
structure BudT (D : DiskD) (i u : Nat) : Prop where
  s0 : 0 ≤ D.steps
  s1 : D.steps ≤ i
  f : D.files.length ≤ i
  u : D.used ≤ u
  l0 : -1 ≤ D.left
  l1 : D.left ≤ 9223372036854775807
theorem BudT.fit {D : DiskD} {i u : Nat} (h : BudT D i u) (hi : i ≤ 1000) (hu : u ≤ 100000) : FitN D 1000 :=
  ⟨h.s0, by have := h.s1; omega, by have := h.f; omega, by have := h.u; omega, h.l0, h.l1⟩
theorem cst_doesT {D : DiskD} {i u : Nat} (h : BudT D i u) (x : CallD) (hn : x.n ≤ 9223372036854775807) : BudT (D.doesC x).2.2 (i + 1) (u + x.b.size) := by
  have go : ∀ D', Cst D D' 1 1 x.b.size → BudT D' (i + 1) (u + x.b.size) := fun D' c =>
    ⟨by have := h.s0; have := c.s0; omega, by have := h.s1; have := c.s1; omega, by have := h.f; have := c.f; omega, by have := h.u; have := c.u; omega, c.l0, by have := h.l1; have := c.l1; omega⟩
  have st : ∀ kind a b k all, BudT (D.step kind a b k all).2 (i + 1) (u + x.b.size) := fun kind a b k all => go _ ((cst_step h.l0 kind a b k all).mono (Nat.le_refl _) (Nat.zero_le _) (Nat.zero_le _))
  unfold DiskD.doesC
  split
  · exact go _ (cst_append h.l0 _ _)
  split
  · exact st _ _ _ _ _
  split
  · exact st _ _ _ _ _
  split
  · exact st _ _ _ _ _
  split
  · exact st _ _ _ _ _
  split
  · exact ⟨h.s0, by have := h.s1; show D.steps ≤ _; omega, by have := h.f; show D.files.length ≤ _; omega, by have := h.u; show D.used ≤ _; omega, by show -1 ≤ max (-1) x.n; omega, by show max (-1) x.n ≤ _; omega⟩
  split
  · exact ⟨h.s0, by have := h.s1; show D.steps ≤ _; omega, by have := h.f; show D.files.length ≤ _; omega, by have := h.u; show D.used ≤ _; omega, by show (-1 : Int) ≤ -1; omega, by show (-1 : Int) ≤ _; omega⟩
  split
  · exact go _ ((cst_on x.keep).mono (Nat.zero_le _) (Nat.zero_le _) (Nat.zero_le _))
  · exact ⟨h.s0, by have := h.s1; show D.steps ≤ _; omega, by have := h.f; show D.files.length ≤ _; omega, by have := h.u; show D.used ≤ _; omega, h.l0, h.l1⟩
theorem bud_newT (q : Int) : BudT ⟨[], max 0 q, 0, -1, false⟩ 0 0 := ⟨by show (0 : Int) ≤ 0; decide, by show (0 : Int) ≤ _; decide, Nat.le_refl _, Nat.le_refl _, by show (-1 : Int) ≤ -1; decide, by show (-1 : Int) ≤ _; decide⟩
theorem FitN.crash {D : DiskD} {n : Nat} (h : FitN D n) : FitN { D with off := true, left := -1 } n := ⟨h.steps0, h.steps, h.files, h.used, Int.le_refl _, by show (-1 : Int) ≤ _; omega⟩
theorem FitN.on0 {D : DiskD} {n : Nat} (h : FitN D n) : FitN (D.on []) n := by
  have c := cst_on (D := D) []
  exact ⟨by have := h.steps0; have := c.s0; omega, by have := h.steps; have := c.s1; omega, by have := h.files; have := c.f; omega, by have := h.used; have := c.u; omega, c.l0, by have := h.left1; have := c.l1; omega⟩
theorem FitN.onT {D : DiskD} {n : Nat} (h : FitN D n) (ks : List Int) : FitN (D.on ks) n := by
  have c := cst_on (D := D) ks
  exact ⟨by have := h.steps0; have := c.s0; omega, by have := h.steps; have := c.s1; omega, by have := h.files; have := c.f; omega, by have := h.used; have := c.u; omega, c.l0, by have := h.left1; have := c.l1; omega⟩
theorem BudT.more {D : DiskD} {i u : Nat} (h : BudT D i u) (k : Nat) : BudT D (i + 1) (u + k) := ⟨h.s0, by have := h.s1; omega, by have := h.f; omega, by have := h.u; omega, h.l0, h.l1⟩
theorem rd_blockT {w0 : World} {A : Option Addr} {ks : List Int} {p : Nat} (hk : Rd w0 1 A ks.length (ks.map (Value.int .i64))) (hp : w0.heap.size ≤ p) : 0 < ks.length → ∀ ad, A = some ad → ad.block ≠ p := by
  intro h0 ad hA
  obtain ⟨ad2, e, hb, _⟩ := hk.2 h0
  rw [hA] at e
  injection e with e
  subst e
  omega
section
variable {w wr : World} {p q : Nat} {v : Value} {D : DiskD} {R : RDisk} (a : TlS w wr p q v D R)
include a
theorem tl_crash : Calls Try.prog 12 #[.pointer (some ⟨p, 0, none⟩)] wr fun e w' => e = .returned (.tuple #[]) ∧ ∃ v', TlS w w' p q v' { D with off := true, left := -1 } R :=
  (d_crash a.is a.below.size rfl).mono fun _ _ ⟨he, v', o⟩ => ⟨he, v', a.out o⟩
theorem tl_on0 (hok : ∀ f ∈ D.files, SafeOk f) (hf : Fit D) : Calls Try.prog 13 #[.pointer (some ⟨p, 0, none⟩), .slice none 0 0] wr fun e w' => e = .returned (.tuple #[]) ∧ ∃ v', TlS w w' p q v' (D.on []) R :=
  (d_on0 a.is a.below.size hf hok (A := none) (c := 0) (keep := []) Rd.nil_ (fun h => absurd h (by decide)) (by decide) rfl).mono fun _ _ ⟨he, v', o⟩ => ⟨he, v', a.out o⟩
theorem tl_rcrash : Calls Try.prog 41 #[.pointer (some ⟨q, 0, none⟩)] wr fun e w' => e = .returned (.tuple #[]) ∧ TlS w w' p q v D { R with gone := true, left := -1 } :=
  (rcrash_any wr _ q R a.rk).mono fun _ _ ⟨he, o⟩ => ⟨he, a.rout o⟩
theorem tl_ron0 (hso : SafeR R) (hf : RFit R) : Calls Try.prog 42 #[.pointer (some ⟨q, 0, none⟩), .slice none 0 0] wr fun e w' => e = .returned (.tuple #[]) ∧ TlS w w' p q v D (R.on []) :=
  (ron_any wr _ q R a.rk hf hso none 0 [] Rd.nil_ (fun h => absurd h (by decide)) (by decide)).mono fun _ _ ⟨he, o⟩ => ⟨he, a.rout o⟩
theorem tl_shows (hs : Sim D R) (hf : FitN D 1000) : ∃ vf vs, Blk wr q 77 #[vf, vs, .int .i64 D.quota, .int .i64 D.steps, .int .i64 D.left, .bool D.off] ∧
    Calls Try.prog 40 #[.pointer (some ⟨p, 0, none⟩), vf] wr fun e w' => e = .returned (.bool true) ∧ Below wr.heap.size wr w' := by
  obtain ⟨-, vf, vs, hb, h1, h2⟩ := id a.rk
  rw [hs.quota, hs.done, hs.left, hs.off] at hb
  refine ⟨vf, vs, hb, shows_true wr _ p v D R a.is hf.fit hs (by have := hf.used; unfold DiskD.used at this; omega) vf (by rw [← hs.files]; exact h1)⟩
end
theorem tl_safe {w wr : World} {p q : Nat} {v : Value} {D : DiskD} {R : RDisk} (a : TlS w wr p q v D R) (hsf : R.safe = R.files) (hs : Sim D R) (hf : FitN D 1000) : ∃ vf vs, Blk wr q 77 #[vf, vs, .int .i64 D.quota, .int .i64 D.steps, .int .i64 D.left, .bool D.off] ∧
    Calls Try.prog 40 #[.pointer (some ⟨p, 0, none⟩), vs] wr fun e w' => e = .returned (.bool true) ∧ Below wr.heap.size wr w' := by
  obtain ⟨-, vf, vs, hb, h1, h2⟩ := id a.rk
  rw [hs.quota, hs.done, hs.left, hs.off] at hb
  rw [hsf] at h2
  refine ⟨vf, vs, hb, shows_true wr _ p v D R a.is hf.fit hs (by have := hf.used; unfold DiskD.used at this; omega) vs (by rw [← hs.files]; exact h2)⟩
theorem ron_safe (R : RDisk) (hg : R.gone = true) (ks : List Int) : (R.on ks).safe = (R.on ks).files := by
  unfold RDisk.on
  rw [if_pos hg]
/-- the copy's bytes are laid out -/
theorem TlX.start {w wr w4 : World} {p q gX : Nat} {v : Value} {D : DiskD} {R : RDisk} {C cs : Array Value} {n : Nat} (h : TlS w wr p q v D R) (hb : Below wr.heap.size wr w4) (hx : Blk w4 gX 50 cs) (hg : wr.heap.size ≤ gX) (k : Nat) (u : Value)
    (hC : BytesW ((w4.setCell ⟨gX, k, none⟩ u).alloc (.cells C 5 (C.size, C.size + 1))) w4.heap.size n) : TlX w wr ((w4.setCell ⟨gX, k, none⟩ u).alloc (.cells C 5 (C.size, C.size + 1))) p v D gX w4.heap.size n (cs.setIfInBounds k u) := by
  have h4 := h.below_ hb
  have hm := Moved.set_ w4 gX k none u
  have hsz : (w4.setCell ⟨gX, k, none⟩ u).heap.size = w4.heap.size := by simp
  obtain ⟨e1, e2, rows, e3, e4⟩ := id h4.is
  have hty := own_type e4.1 (t := 50) (by decide)
  have h5 := h4.is.keep hm (fun e => by subst e; exact blk_type e2 hx (by decide)) (by simp) (fun k hk => ⟨fun e => by subst e; exact hty k hk _ _ hx, by simp⟩) (fun _ _ hh => blk_type hx hh (by decide)) (by simp)
  have hF : @DiskIs (Forb.at w4.heap.size) (w4.setCell ⟨gX, k, none⟩ u) w.heap.size p v D := DiskIs.toF h5 fun k hk => by have hk : k = w4.heap.size := hk; omega
  have hk1 := (KeepT.of_below hb h.below.size).write (k := k) (u := u) hg h.below.size
  have hk2 := KeepT.of_below ((Below.refl (w4.setCell ⟨gX, k, none⟩ u).heap.size (w4.setCell ⟨gX, k, none⟩ u)).alloc (Nat.le_refl _) (.cells C 5 (C.size, C.size + 1))) (B := w.heap.size) (by rw [hsz]; exact h4.below.size)
  exact ⟨@DiskIs.below (Forb.at w4.heap.size) _ _ _ _ _ _ _ hF ((Below.refl _ _).alloc (Nat.le_refl _) _) (Nat.le_refl _), hk1.trans hk2, (hx.set_ k u).alloc _, hC, hg, hb.size⟩
theorem tl_does {w wr wx : World} {p gX g cap : Nat} {v : Value} {D : DiskD} {cs : Array Value} {x : CallD} (a : TlX w wr wx p v D gX g x.b.size cs) (hw : Below w.heap.size w wr) (hf : FitN D 1000) (hok : ∀ f ∈ D.files, SafeOk f) (hk : 0 ≤ x.kind ∧ x.kind ≤ 255)
    (hbv : BtR wx (.slice (some ⟨g, 0, none⟩) x.b.size cap) x.b) (hbs : x.b.size ≤ 4000) {A : Option Addr} {c : Nat} (hr : Rd w 1 A x.keep.length (x.keep.map (Value.int .i64))) (hkl : x.keep.length ≤ 40) :
    Calls Try.prog 36 #[.pointer (some ⟨p, 0, none⟩), .agg #[.int .u8 x.kind, .string x.name, .string x.dst, .slice (some ⟨g, 0, none⟩) x.b.size cap, .int .i64 x.n, .slice A x.keep.length c]] wx fun e w' =>
      e = .returned (.tuple #[.int .i64 (D.doesC x).1, .string (D.doesC x).2.1]) ∧ ∃ v', TlX w wr w' p v' (D.doesC x).2.2 gX g x.b.size cs := by
  have hp : w.heap.size ≤ p := by obtain ⟨e1, _⟩ := a.is; exact e1
  refine (@does_c (Forb.at g) wx w.heap.size p v D a.is (a.hB hw.size) a.b.lt hf.fit (by have := hf.used; omega) hok x hk _ hbv (by omega) A c (hr.below (hw.trans a.keep.below)) (rd_blockT hr hp) (by omega)).mono ?_
  rintro e w' ⟨he, v', o⟩
  exact ⟨he, v', a.out o⟩
theorem tl_model {w wr : World} {p q : Nat} {v : Value} {D D0 : DiskD} {R : RDisk} {x : CallD} (a : TlS w wr p q v D R) (hs : Sim D0 R) (hf : FitN D0 1000) (hk : 0 ≤ x.kind ∧ x.kind ≤ 255)
    {bv : Value} (hbv : BtR w bv x.b) (hbs : x.b.size ≤ 4000) {A : Option Addr} {c : Nat} (hr : Rd w 1 A x.keep.length (x.keep.map (Value.int .i64))) (hkl : x.keep.length ≤ 40) :
    Calls Try.prog 39 #[.pointer (some ⟨q, 0, none⟩), .agg #[.int .u8 x.kind, .string x.name, .string x.dst, bv, .int .i64 x.n, .slice A x.keep.length c]] wr fun e w' =>
      e = .returned (.tuple #[.int .i64 (D0.doesC x).1, .string (D0.doesC x).2.1]) ∧ TlS w w' p q v D (R.doesC x).2.2 := by
  have hp : w.heap.size ≤ q := by obtain ⟨e1, _⟩ := a.rk; exact e1
  obtain ⟨h1, h2, _⟩ := sim_does hs x
  rw [h1, h2]
  refine (rdoes_c wr w.heap.size q R a.rk (sim_fit hs hf) (sim_safeR hs) x hk bv (hbv.below a.below) (by omega) A c (hr.below a.below) (rd_blockT hr hp) (by omega)).mono ?_
  rintro e w' ⟨he, o⟩
  exact ⟨he, a.rout o⟩
theorem wrap_u8b (z : Int) : 0 ≤ IntKind.u8.wrap (z + 1) ∧ IntKind.u8.wrap (z + 1) ≤ 255 := by
  rw [IntKind.wrap_u8]
  omega

set_option maxRecDepth 100000 in
set_option maxHeartbeats 16000000 in
theorem tells_true (w0 : World) (quota : Int) (A : Option Addr) (c : Nat) (l : List CallD) (hA0 : CallsT w0 A l) (hF0 : FewT 50 l) :
    Calls Try.prog 25 #[.int .i64 quota, .slice A l.length c] w0 fun e w' => e = .returned (.bool true) ∧ Below w0.heap.size w0 w' := by
  have hl := few_true w0 A c l 50 hA0 hF0 (by decide)
  simp only [Int.cast_ofNat_Int] at hl
  have HL := Lib.hid hl; have HA0 := Lib.hid hA0; have HF := Lib.hid hF0
  clear hl hA0 hF0
  go_enter Try.func25, Try.ntmps25
  go_wp2_with fail
  refine HL.out.mono ?_
  rintro e w ⟨rfl, hb0⟩
  have HB0 := Lib.hid hb0; have HA := Lib.hid (HA0.out.below hb0)
  clear hb0 HL HA0
  go_wp2_with fail
  refine (new_any quota _).mono ?_
  rintro e w1 ⟨rfl, hd1, hb1⟩
  have HD1 := Lib.hid hd1; have HB1 := Lib.hid hb1
  clear hd1 hb1
  go_wp2_with fail
  refine (rnew_any _ quota).mono ?_
  rintro e w2 ⟨rfl, hr2, hb2⟩
  have H2 := Lib.hid (show TlS w w2 w.heap.size w1.heap.size (.slice none 0 0) ⟨[], max 0 quota, 0, -1, false⟩ ⟨[], [], max 0 quota, 0, -1, false⟩ from ⟨HD1.out.below hb2 (Nat.le_refl _), ⟨Nat.le_trans HB1.out.size hr2.1, hr2.2⟩, HB1.out.trans (hb2.mono HB1.out.size)⟩)
  obtain ⟨p, hp⟩ : ∃ p, w.heap.size = p := ⟨_, rfl⟩
  obtain ⟨q, hq⟩ : ∃ q, w1.heap.size = q := ⟨_, rfl⟩
  have H2 := H2.out
  rw [hp, hq] at H2
  rw [hp, hq]
  have H2 := Lib.hid H2
  clear hr2 hb2 HD1 HB1 hp hq
  go_wp2
  go_loopg [7] l.length (fun gf vi wr => ∃ (i u : Nat) (v : Value) (D : DiskD) (R : RDisk), vi = .int .i64 i ∧ i + gf = l.length ∧ TlS w wr p q v D R ∧ Sim D R ∧ BudT D i u ∧ u = sumT (l.take i))
  case atStart => exact ⟨0, 0, _, _, _, rfl, by omega, H2.out, sim_new quota, bud_newT quota, rfl⟩
  case round =>
    clear H2
    obtain ⟨i, u, v, D, R, rfl, hi, htl, hsim, hbud, hu⟩ := hrel
    have hu4 : u ≤ 4000 := by rw [hu]; exact Nat.le_trans (sumT_le l i) HF.out.sum
    have hl50 := HF.out.len
    cases gk with
    | zero =>
      obtain rfl : i = l.length := by omega
      as_aux_lemma =>
      have hfn := hbud.fit (by omega) (by omega)
      have HC := Lib.hid (tl_crash htl); have HTL := Lib.hid htl; have HSIM := Lib.hid hsim; have HFN := Lib.hid hfn
      clear htl hsim hbud hu hi hfn
      go_wp2_with fail
      refine HC.out.mono ?_
      rintro e w3 ⟨rfl, v3, h3⟩
      have HC3 := Lib.hid (tl_on0 h3 (sim_crash HSIM.out).ok HFN.out.crash.fit)
      clear h3 HC
      go_wp2_with fail
      refine HC3.out.mono ?_
      rintro e w4 ⟨rfl, v4, h4⟩
      have HC4 := Lib.hid (tl_rcrash h4)
      clear h4 HC3
      go_wp2_with fail
      refine HC4.out.mono ?_
      rintro e w5 ⟨rfl, h5⟩
      have HC5 := Lib.hid (tl_ron0 h5 (sim_safeR (sim_crash HSIM.out)) (sim_fit (sim_crash HSIM.out) HFN.out.crash))
      clear h5 HC4
      go_wp2_with fail
      refine HC5.out.mono ?_
      rintro e w6 ⟨rfl, h6⟩
      have hs6 := sim_on (sim_crash HSIM.out) []
      obtain ⟨vf, vs, hblk, hC6⟩ := tl_safe h6 (ron_safe _ rfl _) hs6 HFN.out.crash.on0
      have c1 := hblk.cell 1
      simp only [List.getElem?_toArray, List.getElem?_cons_zero, List.getElem?_cons_succ] at c1
      have HC6 := Lib.hid hC6; have HB6 := Lib.hid h6.below
      clear h6 hs6 hC6 HC5 hblk
      go_wp2_with fail
      refine HC6.out.mono ?_
      rintro e w7 ⟨rfl, hb7⟩
      have HB7 := Lib.hid (HB6.out.trans (hb7.mono HB6.out.size))
      clear hb7 HC6 c1
      go_wp2_with fail
      refine (works_any _).mono ?_
      rintro e w8 ⟨rfl, hb8⟩
      have HB8 := Lib.hid (HB0.out.trans ((HB7.out.trans (hb8.mono HB7.out.size)).mono HB0.out.size))
      clear hb8
      go_wp2
      go_ret
      exact ⟨rfl, HB8.out⟩
    | succ gf =>
      obtain ⟨x, hx⟩ : ∃ x, l[i]? = some x := ⟨_, List.getElem?_eq_getElem (by omega)⟩
      obtain ⟨bb, oo, rfl, hlt, hcl⟩ := HA.out (by omega)
      have hcx := hcl i x hx
      obtain ⟨A1, cc1, hb1, hbt⟩ := hcx.bs
      obtain ⟨A2, cc2, hk1, hrd⟩ := hcx.keep
      have hiI : (i : Int) < (l.length : Int) := by omega
      have tr := fun j => htl.below.cell (p := ⟨bb, j, none⟩) hlt
      have x0 : wr.cell? ⟨bb, oo + i * 6, none⟩ = some (.int .u8 x.kind) := (tr _).trans hcx.k
      have x1 : wr.cell? ⟨bb, oo + i * 6 + 1, none⟩ = some (.string x.name) := (tr _).trans hcx.name
      have x2 : wr.cell? ⟨bb, oo + i * 6 + 2, none⟩ = some (.string x.dst) := (tr _).trans hcx.dst
      have x3 : wr.cell? ⟨bb, oo + i * 6 + 3, none⟩ = some (.slice A1 x.b.size cc1) := (tr _).trans hb1
      have x4 : wr.cell? ⟨bb, oo + i * 6 + 4, none⟩ = some (.int .i64 x.n) := (tr _).trans hcx.n
      have x5 : wr.cell? ⟨bb, oo + i * 6 + 5, none⟩ = some (.slice A2 x.keep.length cc2) := (tr _).trans hk1
      have hkb := hcx.kb; have hnb := hcx.nb
      have hxm := List.mem_of_getElem? hx
      have hu1 : u + x.b.size = sumT (l.take (i + 1)) := by rw [sumT_take l i x hx, hu]
      have hxs := HF.out.size x hxm; have hxk := HF.out.keep x hxm
      have HU1 := Lib.hid hu1; have HBT := Lib.hid hbt; have HRD := Lib.hid hrd; have HX := Lib.hid (fun j => (tr j)); have HXC := Lib.hid hcx
      have hkz := Blk.new wr 50 #[.int .u8 0, .string ⟨#[]⟩, .string ⟨#[]⟩, .slice none 0 0, .int .i64 0, .slice none 0 0]
      have hkc := hkz.setRowR #[.int .u8 x.kind, .string x.name, .string x.dst, .slice A1 x.b.size cc1, .int .i64 x.n, .slice A2 x.keep.length cc2]
      have hone : (#[.int .u8 x.kind, .string x.name, .string x.dst, .slice A1 x.b.size cc1, .int .i64 x.n, .slice A2 x.keep.length cc2] : Array Value).all (·.oneCell') = true := by simp [Value.oneCell']
      have hbc := below_rowR ((Below.refl wr.heap.size wr).alloc (Nat.le_refl _) (.cells #[.int .u8 0, .string ⟨#[]⟩, .string ⟨#[]⟩, .slice none 0 0, .int .i64 0, .slice none 0 0] 50)) (Nat.le_refl _) #[.int .u8 x.kind, .string x.name, .string x.dst, .slice A1 x.b.size cc1, .int .i64 x.n, .slice A2 x.keep.length cc2]
      have HKZ := Lib.hid hkz; have HKC := Lib.hid hkc; have HONE := Lib.hid hone; have HTL := Lib.hid htl; have HBC := Lib.hid hbc; have HSIM := Lib.hid hsim; have HBUD := Lib.hid hbud
      have hplr := htl.below.size
      clear hx hcl hcx hb1 hk1 hbt hrd tr hkz hkc hone hbc htl hsim hbud hu hu1 hxm
      go_upto_region 8 with (first | (refine wpList_store_row rfl 50 (.tmp 8) (.tmp 31) rfl wr.heap.size #[.int .u8 x.kind, .string x.name, .string x.dst, .slice A1 x.b.size cc1, .int .i64 x.n, .slice A2 x.keep.length cc2] rfl rfl 50 _ HKZ.out infoCallT rfl HONE.out ?_))
      have X3 := Lib.hid x3
      have HXS := Lib.hid (And.intro x0 (And.intro x1 (And.intro x2 (And.intro x3 (And.intro x4 x5)))))
      clear x0 x1 x2 x3 x4 x5 HKZ HONE
      have hltr := Nat.lt_of_lt_of_le hlt hplr
      obtain ⟨w4, hw4⟩ : ∃ w4, (wr.alloc (.cells #[.int .u8 0, .string ⟨#[]⟩, .string ⟨#[]⟩, .slice none 0 0, .int .i64 0, .slice none 0 0] 50)).setRow wr.heap.size #[.int .u8 x.kind, .string x.name, .string x.dst, .slice A1 x.b.size cc1, .int .i64 x.n, .slice A2 x.keep.length cc2] = w4 := ⟨_, rfl⟩
      obtain ⟨gX, hgX⟩ : ∃ gX, wr.heap.size = gX := ⟨_, rfl⟩
      have hkc4 := HKC.out; have hbc4 := HBC.out
      rw [hw4] at hkc4 hbc4 ⊢
      have hgX1 : wr.heap.size ≤ gX := by omega
      rw [hgX] at hkc4 ⊢
      have x3 := (hbc4.cell (p := ⟨bb, oo + i * 6 + 3, none⟩) hltr).trans X3.out
      have k3 := hkc4.frozen 3; have hgl := hkc4.lt; have kc3 := hkc4.cell 3
      simp only [List.getElem?_toArray, List.getElem?_cons_zero, List.getElem?_cons_succ] at kc3
      have hbw4 : Below w.heap.size w w4 := HTL.out.below.trans (hbc4.mono hplr)
      have hcv1 := (HBT.out.below hbw4).conv
      obtain ⟨C, cap, hcv2, hcap, hC⟩ := text_bytes x.b w4
      have hne5 : w4.heap.size = (w4.setCell ⟨gX, 3, none⟩ (.slice (some ⟨w4.heap.size, 0, none⟩) x.b.size cap)).heap.size := by simp
      have hh5 : ((w4.setCell ⟨gX, 3, none⟩ (.slice (some ⟨w4.heap.size, 0, none⟩) x.b.size cap)).alloc (.cells C 5 (C.size, C.size + 1))).heap[w4.heap.size]? = some (.cells C 5 (C.size, C.size + 1)) := by
        have := heap_alloc_new (w4.setCell ⟨gX, 3, none⟩ (.slice (some ⟨w4.heap.size, 0, none⟩) x.b.size cap)) (.cells C 5 (C.size, C.size + 1))
        rw [← hne5] at this
        exact this
      have hC5 := hC _ hh5
      have hst := TlX.start HTL.out hbc4 hkc4 hgX1 3 (.slice (some ⟨w4.heap.size, 0, none⟩) x.b.size cap) hC5.1
      have hst2 := hC5.2
      obtain ⟨g, hg⟩ : ∃ g, w4.heap.size = g := ⟨_, rfl⟩
      rw [hg] at hst hst2 hcv2
      have HST := Lib.hid hst; have HST2 := Lib.hid hst2
      clear hC hC5 hst hst2 hne5 hh5 hkc4 HKC HBC hgX hw4 hbc4 hbw4 hg
      dsimp only [Act.put]
      go_cut [7] (fun s7 wx => s7 = .int .i64 (i : Int) ∧ TlX w wr wx p v D gX g x.b.size #[.int .u8 x.kind, .string x.name, .string x.dst, .slice (some ⟨g, 0, none⟩) x.b.size cap, .int .i64 x.n, .slice A2 x.keep.length cc2] ∧ BtR wx (.slice (some ⟨g, 0, none⟩) x.b.size cap) x.b)
      case first =>
        go_wp2
        go_meet
        first | exact ⟨rfl, HST.out, HST2.out⟩ | exact ⟨rfl, HST.out.drew_, HST2.out⟩ | exact ⟨rfl, HST.out.drew_.drew_, HST2.out⟩
      case rest =>
      obtain ⟨rfl, hx5, hbt5⟩ := hcut
      obtain ⟨w5, hw5⟩ : ∃ w5, w5 = wc := ⟨_, rfl⟩
      subst hw5
      have HD := Lib.hid (tl_does (c := cc2) hx5 HTL.out.below (HBUD.out.fit (by omega) (by omega)) HSIM.out.ok hkb hbt5 hxs HRD.out hxk)
      have HB1 := Lib.hid (cst_doesT HBUD.out x hnb.2); have HS1 := Lib.hid (sim_does HSIM.out x).2.2
      have k0 := hx5.x.cell 0; have k1 := hx5.x.cell 1; have k2 := hx5.x.cell 2; have k3 := hx5.x.cell 3; have k4 := hx5.x.cell 4; have k5 := hx5.x.cell 5
      simp only [List.getElem?_toArray, List.getElem?_cons_zero, List.getElem?_cons_succ] at k0 k1 k2 k3 k4 k5
      clear hx5 hbt5 HST HST2
      go_wp2_with fail
      refine HD.out.mono ?_
      rintro e w6 ⟨rfl, v1, hx6⟩
      have HM := Lib.hid (fun (wy : World) (a : TlS w wy p q v1 (D.doesC x).2.2 R) => tl_model (c := cc2) a HSIM.out (HBUD.out.fit (by omega) (by omega)) hkb HBT.out hxs HRD.out hxk)
      obtain ⟨E, hE⟩ : ∃ E, (D.doesC x).1 = E := ⟨_, rfl⟩
      obtain ⟨T, hT⟩ : ∃ T, (D.doesC x).2.1 = T := ⟨_, rfl⟩
      obtain ⟨D1, hD1⟩ : ∃ D1, (D.doesC x).2.2 = D1 := ⟨_, rfl⟩
      obtain ⟨R1, hR1⟩ : ∃ R1, (R.doesC x).2.2 = R1 := ⟨_, rfl⟩
      rw [hE, hT, hD1, hR1] at HM
      rw [hD1] at hx6 HB1
      rw [hD1, hR1] at HS1
      rw [hE, hT]
      have HX6 := Lib.hid hx6
      clear HD k0 k1 k2 k3 k4 k5 hx6 hE hT hD1 hR1
      go_wp2
      go_loopg [11] x.b.size (fun gf vk wy => ∃ k : Nat, vk = .int .i64 k ∧ k + gf = x.b.size ∧ TlX w wr wy p v1 D1 gX g x.b.size #[.int .u8 x.kind, .string x.name, .string x.dst, .slice (some ⟨g, 0, none⟩) x.b.size cap, .int .i64 x.n, .slice A2 x.keep.length cc2])
      case atStart => exact ⟨0, rfl, by omega, HX6.out⟩
      case round =>
        clear HX6
        obtain ⟨k, rfl, hk, hxk2⟩ := hrel
        have c3 := hxk2.x.cell 3
        simp only [List.getElem?_toArray, List.getElem?_cons_zero, List.getElem?_cons_succ] at c3
        have HXK := Lib.hid hxk2
        clear hxk2
        cases gk with
        | succ gf2 =>
          have hkI : (k : Int) < (x.b.size : Int) := by omega
          have hkn : k < x.b.size := by omega
          obtain ⟨z, hz0, hz1, hzc, hzf⟩ := HXK.out.b.at_ (k := k) hkn
          go_upto_region 13 with (fail)
          refine wp_region_noPanic ?_
          refine wp_region_held_drew (S := (fun _ => True)) (by kernel_rfl) ?_ (fun hHeld => ?_)
          · exact trivial
          refine wpAnyH_take (i := 0) (v := ?v0g1_) rfl (by kernel_rfl) (by kernel_rfl) (by kernel_rfl) (fun _ _ _ h => h) (Or.inl ⟨by rfl, ?y0g1_⟩) (by assumption) ?r0g1_
          case y0g1_ => (intro w hSw; (try dsimp only at hSw); go_simp; try with_reducible rfl)
          change wpAnyH _ _ _ _ _ _ _ (Act.put _ (some 53) _) _; simp only [Act.put, List.setIfInBounds_toArray, List.set_cons_zero, List.set_cons_succ]
          refine wpAnyH_take (i := 2) (v := ?v2g1_) rfl (by kernel_rfl) (by kernel_rfl) (by kernel_rfl) (fun _ _ _ h => h) (Or.inl ⟨by rfl, ?y2g1_⟩) (by assumption) ?r2g1_
          case y2g1_ => (intro w hSw; (try dsimp only at hSw); go_simp; try with_reducible rfl)
          change wpAnyH _ _ _ _ _ _ _ (Act.put _ (some 55) _) _; simp only [Act.put, List.setIfInBounds_toArray, List.set_cons_zero, List.set_cons_succ]
          refine wpAnyH_take (i := 3) (v := ?v3g1_) rfl (by kernel_rfl) (by kernel_rfl) (by kernel_rfl) (fun _ _ _ h => h) (Or.inl ⟨by rfl, ?y3g1_⟩) (by assumption) ?r3g1_
          case y3g1_ => (intro w hSw; (try dsimp only at hSw); go_simp; try with_reducible rfl)
          change wpAnyH _ _ _ _ _ _ _ (Act.put _ (some 56) _) _; simp only [Act.put, List.setIfInBounds_toArray, List.set_cons_zero, List.set_cons_succ]
          refine wpAnyH_take (i := 5) (v := ?v5g1_) rfl (by kernel_rfl) (by kernel_rfl) (by kernel_rfl) (fun _ _ _ h => h) (Or.inl ⟨by rfl, ?y5g1_⟩) (by assumption) ?r5g1_
          case y5g1_ => (intro w hSw; (try dsimp only at hSw); go_simp; try with_reducible rfl)
          change wpAnyH _ _ _ _ _ _ _ (Act.put _ (some 58) _) _; simp only [Act.put, List.setIfInBounds_toArray, List.set_cons_zero, List.set_cons_succ]
          refine wpAnyH_ready (rs := [1, 4]) (by kernel_rfl) (by simp) ?_
          refine AllReadyH.cons rfl (fun K hK => ?_) (AllReadyH.cons rfl (fun K hK => ?_) AllReadyH.nil)
          · go_simp
            refine hK.out _ _ ?_ (fun hHeld => ?_)
            · exact trivial
            clear hK K
            try simp only [Act.put, List.setIfInBounds_toArray, List.set_cons_zero, List.set_cons_succ]
            refine wpAnyH_ready (rs := [4]) (by kernel_rfl) (by simp) ?_
            refine AllReadyH.cons rfl (fun K hK => ?_) AllReadyH.nil
            go_simp
            refine hK.out _ _ ?_ (fun hHeld => ?_)
            · exact trivial
            clear hK K
            try simp only [Act.put, List.setIfInBounds_toArray, List.set_cons_zero, List.set_cons_succ]
            refine wpAnyH_take (i := 6) (v := ?v6g1_a) rfl (by kernel_rfl) (by kernel_rfl) (by kernel_rfl) (fun _ _ _ h => h) (Or.inl ⟨by rfl, ?y6g1_a⟩) (by assumption) ?r6g1_a
            case y6g1_a => (intro w hSw; (try dsimp only at hSw); go_simp; try with_reducible rfl)
            change wpAnyH _ _ _ _ _ _ _ (Act.put _ (some 59) _) _; simp only [Act.put, List.setIfInBounds_toArray, List.set_cons_zero, List.set_cons_succ]
            refine wpAnyH_ready (rs := [7]) (by kernel_rfl) (by simp) ?_
            refine AllReadyH.cons rfl (fun K hK => ?_) AllReadyH.nil
            go_simp
            refine hK.out _ _ ?_ (fun hHeld => ?_)
            · exact trivial
            clear hK K
            try simp only [Act.put, List.setIfInBounds_toArray, List.set_cons_zero, List.set_cons_succ]
            refine wpAnyH_take (i := 8) (v := ?v8g1_a) rfl (by kernel_rfl) (by kernel_rfl) (by kernel_rfl) (fun _ _ _ h => h) (Or.inl ⟨by rfl, ?y8g1_a⟩) (by assumption) ?r8g1_a
            case y8g1_a => (intro w hSw; (try dsimp only at hSw); go_simp; try with_reducible rfl)
            change wpAnyH _ _ _ _ _ _ _ (Act.put _ (some 61) _) _; simp only [Act.put, List.setIfInBounds_toArray, List.set_cons_zero, List.set_cons_succ]
            refine wpAnyH_take (i := 9) (v := ?v9g1_a) rfl (by kernel_rfl) (by kernel_rfl) (by kernel_rfl) (fun _ _ _ h => h) (Or.inl ⟨by rfl, ?y9g1_a⟩) (by assumption) ?r9g1_a
            case y9g1_a => (intro w hSw; (try dsimp only at hSw); go_simp; try with_reducible rfl)
            change wpAnyH _ _ _ _ _ _ _ (Act.put _ (some 62) _) _; simp only [Act.put, List.setIfInBounds_toArray, List.set_cons_zero, List.set_cons_succ]
            refine wpAnyH_ready (rs := [10]) (by kernel_rfl) (by simp) ?_
            refine AllReadyH.cons rfl (fun K hK => ?_) AllReadyH.nil
            go_simp
            refine hK.out _ _ ?_ (fun hHeld => ?_)
            · exact trivial
            clear hK K
            try dsimp only [Act.put]
            refine wpAnyH_done (by kernel_rfl) ?_ _
            refine NoPanic.normal ?_
            go_wp2
            go_roundg gf2
            case measure => omega
            case rel => exact ⟨k + 1, by go_num, by omega, HXK.out.drew_.put HTL.out.below.size (wrap_u8b z).1 (wrap_u8b z).2⟩
          · go_simp
            refine hK.out _ _ ?_ (fun hHeld => ?_)
            · exact trivial
            clear hK K
            try simp only [Act.put, List.setIfInBounds_toArray, List.set_cons_zero, List.set_cons_succ]
            refine wpAnyH_take (i := 6) (v := ?v6g1_b) rfl (by kernel_rfl) (by kernel_rfl) (by kernel_rfl) (fun _ _ _ h => h) (Or.inl ⟨by rfl, ?y6g1_b⟩) (by assumption) ?r6g1_b
            case y6g1_b => (intro w hSw; (try dsimp only at hSw); go_simp; try with_reducible rfl)
            change wpAnyH _ _ _ _ _ _ _ (Act.put _ (some 59) _) _; simp only [Act.put, List.setIfInBounds_toArray, List.set_cons_zero, List.set_cons_succ]
            refine wpAnyH_ready (rs := [1, 7]) (by kernel_rfl) (by simp) ?_
            refine AllReadyH.cons rfl (fun K hK => ?_) (AllReadyH.cons rfl (fun K hK => ?_) AllReadyH.nil)
            · go_simp
              refine hK.out _ _ ?_ (fun hHeld => ?_)
              · exact trivial
              clear hK K
              try simp only [Act.put, List.setIfInBounds_toArray, List.set_cons_zero, List.set_cons_succ]
              refine wpAnyH_ready (rs := [7]) (by kernel_rfl) (by simp) ?_
              refine AllReadyH.cons rfl (fun K hK => ?_) AllReadyH.nil
              go_simp
              refine hK.out _ _ ?_ (fun hHeld => ?_)
              · exact trivial
              clear hK K
              try simp only [Act.put, List.setIfInBounds_toArray, List.set_cons_zero, List.set_cons_succ]
              refine wpAnyH_take (i := 8) (v := ?v8g1_ba) rfl (by kernel_rfl) (by kernel_rfl) (by kernel_rfl) (fun _ _ _ h => h) (Or.inl ⟨by rfl, ?y8g1_ba⟩) (by assumption) ?r8g1_ba
              case y8g1_ba => (intro w hSw; (try dsimp only at hSw); go_simp; try with_reducible rfl)
              change wpAnyH _ _ _ _ _ _ _ (Act.put _ (some 61) _) _; simp only [Act.put, List.setIfInBounds_toArray, List.set_cons_zero, List.set_cons_succ]
              refine wpAnyH_take (i := 9) (v := ?v9g1_ba) rfl (by kernel_rfl) (by kernel_rfl) (by kernel_rfl) (fun _ _ _ h => h) (Or.inl ⟨by rfl, ?y9g1_ba⟩) (by assumption) ?r9g1_ba
              case y9g1_ba => (intro w hSw; (try dsimp only at hSw); go_simp; try with_reducible rfl)
              change wpAnyH _ _ _ _ _ _ _ (Act.put _ (some 62) _) _; simp only [Act.put, List.setIfInBounds_toArray, List.set_cons_zero, List.set_cons_succ]
              refine wpAnyH_ready (rs := [10]) (by kernel_rfl) (by simp) ?_
              refine AllReadyH.cons rfl (fun K hK => ?_) AllReadyH.nil
              go_simp
              refine hK.out _ _ ?_ (fun hHeld => ?_)
              · exact trivial
              clear hK K
              try dsimp only [Act.put]
              refine wpAnyH_done (by kernel_rfl) ?_ _
              refine NoPanic.normal ?_
              go_wp2
              go_roundg gf2
              case measure => omega
              case rel => exact ⟨k + 1, by go_num, by omega, HXK.out.drew_.put HTL.out.below.size (wrap_u8b z).1 (wrap_u8b z).2⟩
            · go_simp
              refine hK.out _ _ ?_ (fun hHeld => ?_)
              · exact trivial
              clear hK K
              try simp only [Act.put, List.setIfInBounds_toArray, List.set_cons_zero, List.set_cons_succ]
              refine wpAnyH_take (i := 8) (v := ?v8g1_bb) rfl (by kernel_rfl) (by kernel_rfl) (by kernel_rfl) (fun _ _ _ h => h) (Or.inl ⟨by rfl, ?y8g1_bb⟩) (by assumption) ?r8g1_bb
              case y8g1_bb => (intro w hSw; (try dsimp only at hSw); go_simp; try with_reducible rfl)
              change wpAnyH _ _ _ _ _ _ _ (Act.put _ (some 61) _) _; simp only [Act.put, List.setIfInBounds_toArray, List.set_cons_zero, List.set_cons_succ]
              refine wpAnyH_ready (rs := [1]) (by kernel_rfl) (by simp) ?_
              refine AllReadyH.cons rfl (fun K hK => ?_) AllReadyH.nil
              go_simp
              refine hK.out _ _ ?_ (fun hHeld => ?_)
              · exact trivial
              clear hK K
              try simp only [Act.put, List.setIfInBounds_toArray, List.set_cons_zero, List.set_cons_succ]
              refine wpAnyH_take (i := 9) (v := ?v9g1_bb) rfl (by kernel_rfl) (by kernel_rfl) (by kernel_rfl) (fun _ _ _ h => h) (Or.inl ⟨by rfl, ?y9g1_bb⟩) (by assumption) ?r9g1_bb
              case y9g1_bb => (intro w hSw; (try dsimp only at hSw); go_simp; try with_reducible rfl)
              change wpAnyH _ _ _ _ _ _ _ (Act.put _ (some 62) _) _; simp only [Act.put, List.setIfInBounds_toArray, List.set_cons_zero, List.set_cons_succ]
              refine wpAnyH_ready (rs := [10]) (by kernel_rfl) (by simp) ?_
              refine AllReadyH.cons rfl (fun K hK => ?_) AllReadyH.nil
              go_simp
              refine hK.out _ _ ?_ (fun hHeld => ?_)
              · exact trivial
              clear hK K
              try dsimp only [Act.put]
              refine wpAnyH_done (by kernel_rfl) ?_ _
              refine NoPanic.normal ?_
              go_wp2
              go_roundg gf2
              case measure => omega
              case rel => exact ⟨k + 1, by go_num, by omega, HXK.out.drew_.put HTL.out.below.size (wrap_u8b z).1 (wrap_u8b z).2⟩
        | zero =>
          obtain rfl : k = x.b.size := by omega
          as_aux_lemma =>
          have htl7 := HXK.out.done HTL.out
          have HC := Lib.hid (HM.out _ htl7)
          have hlt7 := htl7.below
          obtain ⟨x0, x1, x2, x3, x4, x5⟩ := HXS.out
          have tr := fun j => (HXK.out.keep.below.cell (p := ⟨bb, j, none⟩) hlt)
          have x0 := (tr _).trans x0; have x1 := (tr _).trans x1; have x2 := (tr _).trans x2; have x3 := (tr _).trans x3; have x4 := (tr _).trans x4; have x5 := (tr _).trans x5
          clear HM HXK tr hlt7 htl7 HXS hk
          go_wp2_with fail
          refine HC.out.mono ?_
          rintro e w8 ⟨rfl, htl8⟩
          clear x0 x1 x2 x3 x4 x5 HC c3
          obtain ⟨vf, vs, hblk, hsh⟩ := tl_shows (htl8.below_ (show Below w8.heap.size w8 w8.drew from (Below.refl _ _).drew)) HS1.out (HB1.out.fit (by omega) (by omega))
          have hst8 := steps_any w8.drew _ p v1 D1 (htl8.is.drew_)
          have hof8 := offD_any w8.drew _ p v1 D1 (htl8.is.drew_)
          obtain ⟨st, hst⟩ : ∃ st, D1.steps = st := ⟨_, rfl⟩
          obtain ⟨of, hof⟩ : ∃ of, D1.off = of := ⟨_, rfl⟩
          rw [hst, hof] at hblk
          rw [hst] at hst8
          rw [hof] at hof8
          have q0 := hblk.cell 0; have q3 := hblk.cell 3; have q5 := hblk.cell 5
          simp only [List.getElem?_toArray, List.getElem?_cons_zero, List.getElem?_cons_succ] at q0 q3 q5
          have hqlt := hblk.lt
          have hta : (T.toList == T.toList) = true := by simp
          have HSH := Lib.hid hsh; have HSTP := Lib.hid hst8; have HOFF := Lib.hid hof8; have HTL8 := Lib.hid htl8; have HQ := Lib.hid (And.intro q0 (And.intro q3 q5))
          clear hsh hst8 hof8 htl8 hblk hst hof q0 q3 q5
          go_upto_region 15 with (fail)
          refine wp_region_noPanic ?_
          refine wp_region_held_drew (S := (fun w' => w'.cell? ⟨q, 0, none⟩ = some vf ∧ w'.cell? ⟨q, 3, none⟩ = some (.int .i64 st) ∧ w'.cell? ⟨q, 5, none⟩ = some (.bool of))) (by kernel_rfl) ?_ (fun hHeld => ?_)
          · exact HQ.out
          refine wpAnyH_take (i := 0) (v := ?v0g2_) rfl (by kernel_rfl) (by kernel_rfl) (by kernel_rfl) (fun _ _ _ h => h) (Or.inl ⟨by rfl, ?y0g2_⟩) (by assumption) ?r0g2_
          case y0g2_ => (intro w hSw; (try dsimp only at hSw); go_simp; try with_reducible rfl)
          change wpAnyH _ _ _ _ _ _ _ (Act.put _ (some 72) _) _; simp only [Act.put, List.setIfInBounds_toArray, List.set_cons_zero, List.set_cons_succ]
          refine wpAnyH_take (i := 1) (v := ?v1g2_) rfl (by kernel_rfl) (by kernel_rfl) (by kernel_rfl) (fun _ _ _ h => h) (Or.inl ⟨by rfl, ?y1g2_⟩) (by assumption) ?r1g2_
          case y1g2_ => (intro w hSw; (try dsimp only at hSw); go_simp; try with_reducible rfl)
          change wpAnyH _ _ _ _ _ _ _ (Act.put _ (some 73) _) _; simp only [Act.put, List.setIfInBounds_toArray, List.set_cons_zero, List.set_cons_succ]
          refine wpAnyH_take (i := 2) (v := ?v2g2_) rfl (by kernel_rfl) (by kernel_rfl) (by kernel_rfl) (fun _ _ _ h => h) (Or.inl ⟨by rfl, ?y2g2_⟩) (by assumption) ?r2g2_
          case y2g2_ => (intro w hSw; (try dsimp only at hSw); go_simp; try with_reducible rfl)
          change wpAnyH _ _ _ _ _ _ _ (Act.put _ (some 74) _) _; simp only [Act.put, List.setIfInBounds_toArray, List.set_cons_zero, List.set_cons_succ]
          refine wpAnyH_take (i := 3) (v := ?v3g2_) rfl (by kernel_rfl) (by kernel_rfl) (by kernel_rfl) (fun _ _ _ h => h) (Or.inl ⟨by rfl, ?y3g2_⟩) (by assumption) ?r3g2_
          case y3g2_ => (intro w hSw; (try dsimp only at hSw); go_simp; try with_reducible rfl)
          change wpAnyH _ _ _ _ _ _ _ (Act.put _ (some 75) _) _; simp only [Act.put, List.setIfInBounds_toArray, List.set_cons_zero, List.set_cons_succ]
          refine wpAnyH_take (i := 4) (v := ?v4g2_) rfl (by kernel_rfl) (by kernel_rfl) (by kernel_rfl) (fun _ _ _ h => h) (Or.inl ⟨by rfl, ?y4g2_⟩) (by assumption) ?r4g2_
          case y4g2_ => (intro w hSw; (try dsimp only at hSw); go_simp; try with_reducible rfl)
          change wpAnyH _ _ _ _ _ _ _ (Act.put _ (some 76) _) _; simp only [Act.put, List.setIfInBounds_toArray, List.set_cons_zero, List.set_cons_succ]
          refine wpAnyH_take (i := 5) (v := ?v5g2_) rfl (by kernel_rfl) (by kernel_rfl) (by kernel_rfl) (fun _ _ _ h => h) (Or.inl ⟨by rfl, ?y5g2_⟩) (by assumption) ?r5g2_
          case y5g2_ => (intro w hSw; (try dsimp only at hSw); go_simp; try with_reducible rfl)
          change wpAnyH _ _ _ _ _ _ _ (Act.put _ (some 77) _) _; simp only [Act.put, List.setIfInBounds_toArray, List.set_cons_zero, List.set_cons_succ]
          refine wpAnyH_take (i := 6) (v := ?v6g2_) rfl (by kernel_rfl) (by kernel_rfl) (by kernel_rfl) (fun _ _ _ h => h) (Or.inl ⟨by rfl, ?y6g2_⟩) (by assumption) ?r6g2_
          case y6g2_ => (intro w hSw; (try dsimp only at hSw); go_simp; try with_reducible rfl)
          change wpAnyH _ _ _ _ _ _ _ (Act.put _ (some 78) _) _; simp only [Act.put, List.setIfInBounds_toArray, List.set_cons_zero, List.set_cons_succ]
          refine wpAnyH_take (i := 7) (v := ?v7g2_) rfl (by kernel_rfl) (by kernel_rfl) (by kernel_rfl) (fun _ _ _ h => h) (Or.inl ⟨by rfl, ?y7g2_⟩) (by assumption) ?r7g2_
          case y7g2_ => (intro w hSw; (try dsimp only at hSw); go_simp; try with_reducible rfl)
          change wpAnyH _ _ _ _ _ _ _ (Act.put _ (some 79) _) _; simp only [Act.put, List.setIfInBounds_toArray, List.set_cons_zero, List.set_cons_succ]
          refine wpAnyH_take (i := 8) (v := ?v8g2_) rfl (by kernel_rfl) (by kernel_rfl) (by kernel_rfl) (fun _ _ _ h => h) (Or.inl ⟨by rfl, ?y8g2_⟩) (by assumption) ?r8g2_
          case y8g2_ => (intro w hSw; (try dsimp only at hSw); go_simp; try with_reducible rfl)
          change wpAnyH _ _ _ _ _ _ _ (Act.put _ (some 80) _) _; simp only [Act.put, List.setIfInBounds_toArray, List.set_cons_zero, List.set_cons_succ]
          refine wpAnyH_take (i := 9) (v := ?v9g2_) rfl (by kernel_rfl) (by kernel_rfl) (by kernel_rfl) (fun _ _ _ h => h) (Or.inl ⟨by rfl, ?y9g2_⟩) (by assumption) ?r9g2_
          case y9g2_ => (intro w hSw; (try dsimp only at hSw); go_simp; try with_reducible rfl)
          change wpAnyH _ _ _ _ _ _ _ (Act.put _ (some 81) _) _; simp only [Act.put, List.setIfInBounds_toArray, List.set_cons_zero, List.set_cons_succ]
          refine wpAnyH_take (i := 11) (v := ?v11g2_) rfl (by kernel_rfl) (by kernel_rfl) (by kernel_rfl) (fun _ _ _ h => h) (Or.inl ⟨by rfl, ?y11g2_⟩) (by assumption) ?r11g2_
          case y11g2_ => (intro w hSw; (try dsimp only at hSw); go_simp; try with_reducible rfl)
          change wpAnyH _ _ _ _ _ _ _ (Act.put _ (some 83) _) _; simp only [Act.put, List.setIfInBounds_toArray, List.set_cons_zero, List.set_cons_succ]
          refine wpAnyH_take (i := 12) (v := ?v12g2_) rfl (by kernel_rfl) (by kernel_rfl) (by kernel_rfl) (fun _ _ _ h => h) (Or.inl ⟨by rfl, ?y12g2_⟩) (by assumption) ?r12g2_
          case y12g2_ => (intro w hSw; (try dsimp only at hSw); go_simp; try with_reducible rfl)
          change wpAnyH _ _ _ _ _ _ _ (Act.put _ (some 84) _) _; simp only [Act.put, List.setIfInBounds_toArray, List.set_cons_zero, List.set_cons_succ]
          refine wpAnyH_take (i := 13) (v := ?v13g2_) rfl (by kernel_rfl) (by kernel_rfl) (by kernel_rfl) (fun _ _ _ h => h) (Or.inl ⟨by rfl, ?y13g2_⟩) (by assumption) ?r13g2_
          case y13g2_ => (intro w hSw; (try dsimp only at hSw); go_simp; try with_reducible rfl)
          change wpAnyH _ _ _ _ _ _ _ (Act.put _ (some 85) _) _; simp only [Act.put, List.setIfInBounds_toArray, List.set_cons_zero, List.set_cons_succ]
          refine wpAnyH_take (i := 14) (v := ?v14g2_) rfl (by kernel_rfl) (by kernel_rfl) (by kernel_rfl) (fun _ _ _ h => h) (Or.inl ⟨by rfl, ?y14g2_⟩) (by assumption) ?r14g2_
          case y14g2_ => (intro w hSw; (try dsimp only at hSw); obtain ⟨s1, s2, s3⟩ := hSw; go_simp; try with_reducible rfl)
          change wpAnyH _ _ _ _ _ _ _ (Act.put _ (some 86) _) _; simp only [Act.put, List.setIfInBounds_toArray, List.set_cons_zero, List.set_cons_succ]
          refine wpAnyH_ready (rs := [10]) (by kernel_rfl) (by simp) ?_
          refine AllReadyH.cons rfl (fun K hK => ?_) AllReadyH.nil
          go_simp
          refine (HSTP.out).mono ?_
          rintro e w9 ⟨rfl, rfl⟩
          dsimp only
          refine hK.out _ _ ?_ (fun hHeld => ?_)
          · exact HQ.out
          clear hK K
          try simp only [Act.put, List.setIfInBounds_toArray, List.set_cons_zero, List.set_cons_succ]
          refine wpAnyH_take (i := 15) (v := ?v15g2_) rfl (by kernel_rfl) (by kernel_rfl) (by kernel_rfl) (fun _ _ _ h => h) (Or.inl ⟨by rfl, ?y15g2_⟩) (by assumption) ?r15g2_
          case y15g2_ => (intro w hSw; (try dsimp only at hSw); go_simp; try with_reducible rfl)
          change wpAnyH _ _ _ _ _ _ _ (Act.put _ (some 87) _) _; simp only [Act.put, List.setIfInBounds_toArray, List.set_cons_zero, List.set_cons_succ]
          refine wpAnyH_take (i := 16) (v := ?v16g2_) rfl (by kernel_rfl) (by kernel_rfl) (by kernel_rfl) (fun _ _ _ h => h) (Or.inl ⟨by rfl, ?y16g2_⟩) (by assumption) ?r16g2_
          case y16g2_ => (intro w hSw; (try dsimp only at hSw); go_simp; try with_reducible rfl)
          change wpAnyH _ _ _ _ _ _ _ (Act.put _ (some 88) _) _; simp only [Act.put, List.setIfInBounds_toArray, List.set_cons_zero, List.set_cons_succ]
          refine wpAnyH_take (i := 17) (v := ?v17g2_) rfl (by kernel_rfl) (by kernel_rfl) (by kernel_rfl) (fun _ _ _ h => h) (Or.inl ⟨by rfl, ?y17g2_⟩) (by assumption) ?r17g2_
          case y17g2_ => (intro w hSw; (try dsimp only at hSw); go_simp; try with_reducible rfl)
          change wpAnyH _ _ _ _ _ _ _ (Act.put _ (some 89) _) _; simp only [Act.put, List.setIfInBounds_toArray, List.set_cons_zero, List.set_cons_succ]
          refine wpAnyH_take (i := 18) (v := ?v18g2_) rfl (by kernel_rfl) (by kernel_rfl) (by kernel_rfl) (fun _ _ _ h => h) (Or.inl ⟨by rfl, ?y18g2_⟩) (by assumption) ?r18g2_
          case y18g2_ => (intro w hSw; (try dsimp only at hSw); go_simp; try with_reducible rfl)
          change wpAnyH _ _ _ _ _ _ _ (Act.put _ (some 90) _) _; simp only [Act.put, List.setIfInBounds_toArray, List.set_cons_zero, List.set_cons_succ]
          refine wpAnyH_take (i := 20) (v := ?v20g2_) rfl (by kernel_rfl) (by kernel_rfl) (by kernel_rfl) (fun _ _ _ h => h) (Or.inl ⟨by rfl, ?y20g2_⟩) (by assumption) ?r20g2_
          case y20g2_ => (intro w hSw; (try dsimp only at hSw); go_simp; try with_reducible rfl)
          change wpAnyH _ _ _ _ _ _ _ (Act.put _ (some 92) _) _; simp only [Act.put, List.setIfInBounds_toArray, List.set_cons_zero, List.set_cons_succ]
          refine wpAnyH_take (i := 21) (v := ?v21g2_) rfl (by kernel_rfl) (by kernel_rfl) (by kernel_rfl) (fun _ _ _ h => h) (Or.inl ⟨by rfl, ?y21g2_⟩) (by assumption) ?r21g2_
          case y21g2_ => (intro w hSw; (try dsimp only at hSw); go_simp; try with_reducible rfl)
          change wpAnyH _ _ _ _ _ _ _ (Act.put _ (some 93) _) _; simp only [Act.put, List.setIfInBounds_toArray, List.set_cons_zero, List.set_cons_succ]
          refine wpAnyH_take (i := 22) (v := ?v22g2_) rfl (by kernel_rfl) (by kernel_rfl) (by kernel_rfl) (fun _ _ _ h => h) (Or.inl ⟨by rfl, ?y22g2_⟩) (by assumption) ?r22g2_
          case y22g2_ => (intro w hSw; (try dsimp only at hSw); go_simp; try with_reducible rfl)
          change wpAnyH _ _ _ _ _ _ _ (Act.put _ (some 94) _) _; simp only [Act.put, List.setIfInBounds_toArray, List.set_cons_zero, List.set_cons_succ]
          refine wpAnyH_take (i := 23) (v := ?v23g2_) rfl (by kernel_rfl) (by kernel_rfl) (by kernel_rfl) (fun _ _ _ h => h) (Or.inl ⟨by rfl, ?y23g2_⟩) (by assumption) ?r23g2_
          case y23g2_ => (intro w hSw; (try dsimp only at hSw); obtain ⟨s1, s2, s3⟩ := hSw; go_simp; try with_reducible rfl)
          change wpAnyH _ _ _ _ _ _ _ (Act.put _ (some 95) _) _; simp only [Act.put, List.setIfInBounds_toArray, List.set_cons_zero, List.set_cons_succ]
          refine wpAnyH_ready (rs := [19]) (by kernel_rfl) (by simp) ?_
          refine AllReadyH.cons rfl (fun K hK => ?_) AllReadyH.nil
          go_simp
          refine (HOFF.out).mono ?_
          rintro e w9 ⟨rfl, rfl⟩
          dsimp only
          refine hK.out _ _ ?_ (fun hHeld => ?_)
          · exact HQ.out
          clear hK K
          try simp only [Act.put, List.setIfInBounds_toArray, List.set_cons_zero, List.set_cons_succ]
          refine wpAnyH_take (i := 24) (v := ?v24g2_) rfl (by kernel_rfl) (by kernel_rfl) (by kernel_rfl) (fun _ _ _ h => h) (Or.inl ⟨by rfl, ?y24g2_⟩) (by assumption) ?r24g2_
          case y24g2_ => (intro w hSw; (try dsimp only at hSw); go_simp; try with_reducible rfl)
          change wpAnyH _ _ _ _ _ _ _ (Act.put _ (some 96) _) _; simp only [Act.put, List.setIfInBounds_toArray, List.set_cons_zero, List.set_cons_succ]
          refine wpAnyH_take (i := 25) (v := ?v25g2_) rfl (by kernel_rfl) (by kernel_rfl) (by kernel_rfl) (fun _ _ _ h => h) (Or.inl ⟨by rfl, ?y25g2_⟩) (by assumption) ?r25g2_
          case y25g2_ => (intro w hSw; (try dsimp only at hSw); go_simp; try with_reducible rfl)
          change wpAnyH _ _ _ _ _ _ _ (Act.put _ (some 97) _) _; simp only [Act.put, List.setIfInBounds_toArray, List.set_cons_zero, List.set_cons_succ]
          refine wpAnyH_take (i := 26) (v := ?v26g2_) rfl (by kernel_rfl) (by kernel_rfl) (by kernel_rfl) (fun _ _ _ h => h) (Or.inl ⟨by rfl, ?y26g2_⟩) (by assumption) ?r26g2_
          case y26g2_ => (intro w hSw; (try dsimp only at hSw); go_simp; try with_reducible rfl)
          change wpAnyH _ _ _ _ _ _ _ (Act.put _ (some 98) _) _; simp only [Act.put, List.setIfInBounds_toArray, List.set_cons_zero, List.set_cons_succ]
          refine wpAnyH_take (i := 27) (v := ?v27g2_) rfl (by kernel_rfl) (by kernel_rfl) (by kernel_rfl) (fun _ _ _ h => h) (Or.inl ⟨by rfl, ?y27g2_⟩) (by assumption) ?r27g2_
          case y27g2_ => (intro w hSw; (try dsimp only at hSw); go_simp; try with_reducible rfl)
          change wpAnyH _ _ _ _ _ _ _ (Act.put _ (some 99) _) _; simp only [Act.put, List.setIfInBounds_toArray, List.set_cons_zero, List.set_cons_succ]
          refine wpAnyH_take (i := 28) (v := ?v28g2_) rfl (by kernel_rfl) (by kernel_rfl) (by kernel_rfl) (fun _ _ _ h => h) (Or.inl ⟨by rfl, ?y28g2_⟩) (by assumption) ?r28g2_
          case y28g2_ => (intro w hSw; (try dsimp only at hSw); go_simp; try with_reducible rfl)
          change wpAnyH _ _ _ _ _ _ _ (Act.put _ (some 100) _) _; simp only [Act.put, List.setIfInBounds_toArray, List.set_cons_zero, List.set_cons_succ]
          refine wpAnyH_take (i := 29) (v := ?v29g2_) rfl (by kernel_rfl) (by kernel_rfl) (by kernel_rfl) (fun _ _ _ h => h) (Or.inl ⟨by rfl, ?y29g2_⟩) (by assumption) ?r29g2_
          case y29g2_ => (intro w hSw; (try dsimp only at hSw); go_simp; try with_reducible rfl)
          change wpAnyH _ _ _ _ _ _ _ (Act.put _ (some 101) _) _; simp only [Act.put, List.setIfInBounds_toArray, List.set_cons_zero, List.set_cons_succ]
          refine wpAnyH_take (i := 30) (v := ?v30g2_) rfl (by kernel_rfl) (by kernel_rfl) (by kernel_rfl) (fun _ _ _ h => h) (Or.inl ⟨by rfl, ?y30g2_⟩) (by assumption) ?r30g2_
          case y30g2_ => (intro w hSw; (try dsimp only at hSw); go_simp; try with_reducible rfl)
          change wpAnyH _ _ _ _ _ _ _ (Act.put _ (some 102) _) _; simp only [Act.put, List.setIfInBounds_toArray, List.set_cons_zero, List.set_cons_succ]
          refine wpAnyH_take (i := 31) (v := ?v31g2_) rfl (by kernel_rfl) (by kernel_rfl) (by kernel_rfl) (fun _ _ _ h => h) (Or.inl ⟨by rfl, ?y31g2_⟩) (by assumption) ?r31g2_
          case y31g2_ => (intro w hSw; (try dsimp only at hSw); obtain ⟨s1, s2, s3⟩ := hSw; go_simp; try with_reducible rfl)
          change wpAnyH _ _ _ _ _ _ _ (Act.put _ (some 103) _) _; simp only [Act.put, List.setIfInBounds_toArray, List.set_cons_zero, List.set_cons_succ]
          refine wpAnyH_ready (rs := [32]) (by kernel_rfl) (by simp) ?_
          refine AllReadyH.cons rfl (fun K hK => ?_) AllReadyH.nil
          go_simp
          refine (HSH.out).mono ?_
          rintro e w9 ⟨rfl, hb9⟩
          have HB9 := Lib.hid hb9
          clear hb9
          dsimp only
          refine hK.out _ _ ?_ (fun hHeld => ?_)
          · exact ⟨(HB9.out.cell (p := ⟨q, 0, none⟩) hqlt).trans HQ.out.1, (HB9.out.cell (p := ⟨q, 3, none⟩) hqlt).trans HQ.out.2.1, (HB9.out.cell (p := ⟨q, 5, none⟩) hqlt).trans HQ.out.2.2⟩
          clear hK K
          try simp only [Act.put, List.setIfInBounds_toArray, List.set_cons_zero, List.set_cons_succ]
          refine wpAnyH_take (i := 33) (v := ?v33g2_) rfl (by kernel_rfl) (by kernel_rfl) (by kernel_rfl) (fun _ _ _ h => h) (Or.inl ⟨by rfl, ?y33g2_⟩) (by assumption) ?r33g2_
          case y33g2_ => (intro w hSw; (try dsimp only at hSw); go_simp; try with_reducible rfl)
          change wpAnyH _ _ _ _ _ _ _ (Act.put _ (some 105) _) _; simp only [Act.put, List.setIfInBounds_toArray, List.set_cons_zero, List.set_cons_succ]
          refine wpAnyH_take (i := 34) (v := ?v34g2_) rfl (by kernel_rfl) (by kernel_rfl) (by kernel_rfl) (fun _ _ _ h => h) (Or.inl ⟨by rfl, ?y34g2_⟩) (by assumption) ?r34g2_
          case y34g2_ => (intro w hSw; (try dsimp only at hSw); go_simp; try with_reducible rfl)
          change wpAnyH _ _ _ _ _ _ _ (Act.put _ (some 106) _) _; simp only [Act.put, List.setIfInBounds_toArray, List.set_cons_zero, List.set_cons_succ]
          refine wpAnyH_done (by kernel_rfl) ?_ _
          refine NoPanic.normal ?_
          go_wp2
          go_roundg gf
          case measure => omega
          case rel => exact ⟨i + 1, u + x.b.size, v1, D1, R1, by go_num, by omega, (HTL8.out.below_ (show Below w8.heap.size w8 w8.drew from (Below.refl _ _).drew)).below_ HB9.out, HS1.out, HB1.out, HU1.out⟩
end Go.Proofs.Ytcfcfpphhaknnaa
