/- A store of checkpoints: Newest; Steps and Newest of a nil store. A block's cells written anew. The reference's disk: rows of files in memory; get, without, with, long, may. -/
import Derived.Test.YthmcimpdehgaoaaGreatDoorPk20
import Derived.Test.YthmcimpdehgaoaaGreatDoorMem
import Derived.Laws.Tables
import Derived.Test.YthmcimpdehgaoaaGreatDoorDk5
import Derived.Test.YthmcimpdehgaoaaGreatDoorPk9
import Derived.Deep.LoopGhost
namespace Go.Proofs.YthmcimpdehgaoaaGreatDoor
open Go.RowKit Go.Shelf Go.Maps
attribute [local go_sem] Oper.semAt_some

/-- the last one, and whether there is one -/
def newL (l : List Nat) : Int × Bool := match l.getLast? with
  | none => (0, false)
  | some n => ((n : Int), true)
theorem newL_snoc (l : List Nat) (x : Nat) : newL (l ++ [x]) = ((x : Int), true) := by unfold newL; rw [List.getLast?_concat]
theorem newestC_eq (D : DiskD) : newestC D = newL (stepsC D) := rfl
/-- what holds between two rounds -/
def NiS (w : World) (pre : List Nat) (W : World) : Prop :=
  Blk W w.heap.size 3 #[.int .i64 (newL pre).1] ∧ Blk W (w.heap.size + 1) 4 #[.bool (newL pre).2] ∧ Below w.heap.size w W ∧ w.heap.size + 2 ≤ W.heap.size
theorem NiS.step {w : World} {pre : List Nat} {X Y : World} (h : NiS w pre X) (hb : Below X.heap.size X Y) : NiS w pre Y := by
  obtain ⟨h1, h2, h3, h4⟩ := h
  exact ⟨h1.below hb h1.lt, h2.below hb h2.lt, h3.trans (hb.mono (by omega)), Nat.le_trans h4 hb.size⟩
theorem NiS.own {w : World} : OwnFrom (w.heap.size + 2) (NiS w) := by
  rintro pre W W' row ⟨h1, h2, hB, hz⟩ hg hr
  exact ⟨h1.grown hg (fun e => by have := (hr _ e.symm).1; omega), h2.grown hg (fun e => by have := (hr _ e.symm).1; omega), hB.grown hg hB.size (fun k e => by have := (hr k e).1; omega), Nat.le_trans hz hg.size⟩
theorem setCell_same {w : World} {g : Nat} {t : TypeId} {v : Value} (h : Blk w g t #[v]) : w.setCell ⟨g, 0, none⟩ v = w := by
  have hb := h
  unfold Blk at hb
  obtain ⟨hlt, hg⟩ := Array.getElem?_eq_some_iff.1 hb
  have : (w.setCell ⟨g, 0, none⟩ v).heap = w.heap := by
    apply Array.ext
    · simp [World.setCell]
    · intro i h1 h2
      by_cases hi : i = g
      · subst hi
        have := h.set_ 0 v
        unfold Blk at this
        have e := (Array.getElem?_eq_some_iff.1 this).2
        rw [e, hg]
        rfl
      · have := Below.heap_setCell w ⟨g, 0, none⟩ v i hi
        rw [Array.getElem?_eq_getElem h1, Array.getElem?_eq_getElem h2] at this
        injection this
  cases w
  simp only [World.setCell] at this ⊢
  congr
set_option maxRecDepth 100000 in
set_option maxHeartbeats 4000000 in
theorem cnewest_it (w : World) (pa : Option Addr) (L : List Nat) (N : Nat) (hit : IterC w pa L N) :
    Calls Tryz.prog 16 #[.pointer pa] w fun e w' => e = .returned (.tuple #[.int .i64 (newL L).1, .bool (newL L).2]) ∧ Below w.heap.size w w' := by
  obtain ⟨N1, hN1⟩ : ∃ N1, (newL L).1 = N1 := ⟨_, rfl⟩
  obtain ⟨N2, hN2⟩ : ∃ N2, (newL L).2 = N2 := ⟨_, rfl⟩
  rw [hN1, hN2]
  have HN1 := Lib.hid hN1; have HN2 := Lib.hid hN2
  clear hN1 hN2
  refine (callsIn_wide (n := 5)).1 ?_
  refine callsIn_of_wp_marks Tryz.func16 rfl trivial ?_ rfl
  simp only [Tryz.ntmps16, List.size_toArray, List.length_cons, List.length_nil, Nat.reduceAdd, Nat.reduceSub, Array.replicate_succ, Array.replicate_zero, List.push_toArray, List.append_toArray, List.nil_append, List.cons_append]
  have hmf : ∀ (fn : Fn) (first cap : Array Value) (w : World), (Instr.makeFunc fn first cap).run Tryz.prog w = .ok (.func fn first cap) w := fun _ _ _ _ => rfl
  gi_wp2
  clear hmf
  have hsz2 : ((w.alloc (.cells #[.int .i64 0] 3)).alloc (.cells #[.bool false] 4)).heap.size = w.heap.size + 2 := by simp
  have hbx := (Blk.new w 3 #[.int .i64 0]).alloc (.cells #[.bool false] 4)
  have hby := Blk.new (w.alloc (.cells #[.int .i64 0] 3)) 4 #[.bool false]
  rw [World.size_alloc] at hby
  have hbz : Below w.heap.size w ((w.alloc (.cells #[.int .i64 0] 3)).alloc (.cells #[.bool false] 4)) := ((Below.refl _ _).alloc (Nat.le_refl _) _).alloc (by simp) _
  obtain ⟨W2, hW2⟩ : ∃ W2, (w.alloc (.cells #[.int .i64 0] 3)).alloc (.cells #[.bool false] 4) = W2 := ⟨_, rfl⟩
  rw [hW2] at hsz2 hbx hby hbz ⊢
  clear hW2
  have hNI0 : NiS w [] W2 := ⟨hbx, hby, hbz, by omega⟩
  refine wpIn_rangeFunc_b (α := Nat) (F := Fence.wide) (n := 5) rfl (fun h => by cases h) (gf := 47) (ba := #[.pointer pa]) (lb := #[]) rfl trivial (enters_of Tryz.func47 (by kernel_rfl) rfl)
    (encs := fun x => #[.int .i64 (x : Int)]) (fun _ => rfl) (Kp := KpR w.heap.size w.heap.size fun k => k = w.heap.size ∨ k = w.heap.size + 1)
    (St := fun X Y => Below X.heap.size X Y) (S := fun xs => xs = L) (N := N) (Ok := fun _ => True) ?seq (fun h k => h.trans k) ?kb ?st (NiS w) (by rw [hsz2]; exact NiS.own) (fun _ _ _ h hs => h.step hs) hNI0
    (fun x => { tmps := #[.pointer pa, undef, .pointer (some ⟨w.heap.size, 0, none⟩), .pointer (some ⟨w.heap.size + 1, 0, none⟩), .int .i64 (x : Int), .pointer pa, .func (.func 47) #[.pointer pa] #[], .int .i64 (x : Int), undef, undef, undef], defers := [] }) ?assign ?body ?done
  case seq =>
    intro l J W hb hJ hY h0
    have hbw : Below w.heap.size w W := hbz.trans (hb.mono (by omega))
    refine (hit w.heap.size (fun k => k = w.heap.size ∨ k = w.heap.size + 1) l J hJ (fun pre x W1 hj hl => hY pre x W1 hj hl trivial) W hbw (by have := hb.size; omega) (fun k e => by have := hb.size; omega) ?_ h0).mono ?_
    · rintro k ⟨u, hu, ho⟩
      have hc := (hbx.below hb (by omega)).cell 0
      rw [hu] at hc
      simp at hc
      subst hc
      cases ho
    · rintro e W' ⟨hv, hj⟩
      exact ⟨hv, _, rfl, hj⟩
  case kb =>
    intro W l o o' hl ho hc _
    exact KpR.putObj (by omega) (by omega) ho hc
  case st =>
    intro W W' k o hst hk _
    exact (hst.block k (Array.getElem?_eq_some_iff.1 hk).1).trans hk
  case assign =>
    intro l x W K hK
    gi_wp2
    exact hK
  case body =>
    rintro l pre x W ⟨h1, h2, hB, hz⟩ hlen -
    have c0 := h1.cell 0; have f0 := h1.frozen 0
    have c1 := (h2.far (p := ⟨w.heap.size, 0, none⟩) (by show w.heap.size + 1 ≠ w.heap.size; omega) (.int .i64 (x : Int))).cell 0; have f1 := (h2.far (p := ⟨w.heap.size, 0, none⟩) (by show w.heap.size + 1 ≠ w.heap.size; omega) (.int .i64 (x : Int))).frozen 0
    simp only [List.getElem?_toArray, List.getElem?_cons_zero] at c0 c1
    have hne : w.heap.size + 1 ≠ w.heap.size := by omega
    have hfin : KeepsOthers W ((W.setCell ⟨w.heap.size, 0, none⟩ (.int .i64 (x : Int))).setCell ⟨w.heap.size + 1, 0, none⟩ (.bool true)) ∧ KpR w.heap.size w.heap.size (fun k => k = w.heap.size ∨ k = w.heap.size + 1) W ((W.setCell ⟨w.heap.size, 0, none⟩ (.int .i64 (x : Int))).setCell ⟨w.heap.size + 1, 0, none⟩ (.bool true)) ∧
        NiS w (pre ++ [x]) ((W.setCell ⟨w.heap.size, 0, none⟩ (.int .i64 (x : Int))).setCell ⟨w.heap.size + 1, 0, none⟩ (.bool true)) := by
      have hbl : Below w.heap.size W ((W.setCell ⟨w.heap.size, 0, none⟩ (.int .i64 (x : Int))).setCell ⟨w.heap.size + 1, 0, none⟩ (.bool true)) := ((Below.refl _ W).setCell (p := ⟨w.heap.size, 0, none⟩) (Nat.le_refl _) _).setCell (p := ⟨w.heap.size + 1, 0, none⟩) (by show w.heap.size ≤ w.heap.size + 1; omega) _
      have hk0 : Blk ((W.setCell ⟨w.heap.size, 0, none⟩ (.int .i64 (x : Int))).setCell ⟨w.heap.size + 1, 0, none⟩ (.bool true)) w.heap.size 3 #[.int .i64 (x : Int)] := (h1.set_ 0 (.int .i64 (x : Int))).far (p := ⟨w.heap.size + 1, 0, none⟩) (by show w.heap.size ≠ w.heap.size + 1; omega) _
      refine ⟨(KeepsOthers.setCell _ _ _).trans (KeepsOthers.setCell _ _ _), ⟨hbl, fun k cs t fz hk hx _ => ?_, fun k hk => ?_⟩, ?_, ?_, hB.trans hbl, by simpa using hz⟩
      · exact (Below.heap_setCell _ _ _ _ (by show k ≠ w.heap.size + 1; exact fun e => hx (.inr e))).trans (Below.heap_setCell _ _ _ _ (by show k ≠ w.heap.size; exact fun e => hx (.inl e)))
      · obtain ⟨u, hu, ho⟩ := hk
        have := hk0.cell 0
        rw [hu] at this
        simp at this
        subst this
        cases ho
      · rw [newL_snoc]; exact hk0
      · rw [newL_snoc]
        exact (h2.far (p := ⟨w.heap.size, 0, none⟩) hne (.int .i64 (x : Int))).set_ 0 (.bool true)
    have HF := Lib.hid hfin
    clear h1 h2 hB hfin
    gi_wp2
    obtain ⟨r1, r2, r3⟩ := HF.out
    exact ⟨r1.from _, r2, r3⟩
  case done =>
    rintro D0 xs W hD rfl ⟨h1, h2, hB, hz⟩ hK
    rw [HN1.out] at h1
    rw [HN2.out] at h2
    clear HN1 HN2
    have c0 := h1.cell 0; have f0 := h1.frozen 0
    have c1 := h2.cell 0; have f1 := h2.frozen 0
    simp only [List.getElem?_toArray, List.getElem?_cons_zero] at c0 c1
    have e0 := setCell_same h1.drew; have e1 := setCell_same h2.drew
    have hD2 : D0 < W.heap.size := (Array.getElem?_eq_some_iff.1 hK).1
    have HBL := Lib.hid hB; have HKD := Lib.hid hK; have HK0 := Lib.hid h1; have HK1 := Lib.hid h2
    clear h1 h2 hB hK
    gi_wp2
    gi_region
    all_goals gi_wp2
    have hKd : W.drew.heap[D0]? = some (.deferred (some [])) := HKD.out
    have hnD0 : w.heap.size ≠ D0 := by omega
    have hnD1 : w.heap.size + 1 ≠ D0 := by omega
    have k0 : Blk (W.drew.putObj D0 (.deferred none)) w.heap.size 3 #[.int .i64 N1] := (World.putObj_heap_other hnD0).trans HK0.out
    have k1 : Blk (W.drew.putObj D0 (.deferred none)) (w.heap.size + 1) 4 #[.bool N2] := (World.putObj_heap_other hnD1).trans HK1.out
    have d0 := k0.cell 0; have d1 := k1.cell 0
    simp only [List.getElem?_toArray, List.getElem?_cons_zero] at d0 d1
    have hbp : Below w.heap.size w (W.drew.putObj D0 (.deferred none)) := (HBL.out.drew).grown (grownBy_putObj' W.drew D0 _) HBL.out.size (fun k e => by cases e; omega)
    refine ⟨by simp, .inl ⟨_, _, rfl, run_takeDeferred hKd, ?_⟩⟩
    exact ⟨.tuple #[.int .i64 N1, .bool N2], by simp [results, Tryz.results16, go_sem, d0, d1], rfl, hbp⟩
theorem cnewest_any (w : World) (B p gs : Nat) (v : Value) (D : DiskD) (h : DiskIs w B p v D) (hs : CkSt w gs p) (hf : Fit D) (hnm : ∀ f ∈ D.files, f.name.size ≤ 1000) (hT : Tb w.heap.size w) (hV : Ev w.heap.size w) :
    Calls Tryz.prog 16 #[.pointer (some ⟨gs, 0, none⟩)] w fun e w' => e = .returned (.tuple #[.int .i64 (newestC D).1, .bool (newestC D).2]) ∧ Below w.heap.size w w' := by
  rw [newestC_eq]
  exact cnewest_it w _ _ _ (iter_any w B p gs v D h hs hf hnm hT hV)
theorem cnewest_nil (w : World) : Calls Tryz.prog 16 #[.pointer none] w fun e w' => e = .returned (.tuple #[.int .i64 0, .bool false]) ∧ Below w.heap.size w w' :=
  cnewest_it w none [] 0 (iter_nil w)
end Go.Proofs.YthmcimpdehgaoaaGreatDoor
namespace Go.Proofs.YthmcimpdehgaoaaGreatDoor
open Go.RowKit

theorem Blk.setRowR {w : World} {g : Nat} {t : TypeId} {cs : Array Value} (h : Blk w g t cs) (cs' : Array Value) : Blk (w.setRow g cs') g t cs' := setRow_heap w g cs cs' t _ h
theorem below_rowR {B g : Nat} {w0 w : World} (hb : Below B w0 w) (hBg : B ≤ g) (cs : Array Value) : Below B w0 (w.setRow g cs) :=
  hb.trans ⟨rfl, rfl, rfl, by simp [World.setRow], fun k hk => setRow_other w g k cs (by omega)⟩
end Go.Proofs.YthmcimpdehgaoaaGreatDoor
namespace Go.Proofs.YthmcimpdehgaoaaGreatDoor
open Go.RowKit Go.Maps

theorem rkeq (x y : ByteArray) : (x.toList == y.toList) = decide (x = y) := by
  rw [Bool.eq_iff_iff, beq_iff_eq, decide_eq_true_eq, ByteArray.toList_eq, ByteArray.toList_eq]
  exact ⟨fun h => ByteArray.ext (Array.ext' h), fun h => by rw [h]⟩
/-- a file of the reference's, with the slice that holds its bytes -/
abbrev RF := ByteArray × Value × ByteArray
def rfC (x : RF) : List Value := [.string x.1, x.2.1]
theorem rfC_len (x : RF) : (rfC x).length = 2 := rfl
def rpr (x : RF) : ByteArray × ByteArray := (x.1, x.2.2)
/-- bytes that lie in no forbidden block -/
def BtO [Forb] (w : World) (v : Value) (b : ByteArray) : Prop := Bt w v b ∧ OkV v
theorem BtO.keep [Forb] {w w' : World} {v : Value} {s : ByteArray} (h : BtO w v s) (hk : ∀ (blk : Nat) cs fz, w.heap[blk]? = some (Obj.cells cs 5 fz) → w'.heap[blk]? = w.heap[blk]?) : BtO w' v s := ⟨h.1.keep hk, h.2⟩
theorem BtO.below [Forb] {w w' : World} {v : Value} {s : ByteArray} (h : BtO w v s) (hb : Below w.heap.size w w') : BtO w' v s := ⟨h.1.below hb, h.2⟩
theorem btO_nil [Forb] (w : World) : BtO w (.slice none 0 0) ByteArray.empty := ⟨bt_nil w, okV_nil 0 0⟩
theorem Bt.o {w : World} {v : Value} {s : ByteArray} (h : Bt w v s) : @BtO Forb.none w v s := ⟨h, okV_none v⟩
/-- a row of files of the reference's -/
def RRow [Forb] (w : World) (v : Value) (rows : List RF) : Prop := ∃ A c, v = .slice A rows.length c ∧ rows.length ≤ c ∧ Rs rfC 2 w A rows ∧ (∀ b o, 0 < rows.length → A = some ⟨b, o, none⟩ → ∃ cs fz, w.heap[b]? = some (.cells cs 100 fz)) ∧ ∀ x ∈ rows, BtO w x.2.1 x.2.2
def RFs [Forb] (w : World) (v : Value) (l : List (ByteArray × ByteArray)) : Prop := ∃ rows, RRow w v rows ∧ rows.map rpr = l
/-- what keeps rows: blocks of files, of bytes stay -/
def KeepF (w w' : World) : Prop := w.heap.size ≤ w'.heap.size ∧ ∀ (b : Nat) cs t fz, t = 100 ∨ t = 5 → w.heap[b]? = some (Obj.cells cs t fz) → w'.heap[b]? = w.heap[b]?
theorem KeepF.of_below {w w' : World} (h : Below w.heap.size w w') : KeepF w w' := ⟨h.size, fun b _ _ _ _ hh => h.block b (Array.getElem?_eq_some_iff.1 hh).1⟩
theorem cell_of_block {w w' : World} {b : Nat} (h : w'.heap[b]? = w.heap[b]?) (o : Nat) : w'.cell? ⟨b, o, none⟩ = w.cell? ⟨b, o, none⟩ := World.cell?_of_block (a := ⟨b, o, none⟩) h
theorem RRow.keep [Forb] {w w' : World} {v : Value} {rows : List RF} (h : RRow w v rows) (hk : KeepF w w') : RRow w' v rows := by
  obtain ⟨A, c, hv, hc, hR, hT, hB⟩ := h
  refine ⟨A, c, hv, hc, ⟨hR.1, fun h0 => ?_⟩, fun b o h0 hA => ?_, fun x hx => (hB x hx).keep fun blk cs fz hh => hk.2 blk cs _ fz (.inr rfl) hh⟩
  · obtain ⟨b, o, hA, hlt, hcl⟩ := hR.2 h0
    obtain ⟨cs, fz, hh⟩ := hT b o h0 hA
    have he := hk.2 b cs _ fz (.inl rfl) hh
    exact ⟨b, o, hA, Nat.lt_of_lt_of_le hlt hk.1, fun j u hu => (cell_of_block he _).trans (hcl j u hu)⟩
  · obtain ⟨cs, fz, hh⟩ := hT b o h0 hA
    exact ⟨cs, fz, (hk.2 b cs _ fz (.inl rfl) hh).trans hh⟩
theorem RFs.keep [Forb] {w w' : World} {v : Value} {l : List (ByteArray × ByteArray)} (h : RFs w v l) (hk : KeepF w w') : RFs w' v l := let ⟨rows, hr, he⟩ := h; ⟨rows, hr.keep hk, he⟩
theorem RFs.below [Forb] {w w' : World} {v : Value} {l : List (ByteArray × ByteArray)} (h : RFs w v l) (hb : Below w.heap.size w w') : RFs w' v l := h.keep (KeepF.of_below hb)
theorem RRow.nil [Forb] (w : World) : RRow w (.slice none 0 0) [] := ⟨none, 0, rfl, Nat.le_refl _, Rs.nil' _, (fun _ _ h => absurd h (Nat.lt_irrefl 0)), by simp⟩
theorem RFs.nil [Forb] (w : World) : RFs w (.slice none 0 0) [] := ⟨[], RRow.nil w, rfl⟩
theorem RRow.of_ownF [Forb] {w : World} {base : Nat} {v : Value} {rows : List RF} (h : w.ownsRow base 100 2 v rows.length (rcs rfC rows)) (hB : ∀ x ∈ rows, BtO w x.2.1 x.2.2) : RRow w v rows := by
  obtain ⟨A, c, rfl, hc⟩ := own_parts h
  refine ⟨A, c, rfl, hc, Rs.of_own h, fun b o h0 hA => ?_, hB⟩
  rcases h.2 with ⟨h1, h2⟩ | ⟨g, cap, cur, hv, _, hh, _⟩
  · rw [h2] at h0; exact absurd h0 (Nat.lt_irrefl 0)
  · injection hv with hv
    rw [hA] at hv
    injection hv with hv
    injection hv with hv _ _
    subst hv
    exact ⟨cur, _, hh⟩
theorem RRow.of_own {w : World} {base : Nat} {v : Value} {rows : List RF} (h : w.ownsRow base 100 2 v rows.length (rcs rfC rows)) (hB : ∀ x ∈ rows, Bt w x.2.1 x.2.2) : @RRow Forb.none w v rows := RRow.of_ownF h fun x hx => (hB x hx).o
theorem RRow.at_ [Forb] {w : World} {A : Option Addr} {n c : Nat} {rows : List RF} (h : RRow w (.slice A n c) rows) {i : Nat} (hi : i < rows.length) :
    ∃ b o, A = some ⟨b, o, none⟩ ∧ b < w.heap.size ∧ ∃ nm A' c' bb, rows[i]? = some (nm, .slice A' bb.size c', bb) ∧ w.cell? ⟨b, o + i * 2, none⟩ = some (.string nm) ∧ w.cell? ⟨b, o + i * 2 + 1, none⟩ = some (.slice A' bb.size c') ∧ Bt w (.slice A' bb.size c') bb := by
  obtain ⟨A1, c1, hv, hc, hR, _, hB⟩ := h
  injection hv with hv _ _
  subst hv
  obtain ⟨b, o, a, hA, hlt, ha, hcl⟩ := hR.at_ rfC_len hi
  obtain ⟨nm, bv, bb⟩ := a
  have hbt := (hB _ (List.mem_of_getElem? ha)).1
  obtain ⟨A', c', hbv, _⟩ := id hbt
  simp only at hbv
  subst hbv
  exact ⟨b, o, hA, hlt, nm, A', c', bb, ha, hcl 0 (by decide), by have := hcl 1 (by decide); rwa [← Nat.add_assoc] at this, hbt⟩
/-- get -/
def getP (l : List (ByteArray × ByteArray)) (t : ByteArray) : Option ByteArray := (l.find? fun x => decide (x.1 = t)).map (·.2)
/-- the file that get finds, the slice that it answers -/
def getR (rows : List RF) (t : ByteArray) : Option RF := rows.find? fun x => decide (x.1 = t)
def rkV (rows : List RF) (t : ByteArray) : Value := match getR rows t with
  | none => .slice none 0 0
  | some x => x.2.1
theorem getP_R (rows : List RF) (t : ByteArray) : getP (rows.map rpr) t = (getR rows t).map (·.2.2) := by
  unfold getP getR
  rw [List.find?_map, Option.map_map]
  rfl
theorem getR_at {rows : List RF} {t : ByteArray} {i : Nat} {x : RF} (hi : rows[i]? = some x) (h : x.1 = t) (hno : ∀ k y, k < i → rows[k]? = some y → y.1 ≠ t) : getR rows t = some x := by
  have hlt := (List.getElem?_eq_some_iff.1 hi).1
  unfold getR
  have e : rows = rows.take i ++ x :: rows.drop (i + 1) := by
    rw [List.getElem?_eq_getElem hlt] at hi
    injection hi with hi
    rw [← hi, ← List.drop_eq_getElem_cons hlt, List.take_append_drop]
  rw [e, List.find?_append]
  have h1 : (rows.take i).find? (fun x => decide (x.1 = t)) = none := by
    rw [List.find?_eq_none]
    intro y hy
    obtain ⟨k, hk, rfl⟩ := List.mem_iff_getElem.1 hy
    have hk2 : k < i := by rw [List.length_take] at hk; omega
    rw [List.getElem_take, decide_eq_true_eq]
    exact hno k _ hk2 (List.getElem?_eq_getElem (by omega))
  rw [h1, List.find?_cons]
  simp [h]
theorem getR_none {rows : List RF} {t : ByteArray} (hno : ∀ k x, k < rows.length → rows[k]? = some x → x.1 ≠ t) : getR rows t = none := by
  unfold getR
  rw [List.find?_eq_none]
  intro y hy
  obtain ⟨k, hk, rfl⟩ := List.mem_iff_getElem.1 hy
  rw [decide_eq_true_eq]
  exact hno k _ hk (List.getElem?_eq_getElem hk)
theorem rkV_bt [Forb] {w : World} {v : Value} {rows : List RF} (h : RRow w v rows) (t : ByteArray) : BtO w (rkV rows t) ((getP (rows.map rpr) t).getD ByteArray.empty) := by
  rw [getP_R]
  unfold rkV
  cases hg : getR rows t with
  | none => exact btO_nil _
  | some x =>
    obtain ⟨_, _, _, _, _, _, hB⟩ := h
    exact hB x (List.mem_of_find?_eq_some hg)
set_option maxHeartbeats 4000000 in
theorem rget_rows [Forb] (w : World) (v : Value) (rows : List RF) (hr : RRow w v rows) (hl : rows.length ≤ 100000000) (t : ByteArray) :
    Calls Tryz.prog 61 #[v, .string t] w fun e w' => e = .returned (.tuple #[rkV rows t, .bool (getP (rows.map rpr) t).isSome]) ∧ w = w' := by
  obtain ⟨A, c, rfl, -⟩ := id hr
  have HR := Lib.hid hr
  clear hr
  go_enter Tryz.func61, Tryz.ntmps61
  go_wp2
  go_loopg [6] rows.length (fun gf vi wr => ∃ i : Nat, vi = .int .i64 i ∧ i + gf = rows.length ∧ (∀ k x, k < i → rows[k]? = some x → x.1 ≠ t) ∧ w = wr)
  case atStart => exact ⟨0, rfl, by omega, fun k x hk => absurd hk (Nat.not_lt_zero k), rfl⟩
  case round =>
    obtain ⟨i, rfl, hi, hno, rfl⟩ := hrel
    cases gk with
    | zero =>
      obtain rfl : i = rows.length := by omega
      have HG := Lib.hid (getR_none hno)
      clear hno hi
      go_wp2
      go_ret2
      exact ⟨by unfold rkV; rw [getP_R, HG.out]; rfl, rfl⟩
    | succ gf =>
      obtain ⟨b, oo, rfl, hlt, nm, A', c', bb, hx, x0, x1, hbt⟩ := HR.out.at_ (i := i) (by omega)
      have hiI : (i : Int) < (rows.length : Int) := by omega
      by_cases hnt : nm = t
      · have HG := Lib.hid (getR_at hx hnt hno)
        have hqb : (nm.toList == t.toList) = true := by rw [rkeq]; exact decide_eq_true hnt
        clear hno hbt hx
        subst hnt
        go_wp2
        go_ret2
        exact ⟨by unfold rkV; rw [getP_R, HG.out]; rfl, rfl⟩
      · have hno2 : ∀ k x, k < i + 1 → rows[k]? = some x → x.1 ≠ t := fun k x hk hkx => by
          by_cases hki : k = i
          · subst hki; rw [hx] at hkx; injection hkx with hkx; subst hkx; exact hnt
          · exact hno k x (by omega) hkx
        have hqb : (nm.toList == t.toList) = false := by rw [rkeq]; exact decide_eq_false hnt
        have HN := Lib.hid hno2
        clear hno hno2 hbt hx hnt
        go_wp2
        go_roundg gf
        case measure => omega
        case rel => exact ⟨i + 1, by go_num, by omega, HN.out, rfl⟩
theorem rget_any [Forb] (w : World) (v : Value) (l : List (ByteArray × ByteArray)) (h : RFs w v l) (hl : l.length ≤ 100000000) (t : ByteArray) :
    Calls Tryz.prog 61 #[v, .string t] w fun e w' => ∃ gv, e = .returned (.tuple #[gv, .bool (getP l t).isSome]) ∧ BtO w gv ((getP l t).getD ByteArray.empty) ∧ w = w' := by
  obtain ⟨rows, hr, rfl⟩ := h
  rw [List.length_map] at hl
  exact (rget_rows w v rows hr hl t).mono fun e w' ⟨he, hw⟩ => ⟨_, he, rkV_bt hr t, hw⟩
/-- how many bytes a row's files have -/
def longP (l : List (ByteArray × ByteArray)) : Nat := (l.map (·.2.size)).sum
set_option maxHeartbeats 4000000 in
theorem rlong_any [Forb] (w : World) (v : Value) (l : List (ByteArray × ByteArray)) (h : RFs w v l) (hl : longP l ≤ 1000000000000) (hl2 : l.length ≤ 100000000) :
    Calls Tryz.prog 69 #[v] w fun e w' => e = .returned (.int .i64 (longP l)) ∧ w = w' := by
  obtain ⟨rows, hr, rfl⟩ := h
  rw [List.length_map] at hl2
  obtain ⟨A, c, rfl, -⟩ := id hr
  have hs : ∀ i, longP ((rows.take i).map rpr) ≤ longP (rows.map rpr) := fun i => by
    have e : rows.map rpr = (rows.take i).map rpr ++ (rows.drop i).map rpr := by rw [← List.map_append, List.take_append_drop]
    have : longP (rows.map rpr) = longP ((rows.take i).map rpr) + longP ((rows.drop i).map rpr) := by
      rw [e]
      unfold longP
      rw [List.map_append, List.sum_append]
    omega
  have HR := Lib.hid hr; have HS := Lib.hid hs
  clear hr hs
  go_enter Tryz.func69, Tryz.ntmps69
  go_wp2
  go_loopg [3, 4] rows.length (fun gf vn vi wr => ∃ i N : Nat, vi = .int .i64 i ∧ vn = .int .i64 N ∧ N = longP ((rows.take i).map rpr) ∧ i + gf = rows.length ∧ w = wr)
  case atStart => exact ⟨0, 0, rfl, rfl, rfl, by omega, rfl⟩
  case round =>
    obtain ⟨i, N, rfl, rfl, hN, hi, rfl⟩ := hrel
    cases gk with
    | zero =>
      obtain rfl : i = rows.length := by omega
      rw [List.take_length] at hN
      have HN := Lib.hid hN
      clear hi hN
      go_wp2
      go_ret
      exact ⟨by rw [← HN.out]; rfl, rfl⟩
    | succ gf =>
      obtain ⟨b, oo, rfl, hlt, nm, A', c', bb, hx, x0, x1, hbt⟩ := HR.out.at_ (i := i) (by omega)
      have hiI : (i : Int) < (rows.length : Int) := by omega
      have hsn : longP ((rows.take (i + 1)).map rpr) = longP ((rows.take i).map rpr) + bb.size := by
        rw [take_snoc_ hx]
        simp [longP, rpr]
      have h1 := HS.out (i + 1)
      rw [← hN] at hsn
      have HSN := Lib.hid hsn
      have hb1 : (N : Int) + (bb.size : Int) ≤ 1000000000000 := by omega
      clear hsn h1 hbt hx hN
      go_wp2
      go_roundg gf
      case measure => omega
      case rel => exact ⟨i + 1, N + bb.size, by go_num, by go_num, HSN.out.symm, by omega, rfl⟩
set_option maxRecDepth 100000 in
set_option maxHeartbeats 1000000 in
theorem rmay_any (w : World) (t : ByteArray) : Calls Tryz.prog 108 #[.string t] w fun e w' => e = .returned (.bool (!badN t)) ∧ w = w' := by
  obtain ⟨b, hb⟩ : ∃ b, badN t = b := ⟨_, rfl⟩
  rw [hb]
  unfold badN at hb
  have HB := Lib.hid hb
  clear hb
  by_cases h0 : t.size = 0
  · have h1 : decide ((0 : Int) < (t.size : Int)) = false := decide_eq_false (by omega)
    have hI : ¬ (0 : Int) < (t.size : Int) := by omega
    have HR : Hid (b = true) := Lib.hid (by rw [← HB.out]; simp [h0])
    clear h0
    go_enter Tryz.func108, Tryz.ntmps108
    go_wp2
    go_ret
    exact ⟨by rw [HR.out]; rfl, rfl⟩
  · have h1 : decide ((0 : Int) < (t.size : Int)) = true := decide_eq_true (by omega)
    have hI : (0 : Int) < (t.size : Int) := by omega
    by_cases h2 : t.size < 129
    · have h3 : decide ((t.size : Int) < 129) = true := decide_eq_true (by omega)
      have hI2 : (t.size : Int) < 129 := by omega
      have HR : Hid (b = false) := Lib.hid (by rw [← HB.out]; simp [h0]; omega)
      clear h0 h2
      go_enter Tryz.func108, Tryz.ntmps108
      go_wp2
      go_ret
      exact ⟨by rw [HR.out]; rfl, rfl⟩
    · have h3 : decide ((t.size : Int) < 129) = false := decide_eq_false (by omega)
      have hI2 : ¬ (t.size : Int) < 129 := by omega
      have HR : Hid (b = true) := Lib.hid (by rw [← HB.out]; simp; omega)
      clear h0 h2
      go_enter Tryz.func108, Tryz.ntmps108
      go_wp2
      go_ret
      exact ⟨by rw [HR.out]; rfl, rfl⟩
end Go.Proofs.YthmcimpdehgaoaaGreatDoor
