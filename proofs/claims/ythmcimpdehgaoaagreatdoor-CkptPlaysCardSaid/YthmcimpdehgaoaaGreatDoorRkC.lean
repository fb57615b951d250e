/- The reference's disk: its state; New, Fail, Crash, refused, power, answer. -/
import Derived.Test.YthmcimpdehgaoaaGreatDoorRkB
namespace Go.Proofs.YthmcimpdehgaoaaGreatDoor
open Go.RowKit Go.Maps

/-- the reference's disk -/
structure RDisk where
  files : List (ByteArray × ByteArray)
  safe : List (ByteArray × ByteArray)
  quota : Int
  done : Int
  left : Int
  gone : Bool
def RkIs [Forb] (w : World) (B p : Nat) (R : RDisk) : Prop :=
  B ≤ p ∧ ∃ vf vs, Blk w p 94 #[vf, vs, .int .i64 R.quota, .int .i64 R.done, .int .i64 R.left, .bool R.gone] ∧ RFs w vf R.files ∧ RFs w vs R.safe
/-- what a call of the reference's disk leaves -/
structure RkOut [Forb] (B : Nat) (w w' : World) (p : Nat) (R' : RDisk) : Prop where
  is : RkIs w' B p R'
  moved : Moved w w' p none
structure RFit (R : RDisk) : Prop where
  len : R.files.length ≤ 100000000
  slen : R.safe.length ≤ 100000000
  long : longP R.files ≤ 1000000000000
  done0 : 0 ≤ R.done
  done : R.done ≤ 4611686018427387904
  left0 : -1 ≤ R.left
  left : R.left ≤ 9223372036854775807
section
variable {w w' : World} {B p : Nat} {R R' : RDisk}
theorem RkIs.blk [Forb] (h : RkIs w B p R) : ∃ vf vs, Blk w p 94 #[vf, vs, .int .i64 R.quota, .int .i64 R.done, .int .i64 R.left, .bool R.gone] := let ⟨_, vf, vs, hb, _⟩ := h; ⟨vf, vs, hb⟩
theorem RkIs.lt [Forb] (h : RkIs w B p R) : p < w.heap.size := let ⟨_, _, _, hb, _⟩ := h; hb.lt
theorem keepF_moved {cs : Array Value} {t : TypeId} (hb : Blk w p t cs) (hm : Moved w w' p none) (h1 : t ≠ 100) (h2 : t ≠ 5) : KeepF w w' :=
  ⟨hm.size, fun b cs' t' fz ht hh => hm.block b (Array.getElem?_eq_some_iff.1 hh).1 (fun e => by
    subst e
    rcases ht with rfl | rfl
    · exact blk_type hb hh h1
    · exact blk_type hb hh h2) (by simp)⟩
theorem keepF_drew {w : World} (n : Nat) : KeepF w (w.drewN n) := ⟨Nat.le_refl _, fun _ _ _ _ _ _ => rfl⟩
/-- the disk's own place is written anew -/
theorem RkIs.put [Forb] (h : RkIs w B p R) (hm : Moved w w' p none) {vf vs : Value} (hb : Blk w' p 94 #[vf, vs, .int .i64 R'.quota, .int .i64 R'.done, .int .i64 R'.left, .bool R'.gone]) (hf : RFs w vf R'.files) (hs : RFs w vs R'.safe) : RkOut B w w' p R' := by
  obtain ⟨hB, vf0, vs0, hb0, _, _⟩ := h
  have hk := keepF_moved hb0 hm (by decide) (by decide)
  exact ⟨⟨hB, vf, vs, hb, hf.keep hk, hs.keep hk⟩, hm⟩
theorem RkIs.keep [Forb] (h : RkIs w B p R) (hk : KeepF w w') (hb : w'.heap[p]? = w.heap[p]?) : RkIs w' B p R := by
  obtain ⟨hB, vf, vs, hb0, hf, hs⟩ := h
  exact ⟨hB, vf, vs, hb.trans hb0, hf.keep hk, hs.keep hk⟩
theorem RkIs.below [Forb] (h : RkIs w B p R) (hb : Below w.heap.size w w') : RkIs w' B p R := h.keep (KeepF.of_below hb) (hb.block p h.lt)
theorem RkOut.same [Forb] (h : RkIs w B p R) : RkOut B w w p R := ⟨h, Moved.refl _ _ _⟩
theorem RkOut.trans [Forb] {w2 : World} {R2 : RDisk} (h : RkOut B w w' p R') (k : RkOut B w' w2 p R2) : RkOut B w w2 p R2 := ⟨k.is, h.moved.trans k.moved (.inl rfl)⟩
theorem RkOut.belowB [Forb] (h : RkOut B w w' p R') (hB : B ≤ w.heap.size) : Below B w w' := h.moved.below h.is.1 (by simp) hB
theorem RkOut.keepF [Forb] (h : RkOut B w w' p R') (h0 : RkIs w B p R) : KeepF w w' := by
  obtain ⟨vf, vs, hb⟩ := h0.blk
  exact keepF_moved hb h.moved (by decide) (by decide)
theorem RkOut.keep_blk [Forb] (h : RkOut B w w' p R') (h0 : RkIs w B p R) {g : Nat} {t : TypeId} {cs : Array Value} (hg : Blk w g t cs) (ht : t ≠ 94) : Blk w' g t cs := by
  obtain ⟨vf, vs, hb⟩ := h0.blk
  exact (h.moved.block g hg.lt (fun e => by subst e; exact blk_type hg hb ht) (by simp)).trans hg
/-- the program's disk stays -/
theorem RkOut.disk [Forb] (h : RkOut B w w' p R') (h0 : RkIs w B p R) {B2 q : Nat} {v : Value} {D : DiskD} (hd : DiskIs w B2 q v D) : DiskIs w' B2 q v D := by
  obtain ⟨vf, vs, hb⟩ := h0.blk
  obtain ⟨rows, hr, hR⟩ := hd.row
  have hty := own_type hR.1 (t := 94) (by decide)
  exact hd.keep h.moved (fun e => by subst e; exact blk_type hd.blk hb (by decide)) (by simp) (fun k hk => ⟨fun e => by subst e; exact hty k hk _ _ hb, by simp⟩) (fun _ _ hh => blk_type hb hh (by decide)) (by simp)
/-- a call of the program's disk: the reference's stays -/
theorem Out.rk [Forb] {B2 q : Nat} {v v1 : Value} {D1 : DiskD} (o : Out B2 w w' q v D1 v1) (hs : w.heap.size ≤ w'.heap.size) (h : RkIs w B p R) : RkIs w' B p R := by
  obtain ⟨hB, vf, vs, hb, hf, hs2⟩ := h
  have hk : KeepF w w' := ⟨hs, fun b cs t fz ht hh => o.blk b cs t fz (by rcases ht with rfl | rfl <;> decide) (by rcases ht with rfl | rfl <;> decide) hh⟩
  exact ⟨hB, vf, vs, (o.blk p _ _ _ (by decide) (by decide) hb).trans hb, hf.keep hk, hs2.keep hk⟩
end
set_option maxHeartbeats 1000000 in
theorem rnew_any [Forb] (w : World) (q : Int) : Calls Tryz.prog 21 #[.int .i64 q] w fun e w' => e = .returned (.pointer (some ⟨w.heap.size, 0, none⟩)) ∧ RkIs w' w.heap.size w.heap.size ⟨[], [], max 0 q, 0, -1, false⟩ ∧ Below w.heap.size w w' := by
  have hb := Blk.new w 94 #[.slice none 0 0, .slice none 0 0, .int .i64 (max 0 q), .int .i64 0, .int .i64 (-1), .bool false]
  have hB := (Below.refl w.heap.size w).alloc (Nat.le_refl _) (.cells #[.slice none 0 0, .slice none 0 0, .int .i64 (max 0 q), .int .i64 0, .int .i64 (-1), .bool false] 94)
  have hI : RkIs (w.alloc (.cells #[.slice none 0 0, .slice none 0 0, .int .i64 (max 0 q), .int .i64 0, .int .i64 (-1), .bool false] 94)) w.heap.size w.heap.size ⟨[], [], max 0 q, 0, -1, false⟩ := ⟨Nat.le_refl _, _, _, hb, RFs.nil _, RFs.nil _⟩
  have HI := Lib.hid hI; have HB := Lib.hid hB
  clear hb hB hI
  go_enter Tryz.func21, Tryz.ntmps21
  go_wp2
  go_ret
  exact ⟨rfl, HI.out, HB.out⟩
section
variable [Forb] (w : World) (B p : Nat) (R : RDisk) (h : RkIs w B p R)
include h
set_option maxHeartbeats 1000000 in
theorem rfail_any (z : Int) : Calls Tryz.prog 25 #[.pointer (some ⟨p, 0, none⟩), .int .i64 z] w fun e w' => e = .returned (.tuple #[]) ∧ RkOut B w w' p { R with left := max (-1) z } := by
  obtain ⟨-, vf, vs, hb, hf, hs⟩ := id h
  have c4 := hb.cell 4; have f4 := hb.frozen 4
  simp only [List.getElem?_toArray, List.getElem?_cons_zero, List.getElem?_cons_succ] at c4
  have ho := h.put (R' := { R with left := max (-1) z }) (Moved.set_ w p 4 none (.int .i64 (max (-1) z))) (hb.set_ 4 (.int .i64 (max (-1) z))) hf hs
  have HO := Lib.hid ho
  clear ho h hb hf hs
  go_enter Tryz.func25, Tryz.ntmps25
  go_wp2
  go_end0
  exact ⟨rfl, HO.out⟩
set_option maxHeartbeats 1000000 in
theorem rcrash_any : Calls Tryz.prog 26 #[.pointer (some ⟨p, 0, none⟩)] w fun e w' => e = .returned (.tuple #[]) ∧ RkOut B w w' p { R with gone := true, left := -1 } := by
  obtain ⟨-, vf, vs, hb, hf, hs⟩ := id h
  have c4 := hb.cell 4; have f4 := hb.frozen 4; have c5 := hb.cell 5; have f5 := hb.frozen 5
  simp only [List.getElem?_toArray, List.getElem?_cons_zero, List.getElem?_cons_succ] at c4 c5
  have hm := (Moved.set_ w p 5 none (.bool true)).trans (Moved.set_ (w.setCell ⟨p, 5, none⟩ (.bool true)) p 4 none (.int .i64 (-1))) (.inl rfl)
  have ho := h.put (R' := { R with gone := true, left := -1 }) hm ((hb.set_ 5 (.bool true)).set_ 4 (.int .i64 (-1))) hf hs
  have HO := Lib.hid ho
  clear ho h hb hf hs hm
  go_enter Tryz.func26, Tryz.ntmps26
  go_wp2
  go_end0
  exact ⟨rfl, HO.out⟩
end
/-- what refuses a call ahead of its own errors -/
def RDisk.refused (R : RDisk) (name other : ByteArray) (there : Bool) : Int :=
  if R.gone = true then 160 else if badN name = true then 2 else if badN other = true then 2 else if there = true then (if (getP R.files name).isSome = true then 0 else 5) else 0
/-- the power at a step -/
def RDisk.power (R : RDisk) : Bool × RDisk := (!decide (R.left = 0), { R with done := R.done + 1, gone := decide (R.left = 0), left := max (-1) (R.left - 1) })
section
variable [Forb] (w : World) (B p : Nat) (R : RDisk) (h : RkIs w B p R) (hf : RFit R)
include h hf
set_option maxRecDepth 100000 in
set_option maxHeartbeats 4000000 in
theorem rrefused_any (name other : ByteArray) (there : Bool) : Calls Tryz.prog 68 #[.pointer (some ⟨p, 0, none⟩), .string name, .string other, .bool there] w fun e w' => e = .returned (.int .i64 (R.refused name other there)) ∧ w = w' := by
  obtain ⟨-, vf, vs, hb, hfl, -⟩ := id h
  have c0 := hb.cell 0; have c5 := hb.cell 5
  simp only [List.getElem?_toArray, List.getElem?_cons_zero, List.getElem?_cons_succ] at c0 c5
  have hg := rget_any w vf R.files hfl hf.len name
  have hm1 := rmay_any w name
  have hm2 := rmay_any w other
  obtain ⟨E, hE⟩ : ∃ E, R.refused name other there = E := ⟨_, rfl⟩
  rw [hE]
  unfold RDisk.refused at hE
  obtain ⟨gs, hgs⟩ : ∃ gs, (getP R.files name).isSome = gs := ⟨_, rfl⟩
  obtain ⟨gd, hgd⟩ : ∃ gd, (getP R.files name).getD ByteArray.empty = gd := ⟨_, rfl⟩
  obtain ⟨b1, hb1⟩ : ∃ b, badN name = b := ⟨_, rfl⟩
  obtain ⟨b2, hb2⟩ : ∃ b, badN other = b := ⟨_, rfl⟩
  obtain ⟨gn, hgn⟩ : ∃ b, R.gone = b := ⟨_, rfl⟩
  rw [hgs, hgd] at hg
  rw [hgs, hb1, hb2, hgn] at hE
  rw [hb1] at hm1
  rw [hb2] at hm2
  rw [hgn] at c5
  have HG := Lib.hid hg; have HM1 := Lib.hid hm1; have HM2 := Lib.hid hm2; have HE := Lib.hid hE
  clear hg hm1 hm2 hE hgs hgd hb1 hb2 hgn h hf hb hfl
  go_enter Tryz.func68, Tryz.ntmps68
  go_wp2_with fail
  refine HG.out.mono ?_
  rintro e w' ⟨gv, rfl, -, rfl⟩
  cases gn with
  | true =>
    go_wp2
    go_ret
    exact ⟨by rw [← HE.out]; rfl, rfl⟩
  | false =>
    go_wp2_with fail
    refine HM1.out.mono ?_
    rintro e w' ⟨rfl, rfl⟩
    cases b1 with
    | true =>
      go_wp2
      go_ret
      exact ⟨by rw [← HE.out]; rfl, rfl⟩
    | false =>
      go_wp2_with fail
      refine HM2.out.mono ?_
      rintro e w' ⟨rfl, rfl⟩
      cases b2 with
      | true =>
        go_wp2
        go_ret
        exact ⟨by rw [← HE.out]; rfl, rfl⟩
      | false =>
        cases there <;> cases gs
        all_goals
          go_wp2
          go_ret
          exact ⟨by rw [← HE.out]; rfl, rfl⟩
end
/-- what a step of the power asks -/
structure RPow (R : RDisk) : Prop where
  done0 : 0 ≤ R.done
  done : R.done ≤ 4611686018427387904
  left0 : -1 ≤ R.left
  left : R.left ≤ 9223372036854775807
theorem RFit.pow {R : RDisk} (h : RFit R) : RPow R := ⟨h.done0, h.done, h.left0, h.left⟩
set_option maxRecDepth 100000 in
set_option maxHeartbeats 4000000 in
theorem rpower_p [Forb] (w : World) (B p : Nat) (R : RDisk) (h : RkIs w B p R) (hf : RPow R) : Calls Tryz.prog 72 #[.pointer (some ⟨p, 0, none⟩)] w fun e w' => e = .returned (.bool R.power.1) ∧ RkOut B w w' p R.power.2 := by
  obtain ⟨-, vf, vs, hb, hfl, hs⟩ := id h
  have hd0 := hf.done0; have hd1 := hf.done; have hl0 := hf.left0; have hl1 := hf.left
  have c3 := hb.cell 3; have c4 := hb.cell 4; have c5 := hb.cell 5
  simp only [List.getElem?_toArray, List.getElem?_cons_zero, List.getElem?_cons_succ] at c3 c4 c5
  have f3 := hb.frozen 3; have f4 := hb.frozen 4; have f5 := hb.frozen 5
  obtain ⟨z, hz⟩ : ∃ z, decide (R.left = 0) = z := ⟨_, rfl⟩
  have hzb : (R.left == 0) = z := by rw [← hz]; rfl
  have hm := ((Moved.set_ w p 3 none (.int .i64 (R.done + 1))).trans (Moved.set_ (w.setCell ⟨p, 3, none⟩ (.int .i64 (R.done + 1))) p 5 none (.bool z)) (.inl rfl)).trans (Moved.set_ _ p 4 none (.int .i64 (max (-1) (R.left - 1)))) (.inl rfl)
  have ho := h.put (R' := R.power.2) hm (by unfold RDisk.power; rw [hz]; exact ((hb.set_ 3 (.int .i64 (R.done + 1))).set_ 5 (.bool z)).set_ 4 (.int .i64 (max (-1) (R.left - 1)))) hfl hs
  have hp1 : R.power.1 = !z := by unfold RDisk.power; rw [hz]
  rw [hp1]
  have HO := Lib.hid ho; have HZ := Lib.hid hzb
  clear ho h hb hfl hs hm hf hp1 hz
  go_enter Tryz.func72, Tryz.ntmps72
  go_wp2
  go_ret
  exact ⟨rfl, HO.out⟩
theorem rpower_any [Forb] (w : World) (B p : Nat) (R : RDisk) (h : RkIs w B p R) (hf : RFit R) : Calls Tryz.prog 72 #[.pointer (some ⟨p, 0, none⟩)] w fun e w' => e = .returned (.bool R.power.1) ∧ RkOut B w w' p R.power.2 := rpower_p w B p R h hf.pow
set_option maxHeartbeats 1000000 in
theorem ranswer_any (w : World) (b : Bool) : Calls Tryz.prog 71 #[.bool b] w fun e w' => e = .returned (.int .i64 (if b = true then 0 else 160)) ∧ w = w' := by
  cases b
  all_goals
    go_enter Tryz.func71, Tryz.ntmps71
    go_wp2
    go_ret
    exact ⟨rfl, rfl⟩
end Go.Proofs.YthmcimpdehgaoaaGreatDoor
