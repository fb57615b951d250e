/- The disk's step: Sync, Cut, Rename, Remove. The disk's calls: Sync, Cut, Rename, Remove. The disk's Append. The disk's On: what stays, in plain words. -/
import Derived.Test.YthmcimpdehgaoaaGreatDoorDk2
import Derived.IntWalk
namespace Go.Proofs.YthmcimpdehgaoaaGreatDoor
open Go.RowKit

/-- what a call that changes a disk leaves: its row lies where it lay, or is new -/
def Leaves [Forb] (w w' : World) (base p : Nat) (v : Value) (D' : DiskD) : Prop := ∃ v', DiskIs w' base p v' D' ∧ Moved w w' p v.ownBlock ∧ ∀ k, v'.ownBlock = some k → v.ownBlock = some k ∨ w.heap.size ≤ k
theorem own_new {a b : Option Nat} {n : Nat} (h : a = b ∨ ∃ k, a = some k ∧ n ≤ k) : ∀ k, a = some k → b = some k ∨ n ≤ k := by
  intro k hk
  rcases h with h | ⟨j, h, hj⟩
  · exact .inl (h.symm.trans hk)
  · rw [hk] at h
    injection h with h
    exact .inr (by omega)
theorem Leaves.trans [Forb] {a b c : World} {base p : Nat} {v v1 : Value} {D' : DiskD} (hm : Moved a b p v.ownBlock) (ho : ∀ k, v1.ownBlock = some k → v.ownBlock = some k ∨ a.heap.size ≤ k) (h : Leaves b c base p v1 D') : Leaves a c base p v D' := by
  obtain ⟨v', hd, hm2, ho2⟩ := h
  refine ⟨v', hd, hm.trans hm2 ?_, fun k hk => ?_⟩
  · cases h1 : v1.ownBlock with
    | none => exact .inr (.inl rfl)
    | some k =>
      rcases ho k h1 with h2 | h2
      · exact .inl h2.symm
      · exact .inr (.inr ⟨k, rfl, h2⟩)
  · rcases ho2 k hk with h1 | h1
    · exact ho k h1
    · exact .inr (Nat.le_trans hm.size h1)
theorem Leaves.drew [Forb] {w w' : World} {base p : Nat} {v : Value} {D' : DiskD} (h : Leaves w w' base p v D') : Leaves w w'.drew base p v D' := by
  obtain ⟨v', hd, hm, ho⟩ := h
  exact ⟨v', hd, hm.drew_, ho⟩
/-- what a step does to the files -/
def doesL (kind : Int) (L : List FileD) (i n : Nat) (to : ByteArray) (f : FileD) : List FileD :=
  if kind = 3 then L.take i ++ L.drop (i + 1)
  else if kind = 2 then putL (L.take i ++ L.drop (i + 1)) (findN ((L.take i ++ L.drop (i + 1)).map (·.name)) to).1 (findN ((L.take i ++ L.drop (i + 1)).map (·.name)) to).2 ⟨to, f.b, n⟩
  else L.set i ⟨f.name, f.b.extract 0 n, n⟩
theorem stepped_any [Forb] (kind : Int) (hk : kind = 0 ∨ kind = 1 ∨ kind = 2 ∨ kind = 3) (w : World) (base p : Nat) (v : Value) (D : DiskD) (i n : Nat) (to : ByteArray) (f : FileD) (h : DiskIs w base p v D) (hi : D.files[i]? = some f) (hn : n ≤ f.b.size) (hl : D.files.length ≤ 100000000) (hbase : base ≤ w.heap.size) :
    Calls Tryz.prog (stepFn kind) #[.pointer (some ⟨p, 0, none⟩), .int .i64 i, .int .i64 n, .string to] w fun e w' => e = .returned (.tuple #[]) ∧ Leaves w w' base p v { D with files := doesL kind D.files i n to f } := by
  have hilt := (List.getElem?_eq_some_iff.1 hi).1
  have h1 := safely_any w base p v D i n to f h hi hn
  rcases hk with rfl | rfl | rfl | rfl
  · exact h1.mono fun e w' ⟨he, hd, hm⟩ => ⟨he, v, by simpa [doesL] using hd, hm, own_new (.inl rfl)⟩
  · exact h1.mono fun e w' ⟨he, hd, hm⟩ => ⟨he, v, by simpa [doesL] using hd, hm, own_new (.inl rfl)⟩
  · exact (moves_any w base p v D i n to f h hi hl hbase).mono fun e w' ⟨v', he, hd, hm, ho⟩ => ⟨he, v', by simpa [doesL] using hd, hm, own_new ho⟩
  · exact (drops_any w base p v D i n to h hilt (by omega)).mono fun e w' ⟨v', he, hd, hm, ho⟩ => ⟨he, v', by simpa [doesL] using hd, hm, own_new (.inl ho)⟩
/-- a file by its name: its place, and it -/
def DiskD.at_ (D : DiskD) (name : ByteArray) : Option (Nat × FileD) :=
  if (findN (D.files.map (·.name)) name).2 = true then (D.files[(findN (D.files.map (·.name)) name).1]?).map fun f => ((findN (D.files.map (·.name)) name).1, f) else none
theorem DiskD.at_none {D : DiskD} {name : ByteArray} (h : D.at_ name = none) : (findN (D.files.map (·.name)) name).2 = false := by
  cases ht : (findN (D.files.map (·.name)) name).2 with
  | false => rfl
  | true =>
    have h1 := findN_lt _ _ ht
    rw [List.length_map] at h1
    unfold DiskD.at_ at h
    rw [if_pos ht, List.getElem?_eq_getElem h1] at h
    cases h
theorem DiskD.at_some {D : DiskD} {name : ByteArray} {i : Nat} {f : FileD} (h : D.at_ name = some (i, f)) : findN (D.files.map (·.name)) name = (i, true) ∧ D.files[i]? = some f := by
  unfold DiskD.at_ at h
  split at h
  · rename_i ht
    rw [Option.map_eq_some_iff] at h
    obtain ⟨f', h1, h2⟩ := h
    injection h2 with h2 h3
    subst h2 h3
    exact ⟨Prod.ext rfl ht, h1⟩
  · cases h
/-- a step with a file that has to be there -/
def DiskD.step (D : DiskD) (kind : Int) (name to : ByteArray) (n : Int) (all : Bool) : Int × DiskD :=
  if D.asked [name, to] ≠ 0 then (D.asked [name, to], D)
  else match D.at_ name with
    | none => (5, D)
    | some (i, f) =>
      if (if all = true then (f.b.size : Int) else n) < 0 ∨ (f.b.size : Int) < (if all = true then (f.b.size : Int) else n) then (2, D)
      else if D.power.1 = 0 then (0, { D.power.2 with files := doesL kind D.files i (if all = true then (f.b.size : Int) else n).toNat to f })
      else (D.power.1, D.power.2)
theorem power_files (D : DiskD) : D.power.2.files = D.files := by unfold DiskD.power; split <;> (try split) <;> rfl
theorem power_err (D : DiskD) (h : D.power.1 ≠ 0) : D.power.1 = 160 := by unfold DiskD.power at *; split at h <;> (try split at h) <;> simp_all
set_option maxRecDepth 100000 in
set_option maxHeartbeats 8000000 in
theorem step_any [Forb] (w : World) (base p : Nat) (v : Value) (D : DiskD) (kind : Int) (hk : kind = 0 ∨ kind = 1 ∨ kind = 2 ∨ kind = 3) (name to : ByteArray) (n : Int) (all : Bool) (h : DiskIs w base p v D) (hl : D.files.length ≤ 100000000) (hbase : base ≤ w.heap.size)
    (hb : ∀ f ∈ D.files, f.b.size ≤ 1000000000) (hs : D.steps < 9223372036854775807) (hs0 : 0 ≤ D.steps) (hl1 : -1 ≤ D.left) (hl2 : D.left ≤ 9223372036854775807) :
    Calls Tryz.prog 73 #[.pointer (some ⟨p, 0, none⟩), .int .i64 kind, .string name, .string to, .int .i64 n, .bool all] w fun e w' => e = .returned (.int .i64 (D.step kind name to n all).1) ∧ Leaves w w' base p v (D.step kind name to n all).2 := by
  have hrn := rd_vals w [.string name, .string to] 9 w.heap.size rfl
  have hBA := (Below.refl w.heap.size w).alloc (Nat.le_refl _) (.cells #[.string name, .string to] 9)
  have hDA := h.below hBA (Nat.le_refl _)
  have hA := asked_any _ base p v D hDA (some ⟨w.heap.size, 0, none⟩) 2 [name, to] hrn (by simp)
  have hMA := Moved.of_below hBA p v.ownBlock
  have hno : ∀ w' : World, Below w.heap.size w w' → Leaves w w' base p v D := fun w' hb => ⟨v, h.below hb (Nat.le_refl _), Moved.of_below hb p _, own_new (.inl rfl)⟩
  have HA := Lib.hid hA; have HB := Lib.hid hBA; have HDA := Lib.hid hDA; have HMA := Lib.hid hMA; have HNO := Lib.hid hno
  clear hA hrn hBA hDA hMA hno
  have hdo := fun w => does_any w (.pointer (some ⟨p, 0, none⟩)) kind hk
  have hst := stepped_any kind hk
  obtain ⟨fn, hfn⟩ : ∃ fn, stepFn kind = fn := ⟨_, rfl⟩
  rw [hfn] at hdo hst
  have hfn3 : fn = 136 ∨ fn = 135 ∨ fn = 134 := by
    rw [← hfn]; unfold stepFn
    split
    · exact .inl rfl
    · split
      · exact .inr (.inl rfl)
      · exact .inr (.inr rfl)
  have HDO := Lib.hid hdo; have HST := Lib.hid hst; have HFN := Lib.hid hfn3
  clear hfn hdo hst hfn3
  unfold DiskD.step
  by_cases ha : D.asked [name, to] ≠ 0
  · rw [if_pos ha]
    have hab : (D.asked [name, to] != 0) = true := by rw [bne_iff_ne]; exact ha
    clear ha
    go_enter Tryz.func73, Tryz.ntmps73
    go_wp2_with fail
    refine HA.out.mono ?_
    rintro e w1 ⟨rfl, rfl⟩
    go_wp2
    go_ret
    exact ⟨rfl, HNO.out _ HB.out⟩
  · rw [if_neg ha]
    have ha0 : D.asked [name, to] = 0 := by omega
    rw [ha0] at HA
    have haf : ((0 : Int) != 0) = false := rfl
    have HFI := Lib.hid (find_any _ base p v D HDA.out name (by omega))
    clear ha ha0
    cases hat : D.at_ name with
    | none =>
      have ht := DiskD.at_none hat
      rw [ht] at HFI
      clear hat ht
      go_enter Tryz.func73, Tryz.ntmps73
      go_wp2_with fail
      refine HA.out.mono ?_
      rintro e w1 ⟨rfl, rfl⟩
      go_wp2_with fail
      refine HFI.out.mono ?_
      rintro e w1 ⟨rfl, hb1⟩
      have HB1 := Lib.hid (HB.out.trans (hb1.mono HB.out.size))
      clear hb1
      go_wp2
      go_ret
      exact ⟨rfl, HNO.out _ HB1.out⟩
    | some x =>
      obtain ⟨i, f⟩ := x
      obtain ⟨hf, hfi⟩ := DiskD.at_some hat
      rw [hf] at HFI
      have hbs := hb f (List.mem_of_getElem? hfi)
      obtain ⟨rows, hr, hR⟩ := h.row
      obtain ⟨Ar, cr, rfl⟩ := own_shape hR.1
      have c0 := h.blk.cell 0
      simp only [List.getElem?_toArray, List.getElem?_cons_zero] at c0
      have hpl := h.blk.lt
      have hlt := (List.getElem?_eq_some_iff.1 hfi).1
      have hrl : rows.length = D.files.length := by rw [← hr, List.length_map]
      have hlr : i < rows.length := by omega
      have hiI : (i : Int) < (rows.length : Int) := by omega
      have hxm : ∀ x, rows[i]? = some x → x.1 = f := by
        intro x hx
        have : D.files[i]? = some x.1 := by rw [← hr, List.getElem?_map, hx]; rfl
        rw [hfi] at this; injection this with this; exact this.symm
      have HX := Lib.hid hxm; have HR := Lib.hid hR; have HFI2 := Lib.hid hfi
      dsimp only
      obtain ⟨m, hm⟩ : ∃ m, (if all = true then (f.b.size : Int) else n) = m := ⟨_, rfl⟩
      rw [hm]
      have hmall : (all = true ∧ m = f.b.size) ∨ (all = false ∧ m = n) := by
        cases all
        · exact .inr ⟨rfl, by simpa using hm.symm⟩
        · exact .inl ⟨rfl, by simpa using hm.symm⟩
      clear hxm hR hr hfi hf hat hrl hlt hm
      by_cases hbad : m < 0 ∨ (f.b.size : Int) < m
      · rw [if_pos hbad]
        have hall : all = false ∧ m = n := by
          rcases hmall with ⟨_, h2⟩ | h2
          · omega
          · exact h2
        obtain ⟨rfl, rfl⟩ := hall
        clear hmall
        rcases hbad with hbad | hbad
        all_goals
          go_enter Tryz.func73, Tryz.ntmps73
          go_wp2_with fail
          refine HA.out.mono ?_
          rintro e w1 ⟨rfl, rfl⟩
          go_wp2_with fail
          refine HFI.out.mono ?_
          rintro e w1 ⟨rfl, hb1⟩
          have hB1 := HB.out.trans (hb1.mono HB.out.size)
          have d0 := (hB1.cell (p := ⟨p, 0, none⟩) hpl).trans c0
          obtain ⟨g, cap, x, A', c', hv, hx, hx2, hg, c1, c2, c3⟩ := HR.out.at_ (i := i) hlr hB1
          simp only [Value.slice.injEq] at hv
          obtain ⟨rfl, -, rfl⟩ := hv
          rw [HX.out x hx] at c2
          have HB1 := Lib.hid hB1
          clear hB1 hb1 hx hx2 c0 c1 c3
          go_wp2
          go_ret
          exact ⟨rfl, HNO.out _ HB1.out⟩
      · rw [if_neg hbad]
        obtain ⟨k, rfl⟩ : ∃ k : Nat, m = k := ⟨m.toNat, by omega⟩
        have hk0 : ¬ (k : Int) < 0 := by omega
        have hks : ¬ (f.b.size : Int) < (k : Int) := by omega
        have hkn : k ≤ f.b.size := by omega
        rw [Int.toNat_natCast]
        clear hbad
        cases hp0 : (D.power.1 == 0) with
        | true =>
          have hp0' : D.power.1 = 0 := by simpa using hp0
          rw [if_pos hp0']
          have HP0 := Lib.hid hp0'
          have hpf := power_files D
          have HPF := Lib.hid hpf
          clear hp0' hp0 hpf
          rcases hmall with ⟨rfl, hmm⟩ | ⟨rfl, hmm⟩
          rotate_left
          obtain rfl := hmm
          rotate_left
          obtain rfl : k = f.b.size := by omega
          clear hmm
          all_goals
            go_enter Tryz.func73, Tryz.ntmps73
            go_wp2_with fail
            refine HA.out.mono ?_
            rintro e w1 ⟨rfl, rfl⟩
            go_wp2_with fail
            refine HFI.out.mono ?_
            rintro e w1 ⟨rfl, hb1⟩
            have hB1 := HB.out.trans (hb1.mono HB.out.size)
            have d0 := (hB1.cell (p := ⟨p, 0, none⟩) hpl).trans c0
            obtain ⟨g, cap, x, A', c', hv, hx, hx2, hg, c1, c2, c3⟩ := HR.out.at_ (i := i) hlr hB1
            simp only [Value.slice.injEq] at hv
            obtain ⟨rfl, -, rfl⟩ := hv
            rw [HX.out x hx] at c2
            have hPW := power_any _ base p _ D (HDA.out.below hb1 (Nat.le_refl _)) hs hs0 hl1 hl2
            rw [HP0.out] at hPW
            have HB1 := Lib.hid hB1; have HPW := Lib.hid hPW
            clear hB1 hb1 hx hx2 c0 c1 c3 hPW
            go_wp2_with fail
            refine HPW.out.mono ?_
            rintro e w2 ⟨rfl, hD2, hm2⟩
            have hM := (Moved.of_below HB1.out p (Value.slice (some ⟨g, 0, none⟩) rows.length cr).ownBlock).trans hm2 (.inr (.inl rfl))
            have HD2 := Lib.hid hD2; have HM := Lib.hid hM
            clear hD2 hm2 hM
            go_wp2_with fail
            refine (HDO.out _).mono ?_
            rintro e w3 ⟨rfl, rfl⟩
            have hS := HST.out w3 base p _ D.power.2 i _ to f HD2.out (by rw [HPF.out]; exact HFI2.out) hkn (by rw [HPF.out]; exact hl) (Nat.le_trans hbase HM.out.size)
            have HS := Lib.hid hS
            clear hS
            have hfn := HFN.out
            rcases hfn with rfl | rfl | rfl
            all_goals
              go_wp2_with fail
              (with_reducible refine HS.out.mono ?_)
              rintro e w4 ⟨rfl, hL⟩
              have HL := Lib.hid hL
              clear hL
              go_wp2
              go_ret
              have hL := Leaves.trans HM.out (own_new (.inl rfl)) HL.out
              rw [HPF.out] at hL
              exact ⟨rfl, hL⟩
        | false =>
          have hp0' : D.power.1 ≠ 0 := by simpa using hp0
          rw [if_neg hp0']
          have HP0 := Lib.hid (power_err D hp0')
          clear hp0' hp0
          rw [HP0.out]
          rcases hmall with ⟨rfl, hmm⟩ | ⟨rfl, hmm⟩
          rotate_left
          obtain rfl := hmm
          rotate_left
          obtain rfl : k = f.b.size := by omega
          clear hmm
          all_goals
            go_enter Tryz.func73, Tryz.ntmps73
            go_wp2_with fail
            refine HA.out.mono ?_
            rintro e w1 ⟨rfl, rfl⟩
            go_wp2_with fail
            refine HFI.out.mono ?_
            rintro e w1 ⟨rfl, hb1⟩
            have hB1 := HB.out.trans (hb1.mono HB.out.size)
            have d0 := (hB1.cell (p := ⟨p, 0, none⟩) hpl).trans c0
            obtain ⟨g, cap, x, A', c', hv, hx, hx2, hg, c1, c2, c3⟩ := HR.out.at_ (i := i) hlr hB1
            simp only [Value.slice.injEq] at hv
            obtain ⟨rfl, -, rfl⟩ := hv
            rw [HX.out x hx] at c2
            have hPW := power_any _ base p _ D (HDA.out.below hb1 (Nat.le_refl _)) hs hs0 hl1 hl2
            rw [HP0.out] at hPW
            have HB1 := Lib.hid hB1; have HPW := Lib.hid hPW
            clear hB1 hb1 hx hx2 c0 c1 c3 hPW
            go_wp2_with fail
            refine HPW.out.mono ?_
            rintro e w2 ⟨rfl, hD2, hm2⟩
            have hM := (Moved.of_below HB1.out p (Value.slice (some ⟨g, 0, none⟩) rows.length cr).ownBlock).trans hm2 (.inr (.inl rfl))
            have HD2 := Lib.hid hD2; have HM := Lib.hid hM
            clear hD2 hm2 hM
            go_wp2
            go_ret
            exact ⟨rfl, _, HD2.out, HM.out, own_new (.inl rfl)⟩
end Go.Proofs.YthmcimpdehgaoaaGreatDoor
namespace Go.Proofs.YthmcimpdehgaoaaGreatDoor
open Go.RowKit

/-- what a disk bears that a call may be made of it -/
structure Fit (D : DiskD) : Prop where
  len : D.files.length ≤ 100000000
  size : ∀ f ∈ D.files, f.b.size ≤ 1000000000
  steps : D.steps < 9223372036854775807
  steps0 : 0 ≤ D.steps
  left : -1 ≤ D.left
  left1 : D.left ≤ 9223372036854775807
section
variable [Forb] (w : World) (base p : Nat) (v : Value) (D : DiskD) (h : DiskIs w base p v D) (hbase : base ≤ w.heap.size) (hf : Fit D)
include h hbase hf
set_option maxHeartbeats 2000000 in
theorem sync_any (name : ByteArray) : Calls Tryz.prog 40 #[.pointer (some ⟨p, 0, none⟩), .string name] w fun e w' => e = .returned (.int .i64 (D.step 0 name name 0 true).1) ∧ Leaves w w' base p v (D.step 0 name name 0 true).2 := by
  have HS := Lib.hid (step_any w base p v D 0 (.inl rfl) name name 0 true h hf.len hbase hf.size hf.steps hf.steps0 hf.left hf.left1)
  clear h hbase hf
  go_enter Tryz.func40, Tryz.ntmps40
  go_wp2_with fail
  refine HS.out.mono ?_
  rintro e w1 ⟨rfl, hL⟩
  have HL := Lib.hid hL
  clear hL
  go_wp2
  go_ret
  exact ⟨rfl, HL.out⟩
set_option maxHeartbeats 2000000 in
theorem rename_any (name to : ByteArray) : Calls Tryz.prog 42 #[.pointer (some ⟨p, 0, none⟩), .string name, .string to] w fun e w' => e = .returned (.int .i64 (D.step 2 name to 0 true).1) ∧ Leaves w w' base p v (D.step 2 name to 0 true).2 := by
  have HS := Lib.hid (step_any w base p v D 2 (.inr (.inr (.inl rfl))) name to 0 true h hf.len hbase hf.size hf.steps hf.steps0 hf.left hf.left1)
  clear h hbase hf
  go_enter Tryz.func42, Tryz.ntmps42
  go_wp2_with fail
  refine HS.out.mono ?_
  rintro e w1 ⟨rfl, hL⟩
  have HL := Lib.hid hL
  clear hL
  go_wp2
  go_ret
  exact ⟨rfl, HL.out⟩
set_option maxHeartbeats 2000000 in
theorem remove_any (name : ByteArray) : Calls Tryz.prog 45 #[.pointer (some ⟨p, 0, none⟩), .string name] w fun e w' => e = .returned (.int .i64 (D.step 3 name name 0 true).1) ∧ Leaves w w' base p v (D.step 3 name name 0 true).2 := by
  have HS := Lib.hid (step_any w base p v D 3 (.inr (.inr (.inr rfl))) name name 0 true h hf.len hbase hf.size hf.steps hf.steps0 hf.left hf.left1)
  clear h hbase hf
  go_enter Tryz.func45, Tryz.ntmps45
  go_wp2_with fail
  refine HS.out.mono ?_
  rintro e w1 ⟨rfl, hL⟩
  have HL := Lib.hid hL
  clear hL
  go_wp2
  go_ret
  exact ⟨rfl, HL.out⟩
end
end Go.Proofs.YthmcimpdehgaoaaGreatDoor
namespace Go.Proofs.YthmcimpdehgaoaaGreatDoor
open Go.RowKit

theorem DiskIs.drew_ [Forb] {w : World} {base p : Nat} {v : Value} {D : DiskD} (h : DiskIs w base p v D) : DiskIs w.drew base p v D := h
/-- the file that Append puts: what was, and the bytes behind it -/
def DiskD.was (D : DiskD) (name : ByteArray) : FileD := match D.at_ name with
  | none => ⟨name, ByteArray.empty, -1⟩
  | some x => x.2
def DiskD.put (D : DiskD) (name b : ByteArray) : DiskD :=
  { D with files := putL D.files (findN (D.files.map (·.name)) name).1 (findN (D.files.map (·.name)) name).2 ⟨(D.was name).name, (D.was name).b ++ b, (D.was name).safe⟩ }
def DiskD.append (D : DiskD) (name b : ByteArray) : Int × DiskD :=
  if D.asked [name] ≠ 0 then (D.asked [name], D)
  else if (8388608 : Int) < ((D.was name).b.size : Int) + (b.size : Int) then (3, D)
  else if D.quota < (D.used : Int) + (b.size : Int) then (161, D)
  else (D.put name b).power
attribute [local go_sem ↓] Go.wp_at_zero Go.wp_at_succ
set_option maxRecDepth 100000 in
set_option maxHeartbeats 8000000 in
theorem append_any [Forb] (w : World) (base p : Nat) (v : Value) (D : DiskD) (name : ByteArray) (bv : Value) (b : ByteArray) (h : DiskIs w base p v D) (ht : Forb.top ≤ w.heap.size) (hbase : base ≤ w.heap.size) (hf : Fit D) (hu : D.used ≤ 1000000000000) (hbv : BtR w bv b) (hbs : b.size ≤ 1000000000) :
    Calls Tryz.prog 28 #[.pointer (some ⟨p, 0, none⟩), .string name, bv] w fun e w' => e = .returned (.int .i64 (D.append name b).1) ∧ Leaves w w' base p v (D.append name b).2 := by
  obtain ⟨hl, hb, hs, hs0, hl1, hl2⟩ := hf
  obtain ⟨AB, cb, rfl, hcb, -⟩ := id hbv
  have HBV := Lib.hid hbv; have HTP := Lib.hid ht
  clear ht
  have hrn := rd_vals w [.string name] 9 w.heap.size rfl
  have hBA := (Below.refl w.heap.size w).alloc (Nat.le_refl _) (.cells #[.string name] 9)
  have hDA := h.below hBA (Nat.le_refl _)
  have hA := asked_any _ base p v D hDA (some ⟨w.heap.size, 0, none⟩) 1 [name] hrn (by simp)
  have hno : ∀ w' : World, Below w.heap.size w w' → Leaves w w' base p v D := fun w' hb => ⟨v, h.below hb (Nat.le_refl _), Moved.of_below hb p _, own_new (.inl rfl)⟩
  have HA := Lib.hid hA; have HB := Lib.hid hBA; have HDA := Lib.hid hDA; have HNO := Lib.hid hno; have HD := Lib.hid h
  clear hA hrn hBA hDA hno hbv
  by_cases ha : D.asked [name] ≠ 0
  · unfold DiskD.append
    rw [if_pos ha]
    have hab : (D.asked [name] != 0) = true := by rw [bne_iff_ne]; exact ha
    clear ha
    go_enter Tryz.func28, Tryz.ntmps28
    go_wp2_with fail
    refine HA.out.mono ?_
    rintro e w1 ⟨rfl, rfl⟩
    go_wp2
    go_ret
    exact ⟨rfl, HNO.out _ HB.out⟩
  · have HQ : Hid (D.append name b = _) := Lib.hid (show D.append name b = _ by unfold DiskD.append; rw [if_neg ha])
    have ha0 : D.asked [name] = 0 := by omega
    rw [ha0] at HA
    have haf : ((0 : Int) != 0) = false := rfl
    have HFI := Lib.hid (find_any _ base p v D HDA.out name (by omega))
    clear ha ha0
    obtain ⟨rows, hr, hR⟩ := h.row
    obtain ⟨Ar, cr, rfl⟩ := own_shape hR.1
    have c0 := h.blk.cell 0; have c1 := h.blk.cell 1
    simp only [List.getElem?_toArray, List.getElem?_cons_zero, List.getElem?_cons_succ] at c0 c1
    have hpl := h.blk.lt
    have hrl : rows.length = D.files.length := by rw [← hr, List.length_map]
    have hrl2 : rows.length ≤ 100000000 := by omega
    have hown := h.own
    have HOW := Lib.hid hown
    have HR := Lib.hid hR; have HRR := Lib.hid hr
    clear hown hR hr h
    unfold DiskD.was at HQ
    cases hat : D.at_ name with
    | none =>
      have ht := DiskD.at_none hat
      rw [ht] at HFI
      have HT := Lib.hid ht; have HAT := Lib.hid hat
      rw [hat] at HQ
      obtain ⟨i, hi⟩ : ∃ i, (findN (D.files.map (·.name)) name).1 = i := ⟨_, rfl⟩
      rw [hi] at HFI
      have hil : i ≤ rows.length := by have := findN_le (D.files.map (·.name)) name; rw [hi, List.length_map] at this; omega
      have HI := Lib.hid hi
      clear hat ht hrl hi
      -- the limit
      have hsz4 : 0 + b.size ≤ 2000000000 := by omega
      by_cases hlim : (8388608 : Int) < (b.size : Int)
      · have hq := HQ.out
        rw [if_pos (by simpa using hlim)] at hq
        rw [hq]
        clear hq
        go_enter Tryz.func28, Tryz.ntmps28
        go_wp2_with fail
        refine HA.out.mono ?_
        rintro e w1 ⟨rfl, rfl⟩
        go_wp2_with fail
        refine HFI.out.mono ?_
        rintro e w2 ⟨rfl, hb1⟩
        have hB2 := HB.out.trans (hb1.mono HB.out.size)
        have d1 := (hB2.cell (p := ⟨p, 1, none⟩) hpl).trans c1
        have HBX := Lib.hid (bt_nil w2)
        have hB3 := hB2.alloc hB2.size (.cells #[.string name, .slice none 0 0, .int .i64 (-1)] 90)
        have hnb := Blk.new w2 90 #[.string name, .slice none 0 0, .int .i64 (-1)]
        have hsz2 := hB2.size
        have hpl2 : p < w2.heap.size := by omega
        have hDw3 := HD.out.below hB3 (Nat.le_refl _)
        have HB2 := Lib.hid hB2; have HB3 := Lib.hid hB3; have HN := Lib.hid hnb; have HD3 := Lib.hid hDw3
        clear hB2 hb1 hB3 hnb hDw3
        go_wp2
        go_ret
        exact ⟨rfl, HNO.out _ HB3.out⟩
      · have hq := HQ.out
        rw [if_neg (by simpa using hlim)] at hq
        by_cases hquo : D.quota < (D.used : Int) + (b.size : Int)
        · rw [if_pos hquo] at hq
          rw [hq]
          clear hq
          go_enter Tryz.func28, Tryz.ntmps28
          go_wp2_with fail
          refine HA.out.mono ?_
          rintro e w1 ⟨rfl, rfl⟩
          go_wp2_with fail
          refine HFI.out.mono ?_
          rintro e w2 ⟨rfl, hb1⟩
          have hB2 := HB.out.trans (hb1.mono HB.out.size)
          have d1 := (hB2.cell (p := ⟨p, 1, none⟩) hpl).trans c1
          have HBX := Lib.hid (bt_nil w2)
          have hB3 := hB2.alloc hB2.size (.cells #[.string name, .slice none 0 0, .int .i64 (-1)] 90)
          have hnb := Blk.new w2 90 #[.string name, .slice none 0 0, .int .i64 (-1)]
          have hsz2 := hB2.size
          have hpl2 : p < w2.heap.size := by omega
          have hDw3 := HD.out.below hB3 (Nat.le_refl _)
          have HB2 := Lib.hid hB2; have HB3 := Lib.hid hB3; have HN := Lib.hid hnb; have HD3 := Lib.hid hDw3
          clear hB2 hb1 hB3 hnb hDw3
          have HUS := Lib.hid (used_any _ base p _ D (HD3.out.drew_) (by omega) hu)
          have hsz3 : (w2.alloc (.cells #[.string name, .slice none 0 0, .int .i64 (-1)] 90)).heap.size = w2.heap.size + 1 := by simp
          have HSZ3 := Lib.hid hsz3
          have hpl3 : p < ((w2.alloc (.cells #[.string name, .slice none 0 0, .int .i64 (-1)] 90)).drew).heap.size := by show p < (w2.alloc (.cells #[.string name, .slice none 0 0, .int .i64 (-1)] 90)).heap.size; omega
          have hd1 : ((w2.alloc (.cells #[.string name, .slice none 0 0, .int .i64 (-1)] 90)).drew).cell? ⟨p, 1, none⟩ = some (.int .i64 D.quota) := (World.cell?_alloc_lt w2 _ ⟨p, 1, none⟩ (by show p < _; omega)).trans d1
          have HPL3 := Lib.hid hpl3; have HD1 := Lib.hid hd1
          clear hpl3 hd1
          clear hsz3
          have hwr : IntKind.i64.wrap ((D.used : Int) + (b.size : Int)) = (D.used : Int) + (b.size : Int) := IntWalk.i64_in _ (by omega)
          go_wp2_with fail
          go_region_held3 (fun w' => w'.cell? ⟨p, 1, none⟩ = some (.int .i64 D.quota)) (go_keep) (first | (go_at_call 64; (with_reducible refine HUS.out.mono ?_); rintro e w4 ⟨rfl, hb4⟩; have k1 := (hb4.cell (p := ⟨p, 1, none⟩) HPL3.out).trans HD1.out; have HB4 := Lib.hid ((HB3.out.drew).trans (hb4.mono HB3.out.size)); have HBW4 := Lib.hid hb4; clear hb4))
          go_wp2
          go_ret
          exact ⟨rfl, HNO.out _ HB4.out⟩
        · rw [if_neg hquo] at hq
          rw [hq]
          clear hq
          go_enter Tryz.func28, Tryz.ntmps28
          go_wp2_with fail
          refine HA.out.mono ?_
          rintro e w1 ⟨rfl, rfl⟩
          go_wp2_with fail
          refine HFI.out.mono ?_
          rintro e w2 ⟨rfl, hb1⟩
          have hB2 := HB.out.trans (hb1.mono HB.out.size)
          have d1 := (hB2.cell (p := ⟨p, 1, none⟩) hpl).trans c1
          have HBX := Lib.hid (bt_nil w2)
          have hB3 := hB2.alloc hB2.size (.cells #[.string name, .slice none 0 0, .int .i64 (-1)] 90)
          have hnb := Blk.new w2 90 #[.string name, .slice none 0 0, .int .i64 (-1)]
          have hsz2 := hB2.size
          have hpl2 : p < w2.heap.size := by omega
          have hDw3 := HD.out.below hB3 (Nat.le_refl _)
          have HB2 := Lib.hid hB2; have HB3 := Lib.hid hB3; have HN := Lib.hid hnb; have HD3 := Lib.hid hDw3
          clear hB2 hb1 hB3 hnb hDw3
          have HUS := Lib.hid (used_any _ base p _ D (HD3.out.drew_) (by omega) hu)
          have hsz3 : (w2.alloc (.cells #[.string name, .slice none 0 0, .int .i64 (-1)] 90)).heap.size = w2.heap.size + 1 := by simp
          have HSZ3 := Lib.hid hsz3
          have hpl3 : p < ((w2.alloc (.cells #[.string name, .slice none 0 0, .int .i64 (-1)] 90)).drew).heap.size := by show p < (w2.alloc (.cells #[.string name, .slice none 0 0, .int .i64 (-1)] 90)).heap.size; omega
          have hd1 : ((w2.alloc (.cells #[.string name, .slice none 0 0, .int .i64 (-1)] 90)).drew).cell? ⟨p, 1, none⟩ = some (.int .i64 D.quota) := (World.cell?_alloc_lt w2 _ ⟨p, 1, none⟩ (by show p < _; omega)).trans d1
          have HPL3 := Lib.hid hpl3; have HD1 := Lib.hid hd1
          clear hpl3 hd1
          clear hsz3
          have hwr : IntKind.i64.wrap ((D.used : Int) + (b.size : Int)) = (D.used : Int) + (b.size : Int) := IntWalk.i64_in _ (by omega)
          go_wp2_with fail
          go_region_held3 (fun w' => w'.cell? ⟨p, 1, none⟩ = some (.int .i64 D.quota)) (go_keep) (first | (go_at_call 64; (with_reducible refine HUS.out.mono ?_); rintro e w4 ⟨rfl, hb4⟩; have k1 := (hb4.cell (p := ⟨p, 1, none⟩) HPL3.out).trans HD1.out; have HB4 := Lib.hid ((HB3.out.drew).trans (hb4.mono HB3.out.size)); have HBW4 := Lib.hid hb4; clear hb4))
          have hB24 : Below w2.heap.size w2 w4 := (((Below.refl w2.heap.size w2).alloc (Nat.le_refl _) _).drew).trans (HBW4.out.mono (by show _ ≤ (World.alloc _ _).heap.size; simp))
          have hsz24 := HBW4.out.size
          have hsz24 : w2.heap.size + 1 ≤ w4.heap.size := by rw [← HSZ3.out]; exact hsz24
          have hN4 : Blk w4 w2.heap.size 90 #[.string name, (.slice none 0 0), .int .i64 (-1)] := HN.out.drew.below HBW4.out (by show _ < (World.alloc _ _).heap.size; simp)
          have hX4 := HBX.out.below hB24
          have hV4 := HBV.out.below HB4.out
          have hbA5 := (Below.refl w4.heap.size w4).alloc (Nat.le_refl _) (.cells #[(.slice none 0 0), .slice AB b.size cb] 33)
          have hX5 := hX4.below hbA5
          have hV5 := hV4.below hbA5
          have hC := concat_any _ (some ⟨w4.heap.size, 0, none⟩) 2 [((.slice none 0 0), ByteArray.empty), (.slice AB b.size cb, b)] (rd_vals w4 [(.slice none 0 0), .slice AB b.size cb] 33 w4.heap.size rfl) (by
            intro x hx
            simp only [List.mem_cons, List.not_mem_nil, or_false] at hx
            rcases hx with rfl | rfl
            · exact hX5.btr
            · exact hV5) (by simp) (by simp [sumB]; omega)
          have hjb : joinB [((.slice none 0 0), ByteArray.empty), (.slice AB b.size cb, b)] = ByteArray.empty ++ b := by simp [joinB]
          rw [hjb] at hC
          have n1 := hN4.cell 1
          simp only [List.getElem?_toArray, List.getElem?_cons_zero, List.getElem?_cons_succ] at n1
          have HN4 := Lib.hid hN4; have HB24 := Lib.hid hB24; have HC := Lib.hid hC; have HBA5 := Lib.hid hbA5
          clear hN4 hX4 hV4 hX5 hV5 hC hjb hB24 hbA5 k1 d1
          go_wp2_with fail
          refine HC.out.mono ?_
          rintro e w6 ⟨v6, rfl, hv6, ho6, hb6⟩
          have hox6 : OkV v6 := OkV.of_own ho6 (by have h1 := HB4.out.size; have h2 := HTP.out; have h3 := HBA5.out.size; omega)
          have HOX := Lib.hid hox6
          clear ho6 hox6
          have hN6 := (HN4.out.alloc (.cells #[(.slice none 0 0), .slice AB b.size cb] 33)).below hb6 (by simp; omega)
          have hB46 : Below w4.heap.size w4 w6 := HBA5.out.trans (hb6.mono HBA5.out.size)
          have hsz6 := hB46.size
          obtain ⟨A6, n6, c6, hv6e⟩ : ∃ A n c, v6 = Value.slice A n c := by
            obtain ⟨A, c, he, _⟩ := hv6
            exact ⟨A, _, c, he⟩
          subst hv6e
          have g1 := hN6.frozen 1
          have n1 := hN6.cell 1
          simp only [List.getElem?_toArray, List.getElem?_cons_zero, List.getElem?_cons_succ] at n1
          obtain ⟨w7, hw7⟩ : ∃ w7, w7 = w6.setCell ⟨w2.heap.size, 1, none⟩ (.slice A6 n6 c6) := ⟨_, rfl⟩
          have hN7 : Blk w7 w2.heap.size 90 #[.string name, .slice A6 n6 c6, .int .i64 (-1)] := by rw [hw7]; exact hN6.set_ 1 _
          have hm7 : Moved w6 w7 w2.heap.size none := by rw [hw7]; exact Moved.set_ w6 _ 1 none _
          have hB6 : Below w.heap.size w w6 := HB4.out.trans (hB46.mono HB4.out.size)
          have hB7 : Below w.heap.size w w7 := hB6.trans ⟨hm7.os, hm7.tape, hm7.output, hm7.size, fun k hk => hm7.block k (by omega) (by omega) (by simp)⟩
          have hX7 : Bt w7 (.slice A6 n6 c6) (ByteArray.empty ++ b) := hv6.moved hm7 (fun cs fz hh => blk_type hN6 hh (by decide)) (fun n hn => by cases hn)
          have hD7 := HD.out.below hB7 (Nat.le_refl _)
          have hsz7 := hm7.size
          have d0 := hD7.blk.cell 0
          simp only [List.getElem?_toArray, List.getElem?_cons_zero] at d0
          have n0 := hN7.cell 0; have n1' := hN7.cell 1; have n2 := hN7.cell 2
          simp only [List.getElem?_toArray, List.getElem?_cons_zero, List.getElem?_cons_succ] at n0 n1' n2
          have hR7 := HR.out.keep (fun g' hg' => hB7.block g' (HOW.out g' hg').2.1) (fun blk cs fz hh => hB7.block blk (Array.getElem?_eq_some_iff.1 hh).1)
          have HW7 := Lib.hid hw7; have HB7 := Lib.hid hB7; clear hN6 hB46 hm7 hB6 hb6 hv6 hw7
          have hbA := (Below.refl w7.heap.size w7).alloc (Nat.le_refl _) (.cells #[.string name, .slice A6 n6 c6, .int .i64 (-1)] 90)
          have hRA : RowD (w7.alloc (.cells #[.string name, .slice A6 n6 c6, .int .i64 (-1)] 90)).drew base (.slice Ar rows.length cr) rows := hR7.keep (fun g' hg' => hbA.block g' (hD7.own g' hg').2.1) (fun blk cs fz hh => hbA.block blk (Array.getElem?_eq_some_iff.1 hh).1)
          have hXA : Bt (w7.alloc (.cells #[.string name, .slice A6 n6 c6, .int .i64 (-1)] 90)).drew (.slice A6 n6 c6) (ByteArray.empty ++ b) := hX7.below hbA.drew
          have hI := insert_any _ base _ rows i (⟨name, ByteArray.empty ++ b, -1⟩, .slice A6 n6 c6) w7.heap.size 1 hRA hil (by omega) (by simp; omega) (Blk.new w7 90 #[.string name, .slice A6 n6 c6, .int .i64 (-1)]) (fun e => by have := (HOW.out _ e).2.1; omega) hXA HOX.out
          have hp7 : p < w7.heap.size := by omega
          have hwp : w2.heap.size ≠ p := by omega
          have hwp' : p ≠ w2.heap.size := by omega
          have fp := hD7.blk.frozen 0
          have hq : ∀ w8 : World, (w7.alloc (.cells #[.string name, .slice A6 n6 c6, .int .i64 (-1)] 90)).drew.grownBy w8 (Value.slice Ar rows.length cr).ownBlock → w8.heap[p]? = w7.heap[p]? := fun w8 hg8 =>
            (hg8.block p (by simp; omega) (fun e => (HOW.out p e.symm).2.2 rfl)).trans (hbA.block p hp7)
          have hblk7 := hD7.blk
          have hq' : ∀ w8 : World, (w7.alloc (.cells #[.string name, .slice A6 n6 c6, .int .i64 (-1)] 90)).drew.grownBy w8 (Value.slice Ar rows.length cr).ownBlock → w8.cell? ⟨p, 0, none⟩ = some (.slice Ar rows.length cr) ∧ w8.frozen? ⟨p, 0, none⟩ = false := fun w8 hg8 => by
            have hb8 : Blk w8 p 68 _ := (hq w8 hg8).trans hblk7
            exact ⟨hb8.cell 0, hb8.frozen 0⟩
          have hDP : ({ D with files := (rows.take i ++ ((⟨name, ByteArray.empty ++ b, -1⟩ : FileD), Value.slice A6 n6 c6) :: rows.drop i).map (·.1) } : DiskD) = D.put name b := by
            unfold DiskD.put DiskD.was
            rw [HAT.out, HI.out, HT.out, putL, if_neg (by simp), List.map_append, List.map_cons, List.map_take, List.map_drop, HRR.out]
          have HQP := Lib.hid hq; have HQ' := Lib.hid hq'; have HIN := Lib.hid hI; have HBA := Lib.hid hbA; have HDP := Lib.hid hDP; have HD7 := Lib.hid hD7
          clear hq hq' hI hbA hRA hXA hblk7 hDP hR7 hX7 hN7 hD7
          go_wp2_with fail
          rw [← HW7.out]
          go_region_with (first | (go_at_call 66; (with_reducible refine HIN.out.mono ?_); rintro e w8 ⟨v8, rfl, hR8, hg8, hb8⟩; obtain ⟨A8, n8, c8, rfl⟩ := own_shape' hR8.1; obtain ⟨q1, q2⟩ := HQ'.out w8 hg8; have HR8 := Lib.hid hR8; have HG8 := Lib.hid hg8; have HO8 := Lib.hid hb8; clear hR8 hg8 hb8))
          all_goals
            have hmA : Moved w7 w8 p (Value.slice Ar rows.length cr).ownBlock := (Moved.of_below HBA.out p (Value.slice Ar rows.length cr).ownBlock).drew_.trans (Moved.of_grown HG8.out p) (.inl rfl)
            have hfin := HD7.out.row_set hmA (HQP.out w8 HG8.out) HR8.out
            rw [HDP.out] at hfin
            have hP := power_any _ base p _ (D.put name b) hfin.1 hs hs0 hl1 hl2
            have HP := Lib.hid hP; have HFin := Lib.hid hfin
            clear hP hfin hmA
            go_wp2_with fail
            refine HP.out.mono ?_
            rintro e w9 ⟨rfl, hD9, hm9⟩
            have HD9 := Lib.hid hD9; have HM9 := Lib.hid hm9
            clear hD9 hm9
            go_wp2
            go_ret
            refine ⟨rfl, _, HD9.out, ((Moved.of_below HB7.out p _).trans HFin.out.2 (.inl rfl)).trans HM9.out (.inr (.inl rfl)), ?_⟩
            refine own_new ?_
            rcases HO8.out with h8 | h8
            · exact .inl h8
            · exact .inr ⟨_, h8, by simp; omega⟩

    | some x =>
      obtain ⟨i, f⟩ := x
      obtain ⟨hf, hfi⟩ := DiskD.at_some hat
      rw [hf] at HFI
      have hbs2 := hb f (List.mem_of_getElem? hfi)
      have hlt := (List.getElem?_eq_some_iff.1 hfi).1
      have hlr : i < rows.length := by omega
      have hiI : (i : Int) < (rows.length : Int) := by omega
      have hxm : ∀ x, rows[i]? = some x → x.1 = f := by
        intro x hx
        have : D.files[i]? = some x.1 := by rw [← HRR.out, List.getElem?_map, hx]; rfl
        rw [hfi] at this; injection this with this; exact this.symm
      have HX := Lib.hid hxm; have HFI2 := Lib.hid hfi; have HFF := Lib.hid hf; have HAT := Lib.hid hat
      rw [hat] at HQ
      clear hxm hfi hf hat hrl hlt
      -- the limit
      have hsz4 : f.b.size + b.size ≤ 2000000000 := by omega
      by_cases hlim : (8388608 : Int) < (f.b.size : Int) + (b.size : Int)
      · have hq := HQ.out
        rw [if_pos (by exact hlim)] at hq
        rw [hq]
        clear hq
        go_enter Tryz.func28, Tryz.ntmps28
        go_wp2_with fail
        refine HA.out.mono ?_
        rintro e w1 ⟨rfl, rfl⟩
        go_wp2_with fail
        refine HFI.out.mono ?_
        rintro e w2 ⟨rfl, hb1⟩
        have hB2 := HB.out.trans (hb1.mono HB.out.size)
        have d1 := (hB2.cell (p := ⟨p, 1, none⟩) hpl).trans c1
        have d0 := (hB2.cell (p := ⟨p, 0, none⟩) hpl).trans c0
        obtain ⟨g, cap, x, A', c', hv, hx, hx2, hg, e1, e2, e3⟩ := HR.out.at_ (i := i) hlr hB2
        simp only [Value.slice.injEq] at hv
        obtain ⟨rfl, -, rfl⟩ := hv
        rw [HX.out x hx] at e1 e2 e3
        have hbx := (HR.out.2 x (List.mem_of_getElem? hx)).1.at_ hB2 (Nat.le_refl _)
        rw [hx2, HX.out x hx] at hbx
        have HBX := Lib.hid hbx
        clear hx hx2 hbx
        have hB3 := hB2.alloc hB2.size (.cells #[.string f.name, .slice A' f.b.size c', .int .i64 f.safe] 90)
        have hnb := Blk.new w2 90 #[.string f.name, .slice A' f.b.size c', .int .i64 f.safe]
        have hsz2 := hB2.size
        have hpl2 : p < w2.heap.size := by omega
        have hgl2 : g < w2.heap.size := by omega
        have hDw3 := HD.out.below hB3 (Nat.le_refl _)
        have HB2 := Lib.hid hB2; have HB3 := Lib.hid hB3; have HN := Lib.hid hnb; have HD3 := Lib.hid hDw3
        clear hB2 hb1 hB3 hnb hDw3
        go_wp2
        go_ret
        exact ⟨rfl, HNO.out _ HB3.out⟩
      · have hq := HQ.out
        rw [if_neg (by exact hlim)] at hq
        by_cases hquo : D.quota < (D.used : Int) + (b.size : Int)
        · rw [if_pos hquo] at hq
          rw [hq]
          clear hq
          go_enter Tryz.func28, Tryz.ntmps28
          go_wp2_with fail
          refine HA.out.mono ?_
          rintro e w1 ⟨rfl, rfl⟩
          go_wp2_with fail
          refine HFI.out.mono ?_
          rintro e w2 ⟨rfl, hb1⟩
          have hB2 := HB.out.trans (hb1.mono HB.out.size)
          have d1 := (hB2.cell (p := ⟨p, 1, none⟩) hpl).trans c1
          have d0 := (hB2.cell (p := ⟨p, 0, none⟩) hpl).trans c0
          obtain ⟨g, cap, x, A', c', hv, hx, hx2, hg, e1, e2, e3⟩ := HR.out.at_ (i := i) hlr hB2
          simp only [Value.slice.injEq] at hv
          obtain ⟨rfl, -, rfl⟩ := hv
          rw [HX.out x hx] at e1 e2 e3
          have hbx := (HR.out.2 x (List.mem_of_getElem? hx)).1.at_ hB2 (Nat.le_refl _)
          rw [hx2, HX.out x hx] at hbx
          have HBX := Lib.hid hbx
          clear hx hx2 hbx
          have hB3 := hB2.alloc hB2.size (.cells #[.string f.name, .slice A' f.b.size c', .int .i64 f.safe] 90)
          have hnb := Blk.new w2 90 #[.string f.name, .slice A' f.b.size c', .int .i64 f.safe]
          have hsz2 := hB2.size
          have hpl2 : p < w2.heap.size := by omega
          have hgl2 : g < w2.heap.size := by omega
          have hDw3 := HD.out.below hB3 (Nat.le_refl _)
          have HB2 := Lib.hid hB2; have HB3 := Lib.hid hB3; have HN := Lib.hid hnb; have HD3 := Lib.hid hDw3
          clear hB2 hb1 hB3 hnb hDw3
          have HUS := Lib.hid (used_any _ base p _ D (HD3.out.drew_) (by omega) hu)
          have hsz3 : (w2.alloc (.cells #[.string f.name, .slice A' f.b.size c', .int .i64 f.safe] 90)).heap.size = w2.heap.size + 1 := by simp
          have HSZ3 := Lib.hid hsz3
          have hpl3 : p < ((w2.alloc (.cells #[.string f.name, .slice A' f.b.size c', .int .i64 f.safe] 90)).drew).heap.size := by show p < (w2.alloc (.cells #[.string f.name, .slice A' f.b.size c', .int .i64 f.safe] 90)).heap.size; omega
          have hd1 : ((w2.alloc (.cells #[.string f.name, .slice A' f.b.size c', .int .i64 f.safe] 90)).drew).cell? ⟨p, 1, none⟩ = some (.int .i64 D.quota) := (World.cell?_alloc_lt w2 _ ⟨p, 1, none⟩ (by show p < _; omega)).trans d1
          have HPL3 := Lib.hid hpl3; have HD1 := Lib.hid hd1
          clear hpl3 hd1
          clear hsz3
          have hwr : IntKind.i64.wrap ((D.used : Int) + (b.size : Int)) = (D.used : Int) + (b.size : Int) := IntWalk.i64_in _ (by omega)
          go_wp2_with fail
          go_region_held3 (fun w' => w'.cell? ⟨p, 1, none⟩ = some (.int .i64 D.quota)) (go_keep) (first | (go_at_call 64; (with_reducible refine HUS.out.mono ?_); rintro e w4 ⟨rfl, hb4⟩; have k1 := (hb4.cell (p := ⟨p, 1, none⟩) HPL3.out).trans HD1.out; have HB4 := Lib.hid ((HB3.out.drew).trans (hb4.mono HB3.out.size)); have HBW4 := Lib.hid hb4; clear hb4))
          go_wp2
          go_ret
          exact ⟨rfl, HNO.out _ HB4.out⟩
        · rw [if_neg hquo] at hq
          rw [hq]
          clear hq
          go_enter Tryz.func28, Tryz.ntmps28
          go_wp2_with fail
          refine HA.out.mono ?_
          rintro e w1 ⟨rfl, rfl⟩
          go_wp2_with fail
          refine HFI.out.mono ?_
          rintro e w2 ⟨rfl, hb1⟩
          have hB2 := HB.out.trans (hb1.mono HB.out.size)
          have d1 := (hB2.cell (p := ⟨p, 1, none⟩) hpl).trans c1
          have d0 := (hB2.cell (p := ⟨p, 0, none⟩) hpl).trans c0
          obtain ⟨g, cap, x, A', c', hv, hx, hx2, hg, e1, e2, e3⟩ := HR.out.at_ (i := i) hlr hB2
          simp only [Value.slice.injEq] at hv
          obtain ⟨rfl, -, rfl⟩ := hv
          rw [HX.out x hx] at e1 e2 e3
          have hbx := (HR.out.2 x (List.mem_of_getElem? hx)).1.at_ hB2 (Nat.le_refl _)
          rw [hx2, HX.out x hx] at hbx
          have HBX := Lib.hid hbx
          clear hx hx2 hbx
          have hB3 := hB2.alloc hB2.size (.cells #[.string f.name, .slice A' f.b.size c', .int .i64 f.safe] 90)
          have hnb := Blk.new w2 90 #[.string f.name, .slice A' f.b.size c', .int .i64 f.safe]
          have hsz2 := hB2.size
          have hpl2 : p < w2.heap.size := by omega
          have hgl2 : g < w2.heap.size := by omega
          have hDw3 := HD.out.below hB3 (Nat.le_refl _)
          have HB2 := Lib.hid hB2; have HB3 := Lib.hid hB3; have HN := Lib.hid hnb; have HD3 := Lib.hid hDw3
          clear hB2 hb1 hB3 hnb hDw3
          have HUS := Lib.hid (used_any _ base p _ D (HD3.out.drew_) (by omega) hu)
          have hsz3 : (w2.alloc (.cells #[.string f.name, .slice A' f.b.size c', .int .i64 f.safe] 90)).heap.size = w2.heap.size + 1 := by simp
          have HSZ3 := Lib.hid hsz3
          have hpl3 : p < ((w2.alloc (.cells #[.string f.name, .slice A' f.b.size c', .int .i64 f.safe] 90)).drew).heap.size := by show p < (w2.alloc (.cells #[.string f.name, .slice A' f.b.size c', .int .i64 f.safe] 90)).heap.size; omega
          have hd1 : ((w2.alloc (.cells #[.string f.name, .slice A' f.b.size c', .int .i64 f.safe] 90)).drew).cell? ⟨p, 1, none⟩ = some (.int .i64 D.quota) := (World.cell?_alloc_lt w2 _ ⟨p, 1, none⟩ (by show p < _; omega)).trans d1
          have HPL3 := Lib.hid hpl3; have HD1 := Lib.hid hd1
          clear hpl3 hd1
          clear hsz3
          have hwr : IntKind.i64.wrap ((D.used : Int) + (b.size : Int)) = (D.used : Int) + (b.size : Int) := IntWalk.i64_in _ (by omega)
          go_wp2_with fail
          go_region_held3 (fun w' => w'.cell? ⟨p, 1, none⟩ = some (.int .i64 D.quota)) (go_keep) (first | (go_at_call 64; (with_reducible refine HUS.out.mono ?_); rintro e w4 ⟨rfl, hb4⟩; have k1 := (hb4.cell (p := ⟨p, 1, none⟩) HPL3.out).trans HD1.out; have HB4 := Lib.hid ((HB3.out.drew).trans (hb4.mono HB3.out.size)); have HBW4 := Lib.hid hb4; clear hb4))
          have hB24 : Below w2.heap.size w2 w4 := (((Below.refl w2.heap.size w2).alloc (Nat.le_refl _) _).drew).trans (HBW4.out.mono (by show _ ≤ (World.alloc _ _).heap.size; simp))
          have hsz24 := HBW4.out.size
          have hsz24 : w2.heap.size + 1 ≤ w4.heap.size := by rw [← HSZ3.out]; exact hsz24
          have hN4 : Blk w4 w2.heap.size 90 #[.string f.name, (.slice A' f.b.size c'), .int .i64 f.safe] := HN.out.drew.below HBW4.out (by show _ < (World.alloc _ _).heap.size; simp)
          have hX4 := HBX.out.below hB24
          have hV4 := HBV.out.below HB4.out
          have hbA5 := (Below.refl w4.heap.size w4).alloc (Nat.le_refl _) (.cells #[(.slice A' f.b.size c'), .slice AB b.size cb] 33)
          have hX5 := hX4.below hbA5
          have hV5 := hV4.below hbA5
          have hC := concat_any _ (some ⟨w4.heap.size, 0, none⟩) 2 [((.slice A' f.b.size c'), f.b), (.slice AB b.size cb, b)] (rd_vals w4 [(.slice A' f.b.size c'), .slice AB b.size cb] 33 w4.heap.size rfl) (by
            intro x hx
            simp only [List.mem_cons, List.not_mem_nil, or_false] at hx
            rcases hx with rfl | rfl
            · exact hX5.btr
            · exact hV5) (by simp) (by simp [sumB]; omega)
          have hjb : joinB [((.slice A' f.b.size c'), f.b), (.slice AB b.size cb, b)] = f.b ++ b := by simp [joinB]
          rw [hjb] at hC
          have n1 := hN4.cell 1
          simp only [List.getElem?_toArray, List.getElem?_cons_zero, List.getElem?_cons_succ] at n1
          have HN4 := Lib.hid hN4; have HB24 := Lib.hid hB24; have HC := Lib.hid hC; have HBA5 := Lib.hid hbA5
          clear hN4 hX4 hV4 hX5 hV5 hC hjb hB24 hbA5 k1 d1
          go_wp2_with fail
          refine HC.out.mono ?_
          rintro e w6 ⟨v6, rfl, hv6, ho6, hb6⟩
          have hox6 : OkV v6 := OkV.of_own ho6 (by have h1 := HB4.out.size; have h2 := HTP.out; have h3 := HBA5.out.size; omega)
          have HOX := Lib.hid hox6
          clear ho6 hox6
          have hN6 := (HN4.out.alloc (.cells #[(.slice A' f.b.size c'), .slice AB b.size cb] 33)).below hb6 (by simp; omega)
          have hB46 : Below w4.heap.size w4 w6 := HBA5.out.trans (hb6.mono HBA5.out.size)
          have hsz6 := hB46.size
          obtain ⟨A6, n6, c6, hv6e⟩ : ∃ A n c, v6 = Value.slice A n c := by
            obtain ⟨A, c, he, _⟩ := hv6
            exact ⟨A, _, c, he⟩
          subst hv6e
          have g1 := hN6.frozen 1
          have n1 := hN6.cell 1
          simp only [List.getElem?_toArray, List.getElem?_cons_zero, List.getElem?_cons_succ] at n1
          obtain ⟨w7, hw7⟩ : ∃ w7, w7 = w6.setCell ⟨w2.heap.size, 1, none⟩ (.slice A6 n6 c6) := ⟨_, rfl⟩
          have hN7 : Blk w7 w2.heap.size 90 #[.string f.name, .slice A6 n6 c6, .int .i64 f.safe] := by rw [hw7]; exact hN6.set_ 1 _
          have hm7 : Moved w6 w7 w2.heap.size none := by rw [hw7]; exact Moved.set_ w6 _ 1 none _
          have hB6 : Below w.heap.size w w6 := HB4.out.trans (hB46.mono HB4.out.size)
          have hB7 : Below w.heap.size w w7 := hB6.trans ⟨hm7.os, hm7.tape, hm7.output, hm7.size, fun k hk => hm7.block k (by omega) (by omega) (by simp)⟩
          have hX7 : Bt w7 (.slice A6 n6 c6) (f.b ++ b) := hv6.moved hm7 (fun cs fz hh => blk_type hN6 hh (by decide)) (fun n hn => by cases hn)
          have hD7 := HD.out.below hB7 (Nat.le_refl _)
          have hsz7 := hm7.size
          have d0 := hD7.blk.cell 0
          simp only [List.getElem?_toArray, List.getElem?_cons_zero] at d0
          have n0 := hN7.cell 0; have n1' := hN7.cell 1; have n2 := hN7.cell 2
          simp only [List.getElem?_toArray, List.getElem?_cons_zero, List.getElem?_cons_succ] at n0 n1' n2
          have hR7 := HR.out.keep (fun g' hg' => hB7.block g' (HOW.out g' hg').2.1) (fun blk cs fz hh => hB7.block blk (Array.getElem?_eq_some_iff.1 hh).1)
          have HW7 := Lib.hid hw7; have HB7 := Lib.hid hB7; clear hN6 hB46 hm7 hB6 hb6 hv6 hw7
          obtain ⟨g4, cap4, x4, A4, cc4, hv4, hx4, hx42, hg4, e1, e2, e3⟩ := hR7.at_ (i := i) hlr (Below.refl _ _)
          simp only [Value.slice.injEq, Option.some.injEq, Addr.mk.injEq, and_true, true_and] at hv4
          obtain ⟨rfl, rfl⟩ := hv4
          have hgo := HOW.out g rfl
          have hgp : g ≠ p := hgo.2.2
          have hgw : g ≠ w2.heap.size := by omega
          have hgp' := hgp.symm; have hgw' := hgw.symm
          have hput := hR7.put (y := (⟨f.name, f.b ++ b, f.safe⟩, .slice A6 n6 c6)) hx4 hX7 HOX.out
          have hfin := hD7.row_put rfl hput.2 hput.1
          have hDP : ({ D with files := (rows.set i ((⟨f.name, f.b ++ b, f.safe⟩ : FileD), Value.slice A6 n6 c6)).map (·.1) } : DiskD) = D.put name b := by
            unfold DiskD.put DiskD.was
            rw [HAT.out, HFF.out, List.map_set, HRR.out, putL, if_pos rfl]
          rw [hDP] at hfin
          have hP := power_any _ base p _ (D.put name b) hfin.1.drew_ hs hs0 hl1 hl2
          obtain ⟨cur, hgb⟩ : ∃ cur, Blk w7 g 90 cur := by
            rcases hR7.1.2 with ⟨hv, _⟩ | ⟨g', cap', cur, hv, _, hh, _⟩
            · cases hv
            · simp only [Value.slice.injEq, Option.some.injEq, Addr.mk.injEq, and_true, true_and] at hv
              obtain ⟨rfl, rfl⟩ := hv
              exact ⟨cur, hh⟩
          have f0 := hgb.frozen (i * 3); have f1 := hgb.frozen (i * 3 + 1); have f2 := hgb.frozen (i * 3 + 2)
          have HP := Lib.hid hP; have HFin := Lib.hid hfin
          clear hP hfin hput hDP hx4 hx42 hR7 hX7 hN7 hgo hD7 hgb
          go_wp2_with fail
          rw [← HW7.out]
          go_region_held3 (fun w' => w'.cell? ⟨p, 0, none⟩ = some (.slice (some ⟨g, 0, none⟩) rows.length cr) ∧ w'.cell? ⟨w2.heap.size, 0, none⟩ = some (.string f.name) ∧ w'.cell? ⟨w2.heap.size, 1, none⟩ = some (.slice A6 n6 c6) ∧ w'.cell? ⟨w2.heap.size, 2, none⟩ = some (.int .i64 f.safe)) (go_keep) (fail)
          go_wp2_with fail
          refine HP.out.mono ?_
          rintro e w9 ⟨rfl, hD9, hm9⟩
          have HD9 := Lib.hid hD9; have HM9 := Lib.hid hm9
          clear hD9 hm9
          go_wp2
          go_ret
          exact ⟨rfl, _, HD9.out, ((Moved.of_below HB7.out p _).trans HFin.out.2.drew_ (.inl rfl)).trans HM9.out (.inr (.inl rfl)), own_new (.inl rfl)⟩

end Go.Proofs.YthmcimpdehgaoaaGreatDoor
namespace Go.Proofs.YthmcimpdehgaoaaGreatDoor
open Go.RowKit

/-- how many of a file's bytes stay -/
def keptN (f : FileD) (k : Option Int) : Nat := match k with
  | none => f.safe.toNat
  | some k => f.safe.toNat + (k % ((f.b.size - f.safe.toNat : Nat) + 1 : Int)).toNat
def keptL (f : FileD) (k : Option Int) : List FileD := if 0 < keptN f k ∨ f.safe ≠ -1 then [⟨f.name, f.b.extract 0 (keptN f k), keptN f k⟩] else []
def onGo : List FileD → List Int → List FileD
  | [], _ => []
  | f :: l, ks => keptL f ks.head? ++ onGo l ks.tail
theorem onGo_take : ∀ (L : List FileD) (ks : List Int) (i : Nat) (f : FileD), L[i]? = some f → onGo (L.take (i + 1)) ks = onGo (L.take i) ks ++ keptL f ks[i]? := by
  intro L
  induction L with
  | nil => intro ks i f h; simp at h
  | cons g L ih =>
    intro ks i f h
    cases i with
    | zero =>
      simp at h
      subst h
      simp [onGo, List.head?_eq_getElem?]
    | succ i =>
      simp only [List.getElem?_cons_succ] at h
      rw [List.take_succ_cons, List.take_succ_cons, onGo, onGo, ih ks.tail i f h, List.append_assoc, List.getElem?_tail]
theorem tmod_bounds (k m : Int) (hm : 0 < m) : -m < k.tmod m ∧ k.tmod m < m := by
  constructor
  · have := Int.lt_tmod_of_pos k hm; omega
  · exact Int.tmod_lt_of_pos k hm
theorem tmod_round (k m : Int) (hm : 0 < m) : (k.tmod m + m) % m = k % m := by
  rw [Int.add_emod_right, Int.tmod_eq_emod]
  split
  · simp
  · have : ((m.natAbs : Nat) : Int) = m := by omega
    rw [this, Int.sub_emod_right, Int.emod_emod_of_dvd _ (Int.dvd_refl m)]
/-- what a file's safe count may be -/
def SafeOk (f : FileD) : Prop := -1 ≤ f.safe ∧ f.safe ≤ f.b.size
theorem keptN_le (f : FileD) (h : SafeOk f) (k : Option Int) : keptN f k ≤ f.b.size := by
  obtain ⟨h1, h2⟩ := h
  unfold keptN
  cases k with
  | none => dsimp only; omega
  | some k =>
    dsimp only
    have h3 : 0 ≤ k % ((f.b.size - f.safe.toNat : Nat) + 1 : Int) := Int.emod_nonneg _ (by omega)
    have h4 : k % ((f.b.size - f.safe.toNat : Nat) + 1 : Int) < ((f.b.size - f.safe.toNat : Nat) + 1 : Int) := Int.emod_lt_of_pos _ (by omega)
    omega
theorem keptL_yes {f : FileD} {k : Option Int} {N : Nat} (h : keptN f k = N) (hK : (decide (0 < N) || (f.safe != -1)) = true) : keptL f k = [⟨f.name, f.b.extract 0 N, N⟩] := by
  unfold keptL
  rw [h, if_pos (by simpa using hK)]
theorem keptL_no {f : FileD} {k : Option Int} {N : Nat} (h : keptN f k = N) (hK : (decide (0 < N) || (f.safe != -1)) = false) : keptL f k = [] := by
  unfold keptL
  rw [h, if_neg (by simpa using hK)]
/-- the round of On at a file: what the loop holds -/
def OnRel [Forb] (w : World) (p : Nat) (D : DiskD) (keep : List Int) (i : Nat) (wr : World) : Prop :=
  Moved w wr p none ∧ ∃ v' rows', Blk wr p 68 #[v', .int .i64 D.quota, .int .i64 D.steps, .int .i64 (-1), .bool false] ∧ rows'.map (·.1) = onGo (D.files.take i) keep ∧ RowD wr w.heap.size v' rows' ∧ rows'.length ≤ i
theorem RowD.below [Forb] {w w' : World} {base : Nat} {v : Value} {rows : List (FileD × Value)} (h : RowD w base v rows) (hb : Below w.heap.size w w') : RowD w' base v rows :=
  h.keep (fun g hg => hb.block g (h.1.lt g hg).2) (fun blk _ _ hh => hb.block blk (Array.getElem?_eq_some_iff.1 hh).1)
theorem on_skip [Forb] {w wr wA : World} {p i : Nat} {D : DiskD} {keep : List Int} {f : FileD} (h : OnRel w p D keep i wr) (hfi : D.files[i]? = some f) (hk : keptL f keep[i]? = []) (hb : Below wr.heap.size wr wA) : OnRel w p D keep (i + 1) wA := by
  obtain ⟨hm, v', rows', h1, h2, h3, h4⟩ := h
  refine ⟨hm.trans (Moved.of_below hb p none) (.inl rfl), v', rows', h1.below hb h1.lt, ?_, h3.below hb, by omega⟩
  rw [onGo_take D.files keep i f hfi, hk, List.append_nil, h2]
theorem on_add [Forb] {w wr wX w5 : World} {p i : Nat} {D : DiskD} {keep : List Int} {f : FileD} {y : FileD × Value} {v1 v5 : Value} {rows1 : List (FileD × Value)} (hp : p < w.heap.size) (hm : Moved w wr p none) (hb1 : Blk wr p 68 #[v1, .int .i64 D.quota, .int .i64 D.steps, .int .i64 (-1), .bool false])
    (hr1 : rows1.map (·.1) = onGo (D.files.take i) keep) (hR1 : RowD wr w.heap.size v1 rows1) (hlen : rows1.length ≤ i) (hfi : D.files[i]? = some f) (hy1 : keptL f keep[i]? = [y.1]) (hX : Below wr.heap.size wr wX) (hyb : Bt wX y.2 y.1.b) (hyo : OkV y.2)
    (hg : wX.grownBy w5 v1.ownBlock) (ho : w5.ownsRow w.heap.size 90 3 v5 (rows1.length + 1) (rcells rows1 ++ fcells y)) : OnRel w p D keep (i + 1) (w5.setCell ⟨p, 0, none⟩ v5) := by
  have hge : ∀ k, v1.ownBlock = some k → w.heap.size ≤ k := fun k hk => (hR1.1.lt k hk).1
  have hne : ∀ k, v1.ownBlock = some k → k ≠ p := fun k hk => by have := hge k hk; omega
  have hb5 : Blk w5 p 68 #[v1, .int .i64 D.quota, .int .i64 D.steps, .int .i64 (-1), .bool false] :=
    (hg.block p (Nat.lt_of_lt_of_le hb1.lt hX.size) (fun e => hne p e.symm rfl)).trans ((hX.block p hb1.lt).trans hb1)
  have hm5 : Moved w w5 p none := ⟨hg.os.trans (hX.os.trans hm.os), hg.tape.trans (hX.tape.trans hm.tape), hg.output.trans (hX.output.trans hm.output), Nat.le_trans hm.size (Nat.le_trans hX.size hg.size), fun k hk hkp _ =>
    (hg.block k (Nat.lt_of_lt_of_le hk (Nat.le_trans hm.size hX.size)) (fun e => by have := hge k e.symm; omega)).trans ((hX.block k (Nat.lt_of_lt_of_le hk hm.size)).trans (hm.block k hk hkp (by simp)))⟩
  have hRX := hR1.below hX
  have hR5 : RowD w5 w.heap.size v5 (rows1 ++ [y]) := by
    have hbt : ∀ x ∈ rows1 ++ [y], Bt wX x.2 x.1.b ∧ OkV x.2 := by
      intro x hx
      rcases List.mem_append.1 hx with hx | hx
      · exact hRX.2 x hx
      · simp at hx; subst hx; exact ⟨hyb, hyo⟩
    refine ⟨?_, fun x hx => ⟨(hbt x hx).1.keep ?_, (hbt x hx).2⟩⟩
    rotate_left
    · exact fun blk cs fz hh => hg.block blk (Array.getElem?_eq_some_iff.1 hh).1 (fun e => own_type hRX.1 (by decide) blk e.symm cs fz hh)
    rw [rcells_append, List.length_append]
    have e : rcells [y] = fcells y := by simp [rcells]
    rw [e]; exact ho
  refine ⟨hm5.trans (Moved.set_ w5 p 0 none v5) (.inl rfl), v5, rows1 ++ [y], hb5.set_ 0 v5, ?_, hR5.set_ hb5 (by decide) (by decide) v5, by simp; omega⟩
  rw [onGo_take D.files keep i f hfi, hy1, List.map_append, hr1]; rfl
def DiskD.on (D : DiskD) (keep : List Int) : DiskD :=
  if D.off = true then { D with left := -1, off := false, files := onGo D.files keep } else { D with left := -1 }
end Go.Proofs.YthmcimpdehgaoaaGreatDoor
