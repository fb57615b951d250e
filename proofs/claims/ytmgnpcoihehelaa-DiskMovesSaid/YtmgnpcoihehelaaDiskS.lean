/- The disk's step: Sync, Cut, Rename, Remove. -/
import Derived.Test.YtmgnpcoihehelaaDiskR
namespace Go.Proofs.Ytmgnpcoihehelaa
open Go.RowKit

/-- what a call that changes a disk leaves: its row lies where it lay, or is new -/
def Leaves (w w' : World) (base p : Nat) (v : Value) (D' : DiskD) : Prop := ∃ v', DiskIs w' base p v' D' ∧ Moved w w' p v.ownBlock ∧ ∀ k, v'.ownBlock = some k → v.ownBlock = some k ∨ w.heap.size ≤ k
theorem own_new {a b : Option Nat} {n : Nat} (h : a = b ∨ ∃ k, a = some k ∧ n ≤ k) : ∀ k, a = some k → b = some k ∨ n ≤ k := by
  intro k hk
  rcases h with h | ⟨j, h, hj⟩
  · exact .inl (h.symm.trans hk)
  · rw [hk] at h
    injection h with h
    exact .inr (by omega)
theorem Leaves.trans {a b c : World} {base p : Nat} {v v1 : Value} {D' : DiskD} (hm : Moved a b p v.ownBlock) (ho : ∀ k, v1.ownBlock = some k → v.ownBlock = some k ∨ a.heap.size ≤ k) (h : Leaves b c base p v1 D') : Leaves a c base p v D' := by
  obtain ⟨v', hd, hm2, ho2⟩ := h
  refine ⟨v', hd, hm.trans hm2 ?_, fun k hk => ?_⟩
  · cases h1 : v1.ownBlock with
    | none => exact .inr (.inl rfl)
    | some k =>
      rcases ho k h1 with h2 | h2
      · exact .inl h2.symm
      · exact .inr (.inr ⟨k, rfl, h2⟩)
  · rcases ho2 k hk with h1 | h1
    · exact ho k h1
    · exact .inr (Nat.le_trans hm.size h1)
theorem Leaves.drew {w w' : World} {base p : Nat} {v : Value} {D' : DiskD} (h : Leaves w w' base p v D') : Leaves w w'.drew base p v D' := by
  obtain ⟨v', hd, hm, ho⟩ := h
  exact ⟨v', hd, hm.drew_, ho⟩
/-- what a step does to the files -/
def doesL (kind : Int) (L : List FileD) (i n : Nat) (to : ByteArray) (f : FileD) : List FileD :=
  if kind = 3 then L.take i ++ L.drop (i + 1)
  else if kind = 2 then putL (L.take i ++ L.drop (i + 1)) (findN ((L.take i ++ L.drop (i + 1)).map (·.name)) to).1 (findN ((L.take i ++ L.drop (i + 1)).map (·.name)) to).2 ⟨to, f.b, n⟩
  else L.set i ⟨f.name, f.b.extract 0 n, n⟩
theorem stepped_any (kind : Int) (hk : kind = 0 ∨ kind = 1 ∨ kind = 2 ∨ kind = 3) (w : World) (base p : Nat) (v : Value) (D : DiskD) (i n : Nat) (to : ByteArray) (f : FileD) (h : DiskIs w base p v D) (hi : D.files[i]? = some f) (hn : n ≤ f.b.size) (hl : D.files.length ≤ 100000000) (hbase : base ≤ w.heap.size) :
    Calls Try.prog (stepFn kind) #[.pointer (some ⟨p, 0, none⟩), .int .i64 i, .int .i64 n, .string to] w fun e w' => e = .returned (.tuple #[]) ∧ Leaves w w' base p v { D with files := doesL kind D.files i n to f } := by
  have hilt := (List.getElem?_eq_some_iff.1 hi).1
  have h1 := safely_any w base p v D i n to f h hi hn
  rcases hk with rfl | rfl | rfl | rfl
  · exact h1.mono fun e w' ⟨he, hd, hm⟩ => ⟨he, v, by simpa [doesL] using hd, hm, own_new (.inl rfl)⟩
  · exact h1.mono fun e w' ⟨he, hd, hm⟩ => ⟨he, v, by simpa [doesL] using hd, hm, own_new (.inl rfl)⟩
  · exact (moves_any w base p v D i n to f h hi hl hbase).mono fun e w' ⟨v', he, hd, hm, ho⟩ => ⟨he, v', by simpa [doesL] using hd, hm, own_new ho⟩
  · exact (drops_any w base p v D i n to h hilt (by omega)).mono fun e w' ⟨v', he, hd, hm, ho⟩ => ⟨he, v', by simpa [doesL] using hd, hm, own_new (.inl ho)⟩
/-- a file by its name: its place, and it -/
def DiskD.at_ (D : DiskD) (name : ByteArray) : Option (Nat × FileD) :=
  if (findN (D.files.map (·.name)) name).2 = true then (D.files[(findN (D.files.map (·.name)) name).1]?).map fun f => ((findN (D.files.map (·.name)) name).1, f) else none
theorem DiskD.at_none {D : DiskD} {name : ByteArray} (h : D.at_ name = none) : (findN (D.files.map (·.name)) name).2 = false := by
  cases ht : (findN (D.files.map (·.name)) name).2 with
  | false => rfl
  | true =>
    have h1 := findN_lt _ _ ht
    rw [List.length_map] at h1
    unfold DiskD.at_ at h
    rw [if_pos ht, List.getElem?_eq_getElem h1] at h
    cases h
theorem DiskD.at_some {D : DiskD} {name : ByteArray} {i : Nat} {f : FileD} (h : D.at_ name = some (i, f)) : findN (D.files.map (·.name)) name = (i, true) ∧ D.files[i]? = some f := by
  unfold DiskD.at_ at h
  split at h
  · rename_i ht
    rw [Option.map_eq_some_iff] at h
    obtain ⟨f', h1, h2⟩ := h
    injection h2 with h2 h3
    subst h2 h3
    exact ⟨Prod.ext rfl ht, h1⟩
  · cases h
/-- a step with a file that has to be there -/
def DiskD.step (D : DiskD) (kind : Int) (name to : ByteArray) (n : Int) (all : Bool) : Int × DiskD :=
  if D.asked [name, to] ≠ 0 then (D.asked [name, to], D)
  else match D.at_ name with
    | none => (5, D)
    | some (i, f) =>
      if (if all = true then (f.b.size : Int) else n) < 0 ∨ (f.b.size : Int) < (if all = true then (f.b.size : Int) else n) then (2, D)
      else if D.power.1 = 0 then (0, { D.power.2 with files := doesL kind D.files i (if all = true then (f.b.size : Int) else n).toNat to f })
      else (D.power.1, D.power.2)
theorem power_files (D : DiskD) : D.power.2.files = D.files := by unfold DiskD.power; split <;> (try split) <;> rfl
theorem power_err (D : DiskD) (h : D.power.1 ≠ 0) : D.power.1 = 160 := by unfold DiskD.power at *; split at h <;> (try split at h) <;> simp_all
set_option maxRecDepth 100000 in
set_option maxHeartbeats 8000000 in
theorem step_any (w : World) (base p : Nat) (v : Value) (D : DiskD) (kind : Int) (hk : kind = 0 ∨ kind = 1 ∨ kind = 2 ∨ kind = 3) (name to : ByteArray) (n : Int) (all : Bool) (h : DiskIs w base p v D) (hl : D.files.length ≤ 100000000) (hbase : base ≤ w.heap.size)
    (hb : ∀ f ∈ D.files, f.b.size ≤ 1000000000) (hs : D.steps < 9223372036854775807) (hs0 : 0 ≤ D.steps) (hl1 : -1 ≤ D.left) (hl2 : D.left ≤ 9223372036854775807) :
    Calls Try.prog 31 #[.pointer (some ⟨p, 0, none⟩), .int .i64 kind, .string name, .string to, .int .i64 n, .bool all] w fun e w' => e = .returned (.int .i64 (D.step kind name to n all).1) ∧ Leaves w w' base p v (D.step kind name to n all).2 := by
  have hrn := rd_vals w [.string name, .string to] 9 w.heap.size rfl
  have hBA := (Below.refl w.heap.size w).alloc (Nat.le_refl _) (.cells #[.string name, .string to] 9)
  have hDA := h.below hBA (Nat.le_refl _)
  have hA := asked_any _ base p v D hDA (some ⟨w.heap.size, 0, none⟩) 2 [name, to] hrn (by simp)
  have hMA := Moved.of_below hBA p v.ownBlock
  have hno : ∀ w' : World, Below w.heap.size w w' → Leaves w w' base p v D := fun w' hb => ⟨v, h.below hb (Nat.le_refl _), Moved.of_below hb p _, own_new (.inl rfl)⟩
  have HA := Lib.hid hA; have HB := Lib.hid hBA; have HDA := Lib.hid hDA; have HMA := Lib.hid hMA; have HNO := Lib.hid hno
  clear hA hrn hBA hDA hMA hno
  have hdo := fun w => does_any w (.pointer (some ⟨p, 0, none⟩)) kind hk
  have hst := stepped_any kind hk
  obtain ⟨fn, hfn⟩ : ∃ fn, stepFn kind = fn := ⟨_, rfl⟩
  rw [hfn] at hdo hst
  have hfn3 : fn = 65 ∨ fn = 64 ∨ fn = 63 := by
    rw [← hfn]; unfold stepFn
    split
    · exact .inl rfl
    · split
      · exact .inr (.inl rfl)
      · exact .inr (.inr rfl)
  have HDO := Lib.hid hdo; have HST := Lib.hid hst; have HFN := Lib.hid hfn3
  clear hfn hdo hst hfn3
  unfold DiskD.step
  by_cases ha : D.asked [name, to] ≠ 0
  · rw [if_pos ha]
    have hab : (D.asked [name, to] != 0) = true := by rw [bne_iff_ne]; exact ha
    clear ha
    go_enter Try.func31, Try.ntmps31
    go_wp2_with fail
    refine HA.out.mono ?_
    rintro e w1 ⟨rfl, rfl⟩
    go_wp2
    go_ret
    exact ⟨rfl, HNO.out _ HB.out⟩
  · rw [if_neg ha]
    have ha0 : D.asked [name, to] = 0 := by omega
    rw [ha0] at HA
    have haf : ((0 : Int) != 0) = false := rfl
    have HFI := Lib.hid (find_any _ base p v D HDA.out name (by omega))
    clear ha ha0
    cases hat : D.at_ name with
    | none =>
      have ht := DiskD.at_none hat
      rw [ht] at HFI
      clear hat ht
      go_enter Try.func31, Try.ntmps31
      go_wp2_with fail
      refine HA.out.mono ?_
      rintro e w1 ⟨rfl, rfl⟩
      go_wp2_with fail
      refine HFI.out.mono ?_
      rintro e w1 ⟨rfl, hb1⟩
      have HB1 := Lib.hid (HB.out.trans (hb1.mono HB.out.size))
      clear hb1
      go_wp2
      go_ret
      exact ⟨rfl, HNO.out _ HB1.out⟩
    | some x =>
      obtain ⟨i, f⟩ := x
      obtain ⟨hf, hfi⟩ := DiskD.at_some hat
      rw [hf] at HFI
      have hbs := hb f (List.mem_of_getElem? hfi)
      obtain ⟨rows, hr, hR⟩ := h.row
      obtain ⟨Ar, cr, rfl⟩ := own_shape hR.1
      have c0 := h.blk.cell 0
      simp only [List.getElem?_toArray, List.getElem?_cons_zero] at c0
      have hpl := h.blk.lt
      have hlt := (List.getElem?_eq_some_iff.1 hfi).1
      have hrl : rows.length = D.files.length := by rw [← hr, List.length_map]
      have hlr : i < rows.length := by omega
      have hiI : (i : Int) < (rows.length : Int) := by omega
      have hxm : ∀ x, rows[i]? = some x → x.1 = f := by
        intro x hx
        have : D.files[i]? = some x.1 := by rw [← hr, List.getElem?_map, hx]; rfl
        rw [hfi] at this; injection this with this; exact this.symm
      have HX := Lib.hid hxm; have HR := Lib.hid hR; have HFI2 := Lib.hid hfi
      dsimp only
      obtain ⟨m, hm⟩ : ∃ m, (if all = true then (f.b.size : Int) else n) = m := ⟨_, rfl⟩
      rw [hm]
      have hmall : (all = true ∧ m = f.b.size) ∨ (all = false ∧ m = n) := by
        cases all
        · exact .inr ⟨rfl, by simpa using hm.symm⟩
        · exact .inl ⟨rfl, by simpa using hm.symm⟩
      clear hxm hR hr hfi hf hat hrl hlt hm
      by_cases hbad : m < 0 ∨ (f.b.size : Int) < m
      · rw [if_pos hbad]
        have hall : all = false ∧ m = n := by
          rcases hmall with ⟨_, h2⟩ | h2
          · omega
          · exact h2
        obtain ⟨rfl, rfl⟩ := hall
        clear hmall
        rcases hbad with hbad | hbad
        all_goals
          go_enter Try.func31, Try.ntmps31
          go_wp2_with fail
          refine HA.out.mono ?_
          rintro e w1 ⟨rfl, rfl⟩
          go_wp2_with fail
          refine HFI.out.mono ?_
          rintro e w1 ⟨rfl, hb1⟩
          have hB1 := HB.out.trans (hb1.mono HB.out.size)
          have d0 := (hB1.cell (p := ⟨p, 0, none⟩) hpl).trans c0
          obtain ⟨g, cap, x, A', c', hv, hx, hx2, hg, c1, c2, c3⟩ := HR.out.at_ (i := i) hlr hB1
          simp only [Value.slice.injEq] at hv
          obtain ⟨rfl, -, rfl⟩ := hv
          rw [HX.out x hx] at c2
          have HB1 := Lib.hid hB1
          clear hB1 hb1 hx hx2 c0 c1 c3
          go_wp2
          go_ret
          exact ⟨rfl, HNO.out _ HB1.out⟩
      · rw [if_neg hbad]
        obtain ⟨k, rfl⟩ : ∃ k : Nat, m = k := ⟨m.toNat, by omega⟩
        have hk0 : ¬ (k : Int) < 0 := by omega
        have hks : ¬ (f.b.size : Int) < (k : Int) := by omega
        have hkn : k ≤ f.b.size := by omega
        rw [Int.toNat_natCast]
        clear hbad
        cases hp0 : (D.power.1 == 0) with
        | true =>
          have hp0' : D.power.1 = 0 := by simpa using hp0
          rw [if_pos hp0']
          have HP0 := Lib.hid hp0'
          have hpf := power_files D
          have HPF := Lib.hid hpf
          clear hp0' hp0 hpf
          rcases hmall with ⟨rfl, hmm⟩ | ⟨rfl, hmm⟩
          rotate_left
          obtain rfl := hmm
          rotate_left
          obtain rfl : k = f.b.size := by omega
          clear hmm
          all_goals
            go_enter Try.func31, Try.ntmps31
            go_wp2_with fail
            refine HA.out.mono ?_
            rintro e w1 ⟨rfl, rfl⟩
            go_wp2_with fail
            refine HFI.out.mono ?_
            rintro e w1 ⟨rfl, hb1⟩
            have hB1 := HB.out.trans (hb1.mono HB.out.size)
            have d0 := (hB1.cell (p := ⟨p, 0, none⟩) hpl).trans c0
            obtain ⟨g, cap, x, A', c', hv, hx, hx2, hg, c1, c2, c3⟩ := HR.out.at_ (i := i) hlr hB1
            simp only [Value.slice.injEq] at hv
            obtain ⟨rfl, -, rfl⟩ := hv
            rw [HX.out x hx] at c2
            have hPW := power_any _ base p _ D (HDA.out.below hb1 (Nat.le_refl _)) hs hs0 hl1 hl2
            rw [HP0.out] at hPW
            have HB1 := Lib.hid hB1; have HPW := Lib.hid hPW
            clear hB1 hb1 hx hx2 c0 c1 c3 hPW
            go_wp2_with fail
            refine HPW.out.mono ?_
            rintro e w2 ⟨rfl, hD2, hm2⟩
            have hM := (Moved.of_below HB1.out p (Value.slice (some ⟨g, 0, none⟩) rows.length cr).ownBlock).trans hm2 (.inr (.inl rfl))
            have HD2 := Lib.hid hD2; have HM := Lib.hid hM
            clear hD2 hm2 hM
            go_wp2_with fail
            refine (HDO.out _).mono ?_
            rintro e w3 ⟨rfl, rfl⟩
            have hS := HST.out w3 base p _ D.power.2 i _ to f HD2.out (by rw [HPF.out]; exact HFI2.out) hkn (by rw [HPF.out]; exact hl) (Nat.le_trans hbase HM.out.size)
            have HS := Lib.hid hS
            clear hS
            have hfn := HFN.out
            rcases hfn with rfl | rfl | rfl
            all_goals
              go_wp2_with fail
              (with_reducible refine HS.out.mono ?_)
              rintro e w4 ⟨rfl, hL⟩
              have HL := Lib.hid hL
              clear hL
              go_wp2
              go_ret
              have hL := Leaves.trans HM.out (own_new (.inl rfl)) HL.out
              rw [HPF.out] at hL
              exact ⟨rfl, hL⟩
        | false =>
          have hp0' : D.power.1 ≠ 0 := by simpa using hp0
          rw [if_neg hp0']
          have HP0 := Lib.hid (power_err D hp0')
          clear hp0' hp0
          rw [HP0.out]
          rcases hmall with ⟨rfl, hmm⟩ | ⟨rfl, hmm⟩
          rotate_left
          obtain rfl := hmm
          rotate_left
          obtain rfl : k = f.b.size := by omega
          clear hmm
          all_goals
            go_enter Try.func31, Try.ntmps31
            go_wp2_with fail
            refine HA.out.mono ?_
            rintro e w1 ⟨rfl, rfl⟩
            go_wp2_with fail
            refine HFI.out.mono ?_
            rintro e w1 ⟨rfl, hb1⟩
            have hB1 := HB.out.trans (hb1.mono HB.out.size)
            have d0 := (hB1.cell (p := ⟨p, 0, none⟩) hpl).trans c0
            obtain ⟨g, cap, x, A', c', hv, hx, hx2, hg, c1, c2, c3⟩ := HR.out.at_ (i := i) hlr hB1
            simp only [Value.slice.injEq] at hv
            obtain ⟨rfl, -, rfl⟩ := hv
            rw [HX.out x hx] at c2
            have hPW := power_any _ base p _ D (HDA.out.below hb1 (Nat.le_refl _)) hs hs0 hl1 hl2
            rw [HP0.out] at hPW
            have HB1 := Lib.hid hB1; have HPW := Lib.hid hPW
            clear hB1 hb1 hx hx2 c0 c1 c3 hPW
            go_wp2_with fail
            refine HPW.out.mono ?_
            rintro e w2 ⟨rfl, hD2, hm2⟩
            have hM := (Moved.of_below HB1.out p (Value.slice (some ⟨g, 0, none⟩) rows.length cr).ownBlock).trans hm2 (.inr (.inl rfl))
            have HD2 := Lib.hid hD2; have HM := Lib.hid hM
            clear hD2 hm2 hM
            go_wp2
            go_ret
            exact ⟨rfl, _, HD2.out, HM.out, own_new (.inl rfl)⟩
end Go.Proofs.Ytmgnpcoihehelaa
