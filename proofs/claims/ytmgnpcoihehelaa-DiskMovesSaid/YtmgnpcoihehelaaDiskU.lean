/- The disk's Append. -/
import Derived.Test.YtmgnpcoihehelaaDiskT
import Derived.IntWalk
namespace Go.Proofs.Ytmgnpcoihehelaa
open Go.RowKit

theorem DiskIs.drew_ {w : World} {base p : Nat} {v : Value} {D : DiskD} (h : DiskIs w base p v D) : DiskIs w.drew base p v D := h
/-- the file that Append puts: what was, and the bytes behind it -/
def DiskD.was (D : DiskD) (name : ByteArray) : FileD := match D.at_ name with
  | none => ⟨name, ByteArray.empty, -1⟩
  | some x => x.2
def DiskD.put (D : DiskD) (name b : ByteArray) : DiskD :=
  { D with files := putL D.files (findN (D.files.map (·.name)) name).1 (findN (D.files.map (·.name)) name).2 ⟨(D.was name).name, (D.was name).b ++ b, (D.was name).safe⟩ }
def DiskD.append (D : DiskD) (name b : ByteArray) : Int × DiskD :=
  if D.asked [name] ≠ 0 then (D.asked [name], D)
  else if (8388608 : Int) < ((D.was name).b.size : Int) + (b.size : Int) then (3, D)
  else if D.quota < (D.used : Int) + (b.size : Int) then (161, D)
  else (D.put name b).power
attribute [local go_sem ↓] Go.wp_at_zero Go.wp_at_succ
set_option maxRecDepth 100000 in
set_option maxHeartbeats 8000000 in
theorem append_any (w : World) (base p : Nat) (v : Value) (D : DiskD) (name : ByteArray) (bv : Value) (b : ByteArray) (h : DiskIs w base p v D) (hbase : base ≤ w.heap.size) (hf : Fit D) (hu : D.used ≤ 1000000000000) (hbv : BtR w bv b) (hbs : b.size ≤ 1000000000) :
    Calls Try.prog 9 #[.pointer (some ⟨p, 0, none⟩), .string name, bv] w fun e w' => e = .returned (.int .i64 (D.append name b).1) ∧ Leaves w w' base p v (D.append name b).2 := by
  obtain ⟨hl, hb, hs, hs0, hl1, hl2⟩ := hf
  obtain ⟨AB, cb, rfl, hcb, -⟩ := id hbv
  have HBV := Lib.hid hbv
  have hrn := rd_vals w [.string name] 9 w.heap.size rfl
  have hBA := (Below.refl w.heap.size w).alloc (Nat.le_refl _) (.cells #[.string name] 9)
  have hDA := h.below hBA (Nat.le_refl _)
  have hA := asked_any _ base p v D hDA (some ⟨w.heap.size, 0, none⟩) 1 [name] hrn (by simp)
  have hno : ∀ w' : World, Below w.heap.size w w' → Leaves w w' base p v D := fun w' hb => ⟨v, h.below hb (Nat.le_refl _), Moved.of_below hb p _, own_new (.inl rfl)⟩
  have HA := Lib.hid hA; have HB := Lib.hid hBA; have HDA := Lib.hid hDA; have HNO := Lib.hid hno; have HD := Lib.hid h
  clear hA hrn hBA hDA hno hbv
  by_cases ha : D.asked [name] ≠ 0
  · unfold DiskD.append
    rw [if_pos ha]
    have hab : (D.asked [name] != 0) = true := by rw [bne_iff_ne]; exact ha
    clear ha
    go_enter Try.func9, Try.ntmps9
    go_wp2_with fail
    refine HA.out.mono ?_
    rintro e w1 ⟨rfl, rfl⟩
    go_wp2
    go_ret
    exact ⟨rfl, HNO.out _ HB.out⟩
  · have HQ : Hid (D.append name b = _) := Lib.hid (show D.append name b = _ by unfold DiskD.append; rw [if_neg ha])
    have ha0 : D.asked [name] = 0 := by omega
    rw [ha0] at HA
    have haf : ((0 : Int) != 0) = false := rfl
    have HFI := Lib.hid (find_any _ base p v D HDA.out name (by omega))
    clear ha ha0
    obtain ⟨rows, hr, hR⟩ := h.row
    obtain ⟨Ar, cr, rfl⟩ := own_shape hR.1
    have c0 := h.blk.cell 0; have c1 := h.blk.cell 1
    simp only [List.getElem?_toArray, List.getElem?_cons_zero, List.getElem?_cons_succ] at c0 c1
    have hpl := h.blk.lt
    have hrl : rows.length = D.files.length := by rw [← hr, List.length_map]
    have hrl2 : rows.length ≤ 100000000 := by omega
    have hown := h.own
    have HOW := Lib.hid hown
    have HR := Lib.hid hR; have HRR := Lib.hid hr
    clear hown hR hr h
    unfold DiskD.was at HQ
    cases hat : D.at_ name with
    | none =>
      have ht := DiskD.at_none hat
      rw [ht] at HFI
      have HT := Lib.hid ht; have HAT := Lib.hid hat
      rw [hat] at HQ
      obtain ⟨i, hi⟩ : ∃ i, (findN (D.files.map (·.name)) name).1 = i := ⟨_, rfl⟩
      rw [hi] at HFI
      have hil : i ≤ rows.length := by have := findN_le (D.files.map (·.name)) name; rw [hi, List.length_map] at this; omega
      have HI := Lib.hid hi
      clear hat ht hrl hi
      -- the limit
      have hsz4 : 0 + b.size ≤ 2000000000 := by omega
      by_cases hlim : (8388608 : Int) < (b.size : Int)
      · have hq := HQ.out
        rw [if_pos (by simpa using hlim)] at hq
        rw [hq]
        clear hq
        go_enter Try.func9, Try.ntmps9
        go_wp2_with fail
        refine HA.out.mono ?_
        rintro e w1 ⟨rfl, rfl⟩
        go_wp2_with fail
        refine HFI.out.mono ?_
        rintro e w2 ⟨rfl, hb1⟩
        have hB2 := HB.out.trans (hb1.mono HB.out.size)
        have d1 := (hB2.cell (p := ⟨p, 1, none⟩) hpl).trans c1
        have HBX := Lib.hid (bt_nil w2)
        have hB3 := hB2.alloc hB2.size (.cells #[.string name, .slice none 0 0, .int .i64 (-1)] 61)
        have hnb := Blk.new w2 61 #[.string name, .slice none 0 0, .int .i64 (-1)]
        have hsz2 := hB2.size
        have hpl2 : p < w2.heap.size := by omega
        have hDw3 := HD.out.below hB3 (Nat.le_refl _)
        have HB2 := Lib.hid hB2; have HB3 := Lib.hid hB3; have HN := Lib.hid hnb; have HD3 := Lib.hid hDw3
        clear hB2 hb1 hB3 hnb hDw3
        go_wp2
        go_ret
        exact ⟨rfl, HNO.out _ HB3.out⟩
      · have hq := HQ.out
        rw [if_neg (by simpa using hlim)] at hq
        by_cases hquo : D.quota < (D.used : Int) + (b.size : Int)
        · rw [if_pos hquo] at hq
          rw [hq]
          clear hq
          go_enter Try.func9, Try.ntmps9
          go_wp2_with fail
          refine HA.out.mono ?_
          rintro e w1 ⟨rfl, rfl⟩
          go_wp2_with fail
          refine HFI.out.mono ?_
          rintro e w2 ⟨rfl, hb1⟩
          have hB2 := HB.out.trans (hb1.mono HB.out.size)
          have d1 := (hB2.cell (p := ⟨p, 1, none⟩) hpl).trans c1
          have HBX := Lib.hid (bt_nil w2)
          have hB3 := hB2.alloc hB2.size (.cells #[.string name, .slice none 0 0, .int .i64 (-1)] 61)
          have hnb := Blk.new w2 61 #[.string name, .slice none 0 0, .int .i64 (-1)]
          have hsz2 := hB2.size
          have hpl2 : p < w2.heap.size := by omega
          have hDw3 := HD.out.below hB3 (Nat.le_refl _)
          have HB2 := Lib.hid hB2; have HB3 := Lib.hid hB3; have HN := Lib.hid hnb; have HD3 := Lib.hid hDw3
          clear hB2 hb1 hB3 hnb hDw3
          have HUS := Lib.hid (used_any _ base p _ D (HD3.out.drew_) (by omega) hu)
          have hsz3 : (w2.alloc (.cells #[.string name, .slice none 0 0, .int .i64 (-1)] 61)).heap.size = w2.heap.size + 1 := by simp
          have HSZ3 := Lib.hid hsz3
          have hpl3 : p < ((w2.alloc (.cells #[.string name, .slice none 0 0, .int .i64 (-1)] 61)).drew).heap.size := by show p < (w2.alloc (.cells #[.string name, .slice none 0 0, .int .i64 (-1)] 61)).heap.size; omega
          have hd1 : ((w2.alloc (.cells #[.string name, .slice none 0 0, .int .i64 (-1)] 61)).drew).cell? ⟨p, 1, none⟩ = some (.int .i64 D.quota) := (World.cell?_alloc_lt w2 _ ⟨p, 1, none⟩ (by show p < _; omega)).trans d1
          have HPL3 := Lib.hid hpl3; have HD1 := Lib.hid hd1
          clear hpl3 hd1
          clear hsz3
          have hwr : IntKind.i64.wrap ((D.used : Int) + (b.size : Int)) = (D.used : Int) + (b.size : Int) := IntWalk.i64_in _ (by omega)
          go_wp2_with fail
          go_region_held3 (fun w' => w'.cell? ⟨p, 1, none⟩ = some (.int .i64 D.quota)) (go_keep) (first | (go_at_call 16; (with_reducible refine HUS.out.mono ?_); rintro e w4 ⟨rfl, hb4⟩; have k1 := (hb4.cell (p := ⟨p, 1, none⟩) HPL3.out).trans HD1.out; have HB4 := Lib.hid ((HB3.out.drew).trans (hb4.mono HB3.out.size)); have HBW4 := Lib.hid hb4; clear hb4))
          go_wp2
          go_ret
          exact ⟨rfl, HNO.out _ HB4.out⟩
        · rw [if_neg hquo] at hq
          rw [hq]
          clear hq
          go_enter Try.func9, Try.ntmps9
          go_wp2_with fail
          refine HA.out.mono ?_
          rintro e w1 ⟨rfl, rfl⟩
          go_wp2_with fail
          refine HFI.out.mono ?_
          rintro e w2 ⟨rfl, hb1⟩
          have hB2 := HB.out.trans (hb1.mono HB.out.size)
          have d1 := (hB2.cell (p := ⟨p, 1, none⟩) hpl).trans c1
          have HBX := Lib.hid (bt_nil w2)
          have hB3 := hB2.alloc hB2.size (.cells #[.string name, .slice none 0 0, .int .i64 (-1)] 61)
          have hnb := Blk.new w2 61 #[.string name, .slice none 0 0, .int .i64 (-1)]
          have hsz2 := hB2.size
          have hpl2 : p < w2.heap.size := by omega
          have hDw3 := HD.out.below hB3 (Nat.le_refl _)
          have HB2 := Lib.hid hB2; have HB3 := Lib.hid hB3; have HN := Lib.hid hnb; have HD3 := Lib.hid hDw3
          clear hB2 hb1 hB3 hnb hDw3
          have HUS := Lib.hid (used_any _ base p _ D (HD3.out.drew_) (by omega) hu)
          have hsz3 : (w2.alloc (.cells #[.string name, .slice none 0 0, .int .i64 (-1)] 61)).heap.size = w2.heap.size + 1 := by simp
          have HSZ3 := Lib.hid hsz3
          have hpl3 : p < ((w2.alloc (.cells #[.string name, .slice none 0 0, .int .i64 (-1)] 61)).drew).heap.size := by show p < (w2.alloc (.cells #[.string name, .slice none 0 0, .int .i64 (-1)] 61)).heap.size; omega
          have hd1 : ((w2.alloc (.cells #[.string name, .slice none 0 0, .int .i64 (-1)] 61)).drew).cell? ⟨p, 1, none⟩ = some (.int .i64 D.quota) := (World.cell?_alloc_lt w2 _ ⟨p, 1, none⟩ (by show p < _; omega)).trans d1
          have HPL3 := Lib.hid hpl3; have HD1 := Lib.hid hd1
          clear hpl3 hd1
          clear hsz3
          have hwr : IntKind.i64.wrap ((D.used : Int) + (b.size : Int)) = (D.used : Int) + (b.size : Int) := IntWalk.i64_in _ (by omega)
          go_wp2_with fail
          go_region_held3 (fun w' => w'.cell? ⟨p, 1, none⟩ = some (.int .i64 D.quota)) (go_keep) (first | (go_at_call 16; (with_reducible refine HUS.out.mono ?_); rintro e w4 ⟨rfl, hb4⟩; have k1 := (hb4.cell (p := ⟨p, 1, none⟩) HPL3.out).trans HD1.out; have HB4 := Lib.hid ((HB3.out.drew).trans (hb4.mono HB3.out.size)); have HBW4 := Lib.hid hb4; clear hb4))
          have hB24 : Below w2.heap.size w2 w4 := (((Below.refl w2.heap.size w2).alloc (Nat.le_refl _) _).drew).trans (HBW4.out.mono (by show _ ≤ (World.alloc _ _).heap.size; simp))
          have hsz24 := HBW4.out.size
          have hsz24 : w2.heap.size + 1 ≤ w4.heap.size := by rw [← HSZ3.out]; exact hsz24
          have hN4 : Blk w4 w2.heap.size 61 #[.string name, (.slice none 0 0), .int .i64 (-1)] := HN.out.drew.below HBW4.out (by show _ < (World.alloc _ _).heap.size; simp)
          have hX4 := HBX.out.below hB24
          have hV4 := HBV.out.below HB4.out
          have hbA5 := (Below.refl w4.heap.size w4).alloc (Nat.le_refl _) (.cells #[(.slice none 0 0), .slice AB b.size cb] 22)
          have hX5 := hX4.below hbA5
          have hV5 := hV4.below hbA5
          have hC := concat_any _ (some ⟨w4.heap.size, 0, none⟩) 2 [((.slice none 0 0), ByteArray.empty), (.slice AB b.size cb, b)] (rd_vals w4 [(.slice none 0 0), .slice AB b.size cb] 22 w4.heap.size rfl) (by
            intro x hx
            simp only [List.mem_cons, List.not_mem_nil, or_false] at hx
            rcases hx with rfl | rfl
            · exact hX5.btr
            · exact hV5) (by simp) (by simp [sumB]; omega)
          have hjb : joinB [((.slice none 0 0), ByteArray.empty), (.slice AB b.size cb, b)] = ByteArray.empty ++ b := by simp [joinB]
          rw [hjb] at hC
          have n1 := hN4.cell 1
          simp only [List.getElem?_toArray, List.getElem?_cons_zero, List.getElem?_cons_succ] at n1
          have HN4 := Lib.hid hN4; have HB24 := Lib.hid hB24; have HC := Lib.hid hC; have HBA5 := Lib.hid hbA5
          clear hN4 hX4 hV4 hX5 hV5 hC hjb hB24 hbA5 k1 d1
          go_wp2_with fail
          refine HC.out.mono ?_
          rintro e w6 ⟨v6, rfl, hv6, -, hb6⟩
          have hN6 := (HN4.out.alloc (.cells #[(.slice none 0 0), .slice AB b.size cb] 22)).below hb6 (by simp; omega)
          have hB46 : Below w4.heap.size w4 w6 := HBA5.out.trans (hb6.mono HBA5.out.size)
          have hsz6 := hB46.size
          obtain ⟨A6, n6, c6, hv6e⟩ : ∃ A n c, v6 = Value.slice A n c := by
            obtain ⟨A, c, he, _⟩ := hv6
            exact ⟨A, _, c, he⟩
          subst hv6e
          have g1 := hN6.frozen 1
          have n1 := hN6.cell 1
          simp only [List.getElem?_toArray, List.getElem?_cons_zero, List.getElem?_cons_succ] at n1
          obtain ⟨w7, hw7⟩ : ∃ w7, w7 = w6.setCell ⟨w2.heap.size, 1, none⟩ (.slice A6 n6 c6) := ⟨_, rfl⟩
          have hN7 : Blk w7 w2.heap.size 61 #[.string name, .slice A6 n6 c6, .int .i64 (-1)] := by rw [hw7]; exact hN6.set_ 1 _
          have hm7 : Moved w6 w7 w2.heap.size none := by rw [hw7]; exact Moved.set_ w6 _ 1 none _
          have hB6 : Below w.heap.size w w6 := HB4.out.trans (hB46.mono HB4.out.size)
          have hB7 : Below w.heap.size w w7 := hB6.trans ⟨hm7.os, hm7.tape, hm7.output, hm7.size, fun k hk => hm7.block k (by omega) (by omega) (by simp)⟩
          have hX7 : Bt w7 (.slice A6 n6 c6) (ByteArray.empty ++ b) := hv6.moved hm7 (fun cs fz hh => blk_type hN6 hh (by decide)) (fun n hn => by cases hn)
          have hD7 := HD.out.below hB7 (Nat.le_refl _)
          have hsz7 := hm7.size
          have d0 := hD7.blk.cell 0
          simp only [List.getElem?_toArray, List.getElem?_cons_zero] at d0
          have n0 := hN7.cell 0; have n1' := hN7.cell 1; have n2 := hN7.cell 2
          simp only [List.getElem?_toArray, List.getElem?_cons_zero, List.getElem?_cons_succ] at n0 n1' n2
          have hR7 := HR.out.keep (fun g' hg' => hB7.block g' (HOW.out g' hg').2.1) (fun blk cs fz hh => hB7.block blk (Array.getElem?_eq_some_iff.1 hh).1)
          have HW7 := Lib.hid hw7; have HB7 := Lib.hid hB7; clear hN6 hB46 hm7 hB6 hb6 hv6 hw7
          have hbA := (Below.refl w7.heap.size w7).alloc (Nat.le_refl _) (.cells #[.string name, .slice A6 n6 c6, .int .i64 (-1)] 61)
          have hRA : RowD (w7.alloc (.cells #[.string name, .slice A6 n6 c6, .int .i64 (-1)] 61)).drew base (.slice Ar rows.length cr) rows := hR7.keep (fun g' hg' => hbA.block g' (hD7.own g' hg').2.1) (fun blk cs fz hh => hbA.block blk (Array.getElem?_eq_some_iff.1 hh).1)
          have hXA : Bt (w7.alloc (.cells #[.string name, .slice A6 n6 c6, .int .i64 (-1)] 61)).drew (.slice A6 n6 c6) (ByteArray.empty ++ b) := hX7.below hbA.drew
          have hI := insert_any _ base _ rows i (⟨name, ByteArray.empty ++ b, -1⟩, .slice A6 n6 c6) w7.heap.size 1 hRA hil (by omega) (by simp; omega) (Blk.new w7 61 #[.string name, .slice A6 n6 c6, .int .i64 (-1)]) (fun e => by have := (HOW.out _ e).2.1; omega) hXA
          have hp7 : p < w7.heap.size := by omega
          have hwp : w2.heap.size ≠ p := by omega
          have hwp' : p ≠ w2.heap.size := by omega
          have fp := hD7.blk.frozen 0
          have hq : ∀ w8 : World, (w7.alloc (.cells #[.string name, .slice A6 n6 c6, .int .i64 (-1)] 61)).drew.grownBy w8 (Value.slice Ar rows.length cr).ownBlock → w8.heap[p]? = w7.heap[p]? := fun w8 hg8 =>
            (hg8.block p (by simp; omega) (fun e => (HOW.out p e.symm).2.2 rfl)).trans (hbA.block p hp7)
          have hblk7 := hD7.blk
          have hq' : ∀ w8 : World, (w7.alloc (.cells #[.string name, .slice A6 n6 c6, .int .i64 (-1)] 61)).drew.grownBy w8 (Value.slice Ar rows.length cr).ownBlock → w8.cell? ⟨p, 0, none⟩ = some (.slice Ar rows.length cr) ∧ w8.frozen? ⟨p, 0, none⟩ = false := fun w8 hg8 => by
            have hb8 : Blk w8 p 56 _ := (hq w8 hg8).trans hblk7
            exact ⟨hb8.cell 0, hb8.frozen 0⟩
          have hDP : ({ D with files := (rows.take i ++ ((⟨name, ByteArray.empty ++ b, -1⟩ : FileD), Value.slice A6 n6 c6) :: rows.drop i).map (·.1) } : DiskD) = D.put name b := by
            unfold DiskD.put DiskD.was
            rw [HAT.out, HI.out, HT.out, putL, if_neg (by simp), List.map_append, List.map_cons, List.map_take, List.map_drop, HRR.out]
          have HQP := Lib.hid hq; have HQ' := Lib.hid hq'; have HIN := Lib.hid hI; have HBA := Lib.hid hbA; have HDP := Lib.hid hDP; have HD7 := Lib.hid hD7
          clear hq hq' hI hbA hRA hXA hblk7 hDP hR7 hX7 hN7 hD7
          go_wp2_with fail
          rw [← HW7.out]
          go_region_with (first | (go_at_call 29; (with_reducible refine HIN.out.mono ?_); rintro e w8 ⟨v8, rfl, hR8, hg8, hb8⟩; obtain ⟨A8, n8, c8, rfl⟩ := own_shape' hR8.1; obtain ⟨q1, q2⟩ := HQ'.out w8 hg8; have HR8 := Lib.hid hR8; have HG8 := Lib.hid hg8; have HO8 := Lib.hid hb8; clear hR8 hg8 hb8))
          all_goals
            have hmA : Moved w7 w8 p (Value.slice Ar rows.length cr).ownBlock := (Moved.of_below HBA.out p (Value.slice Ar rows.length cr).ownBlock).drew_.trans (Moved.of_grown HG8.out p) (.inl rfl)
            have hfin := HD7.out.row_set hmA (HQP.out w8 HG8.out) HR8.out
            rw [HDP.out] at hfin
            have hP := power_any _ base p _ (D.put name b) hfin.1 hs hs0 hl1 hl2
            have HP := Lib.hid hP; have HFin := Lib.hid hfin
            clear hP hfin hmA
            go_wp2_with fail
            refine HP.out.mono ?_
            rintro e w9 ⟨rfl, hD9, hm9⟩
            have HD9 := Lib.hid hD9; have HM9 := Lib.hid hm9
            clear hD9 hm9
            go_wp2
            go_ret
            refine ⟨rfl, _, HD9.out, ((Moved.of_below HB7.out p _).trans HFin.out.2 (.inl rfl)).trans HM9.out (.inr (.inl rfl)), ?_⟩
            refine own_new ?_
            rcases HO8.out with h8 | h8
            · exact .inl h8
            · exact .inr ⟨_, h8, by simp; omega⟩

    | some x =>
      obtain ⟨i, f⟩ := x
      obtain ⟨hf, hfi⟩ := DiskD.at_some hat
      rw [hf] at HFI
      have hbs2 := hb f (List.mem_of_getElem? hfi)
      have hlt := (List.getElem?_eq_some_iff.1 hfi).1
      have hlr : i < rows.length := by omega
      have hiI : (i : Int) < (rows.length : Int) := by omega
      have hxm : ∀ x, rows[i]? = some x → x.1 = f := by
        intro x hx
        have : D.files[i]? = some x.1 := by rw [← HRR.out, List.getElem?_map, hx]; rfl
        rw [hfi] at this; injection this with this; exact this.symm
      have HX := Lib.hid hxm; have HFI2 := Lib.hid hfi; have HFF := Lib.hid hf; have HAT := Lib.hid hat
      rw [hat] at HQ
      clear hxm hfi hf hat hrl hlt
      -- the limit
      have hsz4 : f.b.size + b.size ≤ 2000000000 := by omega
      by_cases hlim : (8388608 : Int) < (f.b.size : Int) + (b.size : Int)
      · have hq := HQ.out
        rw [if_pos (by exact hlim)] at hq
        rw [hq]
        clear hq
        go_enter Try.func9, Try.ntmps9
        go_wp2_with fail
        refine HA.out.mono ?_
        rintro e w1 ⟨rfl, rfl⟩
        go_wp2_with fail
        refine HFI.out.mono ?_
        rintro e w2 ⟨rfl, hb1⟩
        have hB2 := HB.out.trans (hb1.mono HB.out.size)
        have d1 := (hB2.cell (p := ⟨p, 1, none⟩) hpl).trans c1
        have d0 := (hB2.cell (p := ⟨p, 0, none⟩) hpl).trans c0
        obtain ⟨g, cap, x, A', c', hv, hx, hx2, hg, e1, e2, e3⟩ := HR.out.at_ (i := i) hlr hB2
        simp only [Value.slice.injEq] at hv
        obtain ⟨rfl, -, rfl⟩ := hv
        rw [HX.out x hx] at e1 e2 e3
        have hbx := (HR.out.2 x (List.mem_of_getElem? hx)).at_ hB2 (Nat.le_refl _)
        rw [hx2, HX.out x hx] at hbx
        have HBX := Lib.hid hbx
        clear hx hx2 hbx
        have hB3 := hB2.alloc hB2.size (.cells #[.string f.name, .slice A' f.b.size c', .int .i64 f.safe] 61)
        have hnb := Blk.new w2 61 #[.string f.name, .slice A' f.b.size c', .int .i64 f.safe]
        have hsz2 := hB2.size
        have hpl2 : p < w2.heap.size := by omega
        have hgl2 : g < w2.heap.size := by omega
        have hDw3 := HD.out.below hB3 (Nat.le_refl _)
        have HB2 := Lib.hid hB2; have HB3 := Lib.hid hB3; have HN := Lib.hid hnb; have HD3 := Lib.hid hDw3
        clear hB2 hb1 hB3 hnb hDw3
        go_wp2
        go_ret
        exact ⟨rfl, HNO.out _ HB3.out⟩
      · have hq := HQ.out
        rw [if_neg (by exact hlim)] at hq
        by_cases hquo : D.quota < (D.used : Int) + (b.size : Int)
        · rw [if_pos hquo] at hq
          rw [hq]
          clear hq
          go_enter Try.func9, Try.ntmps9
          go_wp2_with fail
          refine HA.out.mono ?_
          rintro e w1 ⟨rfl, rfl⟩
          go_wp2_with fail
          refine HFI.out.mono ?_
          rintro e w2 ⟨rfl, hb1⟩
          have hB2 := HB.out.trans (hb1.mono HB.out.size)
          have d1 := (hB2.cell (p := ⟨p, 1, none⟩) hpl).trans c1
          have d0 := (hB2.cell (p := ⟨p, 0, none⟩) hpl).trans c0
          obtain ⟨g, cap, x, A', c', hv, hx, hx2, hg, e1, e2, e3⟩ := HR.out.at_ (i := i) hlr hB2
          simp only [Value.slice.injEq] at hv
          obtain ⟨rfl, -, rfl⟩ := hv
          rw [HX.out x hx] at e1 e2 e3
          have hbx := (HR.out.2 x (List.mem_of_getElem? hx)).at_ hB2 (Nat.le_refl _)
          rw [hx2, HX.out x hx] at hbx
          have HBX := Lib.hid hbx
          clear hx hx2 hbx
          have hB3 := hB2.alloc hB2.size (.cells #[.string f.name, .slice A' f.b.size c', .int .i64 f.safe] 61)
          have hnb := Blk.new w2 61 #[.string f.name, .slice A' f.b.size c', .int .i64 f.safe]
          have hsz2 := hB2.size
          have hpl2 : p < w2.heap.size := by omega
          have hgl2 : g < w2.heap.size := by omega
          have hDw3 := HD.out.below hB3 (Nat.le_refl _)
          have HB2 := Lib.hid hB2; have HB3 := Lib.hid hB3; have HN := Lib.hid hnb; have HD3 := Lib.hid hDw3
          clear hB2 hb1 hB3 hnb hDw3
          have HUS := Lib.hid (used_any _ base p _ D (HD3.out.drew_) (by omega) hu)
          have hsz3 : (w2.alloc (.cells #[.string f.name, .slice A' f.b.size c', .int .i64 f.safe] 61)).heap.size = w2.heap.size + 1 := by simp
          have HSZ3 := Lib.hid hsz3
          have hpl3 : p < ((w2.alloc (.cells #[.string f.name, .slice A' f.b.size c', .int .i64 f.safe] 61)).drew).heap.size := by show p < (w2.alloc (.cells #[.string f.name, .slice A' f.b.size c', .int .i64 f.safe] 61)).heap.size; omega
          have hd1 : ((w2.alloc (.cells #[.string f.name, .slice A' f.b.size c', .int .i64 f.safe] 61)).drew).cell? ⟨p, 1, none⟩ = some (.int .i64 D.quota) := (World.cell?_alloc_lt w2 _ ⟨p, 1, none⟩ (by show p < _; omega)).trans d1
          have HPL3 := Lib.hid hpl3; have HD1 := Lib.hid hd1
          clear hpl3 hd1
          clear hsz3
          have hwr : IntKind.i64.wrap ((D.used : Int) + (b.size : Int)) = (D.used : Int) + (b.size : Int) := IntWalk.i64_in _ (by omega)
          go_wp2_with fail
          go_region_held3 (fun w' => w'.cell? ⟨p, 1, none⟩ = some (.int .i64 D.quota)) (go_keep) (first | (go_at_call 16; (with_reducible refine HUS.out.mono ?_); rintro e w4 ⟨rfl, hb4⟩; have k1 := (hb4.cell (p := ⟨p, 1, none⟩) HPL3.out).trans HD1.out; have HB4 := Lib.hid ((HB3.out.drew).trans (hb4.mono HB3.out.size)); have HBW4 := Lib.hid hb4; clear hb4))
          go_wp2
          go_ret
          exact ⟨rfl, HNO.out _ HB4.out⟩
        · rw [if_neg hquo] at hq
          rw [hq]
          clear hq
          go_enter Try.func9, Try.ntmps9
          go_wp2_with fail
          refine HA.out.mono ?_
          rintro e w1 ⟨rfl, rfl⟩
          go_wp2_with fail
          refine HFI.out.mono ?_
          rintro e w2 ⟨rfl, hb1⟩
          have hB2 := HB.out.trans (hb1.mono HB.out.size)
          have d1 := (hB2.cell (p := ⟨p, 1, none⟩) hpl).trans c1
          have d0 := (hB2.cell (p := ⟨p, 0, none⟩) hpl).trans c0
          obtain ⟨g, cap, x, A', c', hv, hx, hx2, hg, e1, e2, e3⟩ := HR.out.at_ (i := i) hlr hB2
          simp only [Value.slice.injEq] at hv
          obtain ⟨rfl, -, rfl⟩ := hv
          rw [HX.out x hx] at e1 e2 e3
          have hbx := (HR.out.2 x (List.mem_of_getElem? hx)).at_ hB2 (Nat.le_refl _)
          rw [hx2, HX.out x hx] at hbx
          have HBX := Lib.hid hbx
          clear hx hx2 hbx
          have hB3 := hB2.alloc hB2.size (.cells #[.string f.name, .slice A' f.b.size c', .int .i64 f.safe] 61)
          have hnb := Blk.new w2 61 #[.string f.name, .slice A' f.b.size c', .int .i64 f.safe]
          have hsz2 := hB2.size
          have hpl2 : p < w2.heap.size := by omega
          have hgl2 : g < w2.heap.size := by omega
          have hDw3 := HD.out.below hB3 (Nat.le_refl _)
          have HB2 := Lib.hid hB2; have HB3 := Lib.hid hB3; have HN := Lib.hid hnb; have HD3 := Lib.hid hDw3
          clear hB2 hb1 hB3 hnb hDw3
          have HUS := Lib.hid (used_any _ base p _ D (HD3.out.drew_) (by omega) hu)
          have hsz3 : (w2.alloc (.cells #[.string f.name, .slice A' f.b.size c', .int .i64 f.safe] 61)).heap.size = w2.heap.size + 1 := by simp
          have HSZ3 := Lib.hid hsz3
          have hpl3 : p < ((w2.alloc (.cells #[.string f.name, .slice A' f.b.size c', .int .i64 f.safe] 61)).drew).heap.size := by show p < (w2.alloc (.cells #[.string f.name, .slice A' f.b.size c', .int .i64 f.safe] 61)).heap.size; omega
          have hd1 : ((w2.alloc (.cells #[.string f.name, .slice A' f.b.size c', .int .i64 f.safe] 61)).drew).cell? ⟨p, 1, none⟩ = some (.int .i64 D.quota) := (World.cell?_alloc_lt w2 _ ⟨p, 1, none⟩ (by show p < _; omega)).trans d1
          have HPL3 := Lib.hid hpl3; have HD1 := Lib.hid hd1
          clear hpl3 hd1
          clear hsz3
          have hwr : IntKind.i64.wrap ((D.used : Int) + (b.size : Int)) = (D.used : Int) + (b.size : Int) := IntWalk.i64_in _ (by omega)
          go_wp2_with fail
          go_region_held3 (fun w' => w'.cell? ⟨p, 1, none⟩ = some (.int .i64 D.quota)) (go_keep) (first | (go_at_call 16; (with_reducible refine HUS.out.mono ?_); rintro e w4 ⟨rfl, hb4⟩; have k1 := (hb4.cell (p := ⟨p, 1, none⟩) HPL3.out).trans HD1.out; have HB4 := Lib.hid ((HB3.out.drew).trans (hb4.mono HB3.out.size)); have HBW4 := Lib.hid hb4; clear hb4))
          have hB24 : Below w2.heap.size w2 w4 := (((Below.refl w2.heap.size w2).alloc (Nat.le_refl _) _).drew).trans (HBW4.out.mono (by show _ ≤ (World.alloc _ _).heap.size; simp))
          have hsz24 := HBW4.out.size
          have hsz24 : w2.heap.size + 1 ≤ w4.heap.size := by rw [← HSZ3.out]; exact hsz24
          have hN4 : Blk w4 w2.heap.size 61 #[.string f.name, (.slice A' f.b.size c'), .int .i64 f.safe] := HN.out.drew.below HBW4.out (by show _ < (World.alloc _ _).heap.size; simp)
          have hX4 := HBX.out.below hB24
          have hV4 := HBV.out.below HB4.out
          have hbA5 := (Below.refl w4.heap.size w4).alloc (Nat.le_refl _) (.cells #[(.slice A' f.b.size c'), .slice AB b.size cb] 22)
          have hX5 := hX4.below hbA5
          have hV5 := hV4.below hbA5
          have hC := concat_any _ (some ⟨w4.heap.size, 0, none⟩) 2 [((.slice A' f.b.size c'), f.b), (.slice AB b.size cb, b)] (rd_vals w4 [(.slice A' f.b.size c'), .slice AB b.size cb] 22 w4.heap.size rfl) (by
            intro x hx
            simp only [List.mem_cons, List.not_mem_nil, or_false] at hx
            rcases hx with rfl | rfl
            · exact hX5.btr
            · exact hV5) (by simp) (by simp [sumB]; omega)
          have hjb : joinB [((.slice A' f.b.size c'), f.b), (.slice AB b.size cb, b)] = f.b ++ b := by simp [joinB]
          rw [hjb] at hC
          have n1 := hN4.cell 1
          simp only [List.getElem?_toArray, List.getElem?_cons_zero, List.getElem?_cons_succ] at n1
          have HN4 := Lib.hid hN4; have HB24 := Lib.hid hB24; have HC := Lib.hid hC; have HBA5 := Lib.hid hbA5
          clear hN4 hX4 hV4 hX5 hV5 hC hjb hB24 hbA5 k1 d1
          go_wp2_with fail
          refine HC.out.mono ?_
          rintro e w6 ⟨v6, rfl, hv6, -, hb6⟩
          have hN6 := (HN4.out.alloc (.cells #[(.slice A' f.b.size c'), .slice AB b.size cb] 22)).below hb6 (by simp; omega)
          have hB46 : Below w4.heap.size w4 w6 := HBA5.out.trans (hb6.mono HBA5.out.size)
          have hsz6 := hB46.size
          obtain ⟨A6, n6, c6, hv6e⟩ : ∃ A n c, v6 = Value.slice A n c := by
            obtain ⟨A, c, he, _⟩ := hv6
            exact ⟨A, _, c, he⟩
          subst hv6e
          have g1 := hN6.frozen 1
          have n1 := hN6.cell 1
          simp only [List.getElem?_toArray, List.getElem?_cons_zero, List.getElem?_cons_succ] at n1
          obtain ⟨w7, hw7⟩ : ∃ w7, w7 = w6.setCell ⟨w2.heap.size, 1, none⟩ (.slice A6 n6 c6) := ⟨_, rfl⟩
          have hN7 : Blk w7 w2.heap.size 61 #[.string f.name, .slice A6 n6 c6, .int .i64 f.safe] := by rw [hw7]; exact hN6.set_ 1 _
          have hm7 : Moved w6 w7 w2.heap.size none := by rw [hw7]; exact Moved.set_ w6 _ 1 none _
          have hB6 : Below w.heap.size w w6 := HB4.out.trans (hB46.mono HB4.out.size)
          have hB7 : Below w.heap.size w w7 := hB6.trans ⟨hm7.os, hm7.tape, hm7.output, hm7.size, fun k hk => hm7.block k (by omega) (by omega) (by simp)⟩
          have hX7 : Bt w7 (.slice A6 n6 c6) (f.b ++ b) := hv6.moved hm7 (fun cs fz hh => blk_type hN6 hh (by decide)) (fun n hn => by cases hn)
          have hD7 := HD.out.below hB7 (Nat.le_refl _)
          have hsz7 := hm7.size
          have d0 := hD7.blk.cell 0
          simp only [List.getElem?_toArray, List.getElem?_cons_zero] at d0
          have n0 := hN7.cell 0; have n1' := hN7.cell 1; have n2 := hN7.cell 2
          simp only [List.getElem?_toArray, List.getElem?_cons_zero, List.getElem?_cons_succ] at n0 n1' n2
          have hR7 := HR.out.keep (fun g' hg' => hB7.block g' (HOW.out g' hg').2.1) (fun blk cs fz hh => hB7.block blk (Array.getElem?_eq_some_iff.1 hh).1)
          have HW7 := Lib.hid hw7; have HB7 := Lib.hid hB7; clear hN6 hB46 hm7 hB6 hb6 hv6 hw7
          obtain ⟨g4, cap4, x4, A4, cc4, hv4, hx4, hx42, hg4, e1, e2, e3⟩ := hR7.at_ (i := i) hlr (Below.refl _ _)
          simp only [Value.slice.injEq, Option.some.injEq, Addr.mk.injEq, and_true, true_and] at hv4
          obtain ⟨rfl, rfl⟩ := hv4
          have hgo := HOW.out g rfl
          have hgp : g ≠ p := hgo.2.2
          have hgw : g ≠ w2.heap.size := by omega
          have hgp' := hgp.symm; have hgw' := hgw.symm
          have hput := hR7.put (y := (⟨f.name, f.b ++ b, f.safe⟩, .slice A6 n6 c6)) hx4 hX7
          have hfin := hD7.row_put rfl hput.2 hput.1
          have hDP : ({ D with files := (rows.set i ((⟨f.name, f.b ++ b, f.safe⟩ : FileD), Value.slice A6 n6 c6)).map (·.1) } : DiskD) = D.put name b := by
            unfold DiskD.put DiskD.was
            rw [HAT.out, HFF.out, List.map_set, HRR.out, putL, if_pos rfl]
          rw [hDP] at hfin
          have hP := power_any _ base p _ (D.put name b) hfin.1.drew_ hs hs0 hl1 hl2
          obtain ⟨cur, hgb⟩ : ∃ cur, Blk w7 g 61 cur := by
            rcases hR7.1.2 with ⟨hv, _⟩ | ⟨g', cap', cur, hv, _, hh, _⟩
            · cases hv
            · simp only [Value.slice.injEq, Option.some.injEq, Addr.mk.injEq, and_true, true_and] at hv
              obtain ⟨rfl, rfl⟩ := hv
              exact ⟨cur, hh⟩
          have f0 := hgb.frozen (i * 3); have f1 := hgb.frozen (i * 3 + 1); have f2 := hgb.frozen (i * 3 + 2)
          have HP := Lib.hid hP; have HFin := Lib.hid hfin
          clear hP hfin hput hDP hx4 hx42 hR7 hX7 hN7 hgo hD7 hgb
          go_wp2_with fail
          rw [← HW7.out]
          go_region_held3 (fun w' => w'.cell? ⟨p, 0, none⟩ = some (.slice (some ⟨g, 0, none⟩) rows.length cr) ∧ w'.cell? ⟨w2.heap.size, 0, none⟩ = some (.string f.name) ∧ w'.cell? ⟨w2.heap.size, 1, none⟩ = some (.slice A6 n6 c6) ∧ w'.cell? ⟨w2.heap.size, 2, none⟩ = some (.int .i64 f.safe)) (go_keep) (fail)
          go_wp2_with fail
          refine HP.out.mono ?_
          rintro e w9 ⟨rfl, hD9, hm9⟩
          have HD9 := Lib.hid hD9; have HM9 := Lib.hid hm9
          clear hD9 hm9
          go_wp2
          go_ret
          exact ⟨rfl, _, HD9.out, ((Moved.of_below HB7.out p _).trans HFin.out.2.drew_ (.inl rfl)).trans HM9.out (.inr (.inl rfl)), own_new (.inl rfl)⟩

end Go.Proofs.Ytmgnpcoihehelaa
