/- Walk of the reference's Number. -/
import Derived.Test.YtggegefeagkhkaaDoorWordsA
import Derived.Test.YtggegefeagkhkaaDoorWordsE
import Derived.Deep.RegionHeld3
namespace Go.Proofs.YtggegefeagkhkaaDoor
open Go.RowKit

theorem ret_pair' {k k' : IntKind} {p q : Int × Int} (h : p = q) : Ending.returned (.tuple #[.int k p.1, .int k' p.2]) = .returned (.tuple #[.int k q.1, .int k' q.2]) := by rw [h]

theorem kind_S {S : World → Prop} (hk : Hid (∀ W W', S W → Below W.heap.size W W' → S W')) (r : Int) (w : World) (h1 : -2147483648 ≤ r) (h2 : r ≤ 2147483647) (hS : S w) :
    Calls Tryd.prog 74 #[.int .i32 r] w fun e w' => e = .returned (.int .i64 (kindOf r)) ∧ S w' :=
  (kind_any r w h1 h2).mono fun _ _ ⟨he, hb⟩ => ⟨he, hk.out _ _ hS hb⟩
set_option maxRecDepth 100000 in
set_option maxHeartbeats 4000000 in
theorem numberR_any (s : ByteArray) (w : World) (hs : s.size ≤ 4294967296) :
    Calls Tryd.prog 59 #[.string s] w fun e w' => e = .returned (.tuple #[.int .i64 (numR ((chs s).map (·.1))).1, .int .i64 (numR ((chs s).map (·.1))).2]) ∧ Below w.heap.size w w' := by
  have hcl := chs_length s
  have hrb : ∀ c ∈ chs s, c.1 ≤ 1114111 := chs_rune s
  have HC := Lib.hid (chars_any s w hs)
  generalize chs s = L at *
  cases L with
  | nil =>
    go_enter Tryd.func59, Tryd.ntmps59
    go_wp2_with fail
    refine HC.out.mono ?_
    rintro e w' ⟨v, rfl, hown, hB⟩
    obtain ⟨A, c, rfl⟩ : ∃ A c, v = .slice A 0 c := by
      rcases hown.2 with ⟨h, _⟩ | ⟨g, cap, _, h, _⟩
      · exact ⟨none, 0, h⟩
      · exact ⟨_, cap, h⟩
    go_wp2
    go_ret2
    exact ⟨ret_pair' (p := (0, 30)) rfl, hB⟩
  | cons c0 L =>
    obtain ⟨r0, n0⟩ := c0
    have hr0 := hrb (r0, n0) (by simp)
    by_cases hbad : kindOf r0 < 0 ∨ (0 < L.length ∧ digitOf r0 = 0)
    · have hP : (0, 30) = numR (((r0, n0) :: L).map (·.1)) := by simp only [List.map_cons, numR, List.length_map]; rw [if_pos hbad]
      have HP := Lib.hid hP
      clear hP
      go_enter Tryd.func59, Tryd.ntmps59
      go_wp2_with fail
      refine HC.out.mono ?_
      rintro e w' ⟨v, rfl, hown, hB⟩
      obtain ⟨g, cap, rfl, hg1, hg2⟩ := hown.form (by simp)
      have d0 : w'.cell? ⟨g, 0, none⟩ = some (.int .i32 r0) := hown.cellAt 0 (by simp)
      have HO := Lib.hid hown
      clear hown
      by_cases hk : kindOf r0 < 0
      · clear hbad
        go_wp2_with (go_at_call 74; refine (kind_any _ _ (by omega) (by omega)).mono ?_; rintro e w' ⟨rfl, hb⟩; have hB := hB.trans (hb.mono hB.size); clear hb)
        go_ret2
        exact ⟨ret_pair' HP.out, hB⟩
      · have hk0 : 0 ≤ kindOf r0 := by omega
        have hL : 0 < L.length := by omega
        have hd : digitOf r0 = 0 := by omega
        clear hbad hk
        go_wp2_with (first
          | (go_at_call 74; refine (kind_any _ _ (by omega) (by omega)).mono ?_; rintro e w'' ⟨rfl, hb⟩; have d0 := (hb.cell (p := ⟨g, 0, none⟩) hg2).trans d0; have hB := hB.trans (hb.mono hB.size); clear hb)
          | (go_at_call 75; refine (digitR _ _ (by omega) (by omega)).mono ?_; rintro e w'' ⟨rfl, hb⟩; have hB := hB.trans (hb.mono hB.size); clear hb))
        go_ret2
        exact ⟨ret_pair' HP.out, hB⟩
    · have hk0 : 0 ≤ kindOf r0 := by omega
      have hP : numRGo (kindOf r0) ((((r0, n0) :: L).drop 0).map (·.1)) 0 false = numR (((r0, n0) :: L).map (·.1)) := by
        simp only [List.map_cons, numR, List.length_map, List.drop_zero]; rw [if_neg hbad]
      have HP := Lib.hid hP
      clear hP
      have hcl' : L.length + 1 ≤ s.size := by simpa using hcl
      have hdL : L.length = 0 ∨ (0 < L.length ∧ (digitOf r0 == 0) = false) := by
        rcases Nat.eq_zero_or_pos L.length with h | h
        · exact .inl h
        · exact .inr ⟨h, by simp; omega⟩
      obtain ⟨C, hCe⟩ : ∃ C, (r0, n0) :: L = C := ⟨_, rfl⟩
      have hCl : C.length = L.length + 1 := by rw [← hCe]; rfl
      have hC0 : C[0]? = some (r0, n0) := by rw [← hCe]; rfl
      rw [hCe] at HC HP hrb ⊢
      have hCpos : 0 < C.length := by omega
      have hCs : C.length ≤ 4294967296 := by omega
      have hdC : C.length ≤ 1 ∨ (1 < C.length ∧ (digitOf r0 == 0) = false) := by
        rcases hdL with h | ⟨h, h'⟩
        · exact .inl (by omega)
        · exact .inr ⟨by omega, h'⟩
      have HdL := Lib.hid hdC
      clear hdC hdL hCe hbad hcl hcl' hCl
      go_enter Tryd.func59, Tryd.ntmps59
      go_wp2_with fail
      refine HC.out.mono ?_
      rintro e w' ⟨v, rfl, hown, hB⟩
      obtain ⟨g, cap, rfl, hg1, hg2⟩ := hown.form (by omega)
      have d0 : w'.cell? ⟨g, 0, none⟩ = some (.int .i32 r0) := (hown.cellAt 0 (by omega)).trans (cellsB_at C 0 r0 n0 hC0)
      have hcells : ∀ (k r n : Nat), C[k]? = some (r, n) → w'.cell? ⟨g, k * 3, none⟩ = some (.int .i32 r) := fun k r n h => (hown.cellAt (k * 3) (by have := (List.getElem?_eq_some_iff.1 h).1; omega)).trans (cellsB_at C k r n h)
      have HCells := Lib.hid hcells
      have hB0 : Below w'.heap.size w' w' := Below.refl _ _
      have HBw := Lib.hid hB
      have hC0' := hC0
      clear hown hcells hB hC0
      have hne : ((C.length : Int) == 0) = false := by rw [beq_eq_false_iff_ne]; omega
      rcases HdL.out with hL0 | ⟨hL1, hd⟩
      all_goals
        go_wp2_with (first
          | (go_at_call 74; refine (kind_any _ _ (by omega) (by omega)).mono ?_; rintro e w'' ⟨rfl, hb⟩; have d0 := (hb.cell (p := ⟨g, 0, none⟩) hg2).trans d0; have hB0 := hB0.trans (hb.mono hB0.size); clear hb)
          | (go_at_call 75; refine (digitR _ _ (by omega) (by omega)).mono ?_; rintro e w'' ⟨rfl, hb⟩; have hB0 := hB0.trans (hb.mono hB0.size); clear hb))
        have HB0 := Lib.hid hB0
        clear hB0 d0
        go_loopg [5, 6, 7] C.length (fun gf ov n i wr => ∃ (k : Nat) (N : Int) (o : Bool), i = .int .i64 k ∧ n = .int .i64 N ∧ ov = .bool o ∧ k + gf = C.length ∧ 0 ≤ N ∧ (o = false → k < C.length → N ≤ 576460752303423488) ∧
          numRGo (kindOf r0) ((C.drop k).map (·.1)) N o = numR (C.map (·.1)) ∧ Below w'.heap.size w' wr)
        case atStart => exact ⟨0, 0, false, rfl, rfl, rfl, by omega, by omega, fun _ _ => by omega, HP.out, HB0.out⟩
        case round =>
          obtain ⟨k, N, o, rfl, rfl, rfl, hkg, hN, hNo, hgo, hbr⟩ := hrel
          cases gk with
          | zero =>
            obtain rfl : k = C.length := by omega
            rw [List.drop_length, List.map_nil, numRGo] at hgo
            have HBW := Lib.hid (HBw.out.trans (hbr.mono HBw.out.size))
            clear hbr
            cases o
            · have HG : Hid ((N, (0 : Int)) = numR (C.map (·.1))) := Lib.hid (by simpa using hgo)
              clear hgo
              go_wp2
              go_ret2
              exact ⟨ret_pair' (p := (N, 0)) HG.out, HBW.out⟩
            · have HG : Hid (((0 : Int), (50 : Int)) = numR (C.map (·.1))) := Lib.hid (by simpa using hgo)
              clear hgo
              go_wp2
              go_ret2
              exact ⟨ret_pair' (p := (0, 50)) HG.out, HBW.out⟩
          | succ gf =>
            obtain ⟨⟨r, n⟩, hx⟩ : ∃ x, C[k]? = some x := ⟨_, List.getElem?_eq_getElem (by omega)⟩
            have hdr : C.drop k = (r, n) :: C.drop (k + 1) := by
              obtain ⟨h1, h2⟩ := List.getElem?_eq_some_iff.1 hx
              rw [List.drop_eq_getElem_cons h1, h2]
            rw [hdr, List.map_cons, numRGo] at hgo
            have hrr := hrb (r, n) (List.mem_of_getElem? hx)
            have hdb := digitOf_ge r
            have hkC : k < C.length := by omega
            have hkCI : (k : Int) < (C.length : Int) := by omega
            have e0 : wr.cell? ⟨g, 0, none⟩ = some (.int .i32 r0) := (hbr.cell (p := ⟨g, 0, none⟩) hg2).trans ((HCells.out 0 r0 n0 hC0'))
            have ek : wr.cell? ⟨g, k * 3, none⟩ = some (.int .i32 r) := (hbr.cell (p := ⟨g, k * 3, none⟩) hg2).trans (HCells.out k r n hx)
            have hsz := hbr.size
            have hkeep : ∀ W W' : World, (W.cell? ⟨g, 0, none⟩ = some (.int .i32 r0) ∧ W.cell? ⟨g, k * 3, none⟩ = some (.int .i32 r) ∧ Below w'.heap.size w' W) → Below W.heap.size W W' →
                (W'.cell? ⟨g, 0, none⟩ = some (.int .i32 r0) ∧ W'.cell? ⟨g, k * 3, none⟩ = some (.int .i32 r) ∧ Below w'.heap.size w' W') := fun W W' ⟨a, b, c⟩ hb =>
              ⟨(hb.cell (p := ⟨g, 0, none⟩) (Nat.lt_of_lt_of_le hg2 c.size)).trans a, (hb.cell (p := ⟨g, k * 3, none⟩) (Nat.lt_of_lt_of_le hg2 c.size)).trans b, c.trans (hb.mono c.size)⟩
            have HK := Lib.hid hkeep
            have hbd := hbr.drew
            clear hkeep
            by_cases hkk : kindOf r = kindOf r0
            · rw [if_neg (by simp [hkk])] at hgo
              have hkb : (kindOf r != kindOf r0) = false := by rw [hkk]; simp
              have hlen : ((C.drop (k + 1)).map (·.1)).length = C.length - (k + 1) := by simp
              cases o
              · simp only [Bool.false_eq_true, if_false, hlen] at hgo
                have hN2 : N ≤ 576460752303423488 := hNo rfl hkC
                have hd1 : 0 ≤ digitOf r := (digitOf_k r (by omega)).2.1
                by_cases h1 : 576460752303423488 < N * 10 + digitOf r
                · by_cases h2 : k + 1 < C.length
                  · have HG : Hid (numRGo (kindOf r0) ((C.drop (k + 1)).map (·.1)) (N * 10 + digitOf r) true = numR (C.map (·.1))) := Lib.hid (by rw [← hgo]; congr 1; simp [h1]; omega)
                    have h2b : decide ((k : Int) + 1 < (C.length : Int)) = true := by simp; omega
                    have h1b : decide (576460752303423488 < N * 10 + digitOf r) = true := by simp [h1]
                    clear hgo hkk hdr hx hNo hlen h2 h1
                    go_wp2_with fail
                    go_region_held3 (fun wx => wx.cell? ⟨g, 0, none⟩ = some (.int .i32 r0) ∧ wx.cell? ⟨g, k * 3, none⟩ = some (.int .i32 r) ∧ Below w'.heap.size w' wx) (first | exact ⟨e0, ek, hbd⟩ | assumption) (first | (go_at_call 74; refine (kind_S HK _ _ (by omega) (by omega) (by assumption)).mono ?_; rintro e w'' ⟨rfl, hS⟩))
                    obtain ⟨q0, qk, qb⟩ := hS
                    go_wp2_with (go_at_call 75; refine (digitR _ _ (by omega) (by omega)).mono ?_; rintro e w'' ⟨rfl, hb⟩; have qb := qb.trans (hb.mono qb.size); clear hb)
                    go_roundg gf
                    case measure => omega
                    case rel => exact ⟨k + 1, (N * 10 + digitOf r), true, by go_num, rfl, rfl, by omega, by omega, (fun h => by cases h), HG.out, qb⟩
                  · have h2b : decide ((k : Int) + 1 < (C.length : Int)) = false := by simp; omega
                    by_cases h3 : 4611686018427387904 < N * 10 + digitOf r
                    · have HG : Hid (numRGo (kindOf r0) ((C.drop (k + 1)).map (·.1)) (N * 10 + digitOf r) true = numR (C.map (·.1))) := Lib.hid (by rw [← hgo]; congr 1; simp [h3])
                      have h3b : decide (4611686018427387904 < N * 10 + digitOf r) = true := by simp [h3]
                      have H2 := Lib.hid h2
                      clear hgo hkk hdr hx hNo hlen h2
                      go_wp2_with fail
                      go_region_held3 (fun wx => wx.cell? ⟨g, 0, none⟩ = some (.int .i32 r0) ∧ wx.cell? ⟨g, k * 3, none⟩ = some (.int .i32 r) ∧ Below w'.heap.size w' wx) (first | exact ⟨e0, ek, hbd⟩ | assumption) (first | (go_at_call 74; refine (kind_S HK _ _ (by omega) (by omega) (by assumption)).mono ?_; rintro e w'' ⟨rfl, hS⟩))
                      obtain ⟨q0, qk, qb⟩ := hS
                      go_wp2_with (go_at_call 75; refine (digitR _ _ (by omega) (by omega)).mono ?_; rintro e w'' ⟨rfl, hb⟩; have qb := qb.trans (hb.mono qb.size); clear hb)
                      go_roundg gf
                      case measure => omega
                      case rel => exact ⟨k + 1, (N * 10 + digitOf r), true, by go_num, rfl, rfl, by omega, by omega, (fun h => by cases h), HG.out, qb⟩
                    · have HG : Hid (numRGo (kindOf r0) ((C.drop (k + 1)).map (·.1)) (N * 10 + digitOf r) false = numR (C.map (·.1))) := Lib.hid (by rw [← hgo]; congr 1; simp [h3]; omega)
                      have h3b : decide (4611686018427387904 < N * 10 + digitOf r) = false := by simp [h3]
                      have H2 := Lib.hid h2
                      clear hgo hkk hdr hx hNo hlen h2
                      go_wp2_with fail
                      go_region_held3 (fun wx => wx.cell? ⟨g, 0, none⟩ = some (.int .i32 r0) ∧ wx.cell? ⟨g, k * 3, none⟩ = some (.int .i32 r) ∧ Below w'.heap.size w' wx) (first | exact ⟨e0, ek, hbd⟩ | assumption) (first | (go_at_call 74; refine (kind_S HK _ _ (by omega) (by omega) (by assumption)).mono ?_; rintro e w'' ⟨rfl, hS⟩))
                      obtain ⟨q0, qk, qb⟩ := hS
                      go_wp2_with (go_at_call 75; refine (digitR _ _ (by omega) (by omega)).mono ?_; rintro e w'' ⟨rfl, hb⟩; have qb := qb.trans (hb.mono qb.size); clear hb)
                      go_roundg gf
                      case measure => omega
                      case rel => exact ⟨k + 1, (N * 10 + digitOf r), false, by go_num, rfl, rfl, by omega, by omega, fun _ h => absurd h H2.out, HG.out, qb⟩
                · have h3 : N * 10 + digitOf r ≤ 4611686018427387904 := by omega
                  have h1b : decide (576460752303423488 < N * 10 + digitOf r) = false := by simp [h1]
                  have h3b : decide (4611686018427387904 < N * 10 + digitOf r) = false := by simp [h3]
                  have HG : Hid (numRGo (kindOf r0) ((C.drop (k + 1)).map (·.1)) (N * 10 + digitOf r) false = numR (C.map (·.1))) := Lib.hid (by rw [← hgo]; congr 1; simp [h1, h3])
                  clear hgo hkk hdr hx hNo hlen
                  go_wp2_with fail
                  go_region_held3 (fun wx => wx.cell? ⟨g, 0, none⟩ = some (.int .i32 r0) ∧ wx.cell? ⟨g, k * 3, none⟩ = some (.int .i32 r) ∧ Below w'.heap.size w' wx) (first | exact ⟨e0, ek, hbd⟩ | assumption) (first | (go_at_call 74; refine (kind_S HK _ _ (by omega) (by omega) (by assumption)).mono ?_; rintro e w'' ⟨rfl, hS⟩))
                  obtain ⟨q0, qk, qb⟩ := hS
                  go_wp2_with (go_at_call 75; refine (digitR _ _ (by omega) (by omega)).mono ?_; rintro e w'' ⟨rfl, hb⟩; have qb := qb.trans (hb.mono qb.size); clear hb)
                  go_roundg gf
                  case measure => omega
                  case rel => exact ⟨k + 1, (N * 10 + digitOf r), false, by go_num, rfl, rfl, by omega, by omega, fun _ _ => by omega, HG.out, qb⟩
              · have HG : Hid (numRGo (kindOf r0) ((C.drop (k + 1)).map (·.1)) N true = numR (C.map (·.1))) := Lib.hid (by simpa using hgo)
                clear hgo hkk hdr hx hNo hlen
                go_wp2_with fail
                go_region_held3 (fun wx => wx.cell? ⟨g, 0, none⟩ = some (.int .i32 r0) ∧ wx.cell? ⟨g, k * 3, none⟩ = some (.int .i32 r) ∧ Below w'.heap.size w' wx) (first | exact ⟨e0, ek, hbd⟩ | assumption) (first | (go_at_call 74; refine (kind_S HK _ _ (by omega) (by omega) (by assumption)).mono ?_; rintro e w'' ⟨rfl, hS⟩))
                obtain ⟨q0, qk, qb⟩ := hS
                go_wp2
                go_roundg gf
                case measure => omega
                case rel => exact ⟨k + 1, N, true, by go_num, rfl, rfl, by omega, by omega, (fun h => by cases h), HG.out, qb⟩
            · rw [if_pos hkk] at hgo
              have HG := Lib.hid hgo
              have hkb : (kindOf r != kindOf r0) = true := by rw [bne_iff_ne]; exact hkk
              clear hgo hkk hdr hx hNo
              go_wp2_with fail
              go_region_held3 (fun wx => wx.cell? ⟨g, 0, none⟩ = some (.int .i32 r0) ∧ wx.cell? ⟨g, k * 3, none⟩ = some (.int .i32 r) ∧ Below w'.heap.size w' wx) (first | exact ⟨e0, ek, hbd⟩ | assumption) (first | (go_at_call 74; refine (kind_S HK _ _ (by omega) (by omega) (by assumption)).mono ?_; rintro e w'' ⟨rfl, hS⟩))
              obtain ⟨q0, qk, qb⟩ := hS
              go_wp2
              go_ret2
              exact ⟨ret_pair' (p := (0, 30)) HG.out, HBw.out.trans (qb.mono HBw.out.size)⟩
end Go.Proofs.YtggegefeagkhkaaDoor
