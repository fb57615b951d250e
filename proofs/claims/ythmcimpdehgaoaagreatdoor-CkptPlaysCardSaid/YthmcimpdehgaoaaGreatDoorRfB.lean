/- The reference's check of bytes: a row of bits, divided: P, Rest. -/
import Derived.Test.YthmcimpdehgaoaaGreatDoorPk17
import Derived.Test.YthmcimpdehgaoaaGreatDoorPk15
namespace Go.Proofs.YthmcimpdehgaoaaGreatDoor
open Go.RowKit

def boolC (b : Bool) : List Value := [.bool b]
theorem boolC_len (b : Bool) : (boolC b).length = 1 := rfl
theorem rcs_bool (l : List Bool) : rcs boolC l = l.map Value.bool := by
  induction l with
  | nil => rfl
  | cons b l ih => show boolC b ++ rcs boolC l = _; rw [ih]; rfl
theorem infoBo : (Tryz.prog.info? 4).map (fun i => (i.zero, i.size, i.bytes)) = some (some (.bool false), 1, 1) := by kernel_rfl
/-- the powers, as they lie -/
def powV : Array Value := (pows.map fun (p : Nat) => Value.int .i64 (p : Int)).toArray
theorem p_any (w : World) : Calls Tryz.prog 138 #[] w fun e w' => e = .returned (.slice (some ⟨w.heap.size, 0, none⟩) 18 18) ∧ w' = w.alloc (.cells powV 3) := by
  go_enter Tryz.func138, Tryz.ntmps138
  go_wp2
  go_ret
  exact ⟨rfl, rfl⟩
/-- a row of bits of the call's own -/
def OwnB (w : World) (base g n cap : Nat) (row : List Bool) : Prop := w.ownsRow base 4 1 (.slice (some ⟨g, 0, none⟩) n cap) n (row.map Value.bool)
theorem OwnB.set_ {w : World} {base g n cap : Nat} {row : List Bool} (h : OwnB w base g n cap row) (j : Nat) (u : Bool) : OwnB (w.setCell ⟨g, j, none⟩ (.bool u)) base g n cap (row.set j u) := by
  unfold OwnB at h ⊢
  rw [List.map_set]
  exact (h.stored j (.bool u)).1
theorem OwnB.flip_ {w : World} {base g n cap : Nat} {row : List Bool} (h : OwnB w base g n cap row) (j : Nat) : OwnB (w.setCell ⟨g, j, none⟩ (.bool (!row.getD j false))) base g n cap (flip row j) := h.set_ j _
theorem OwnB.len {w : World} {base g n cap : Nat} {row : List Bool} (h : OwnB w base g n cap row) : row.length = n := by
  have := h.1
  simpa using this
theorem OwnB.cell {w : World} {base g n cap : Nat} {row : List Bool} (h : OwnB w base g n cap row) {j : Nat} (hj : j < n) : w.cell? ⟨g, j, none⟩ = some (.bool (row.getD j false)) := by
  have hl := h.len
  rw [h.cellAt j (by omega), List.getElem?_map, List.getD_eq_getElem?_getD, List.getElem?_eq_getElem (by omega)]
  rfl
theorem OwnB.base_le {w : World} {base g n cap : Nat} {row : List Bool} (h : OwnB w base g n cap row) : base ≤ g ∧ g < w.heap.size := h.lt g rfl
theorem flips_take (i k p : Nat) (row : List Bool) (h : pows[k]? = some p) : flips i row (pows.take (k + 1)) = flip (flips i row (pows.take k)) (i + 32 - p) := by
  unfold flips
  rw [List.take_add_one, h, List.foldl_append]
  rfl
theorem powV_at {k p : Nat} (h : pows[k]? = some p) : powV[k]? = some (.int .i64 (p : Int)) := by
  unfold powV
  rw [List.getElem?_toArray, List.getElem?_map, h]
  rfl
theorem lows_succ (row : List Bool) (k : Nat) : lows row (k + 1) = if row.getD (row.length - 32 + k) false then lows row k + 2 ^ k else lows row k := by
  unfold lows; rw [List.range_succ, List.foldl_append]; rfl
theorem lows_lt (row : List Bool) (k : Nat) : lows row k < 2 ^ k := by
  induction k with
  | zero => simp [lows]
  | succ k ih => rw [lows_succ, Nat.pow_succ]; split <;> omega
set_option maxRecDepth 100000 in
set_option maxHeartbeats 8000000 in
theorem rest_any (w : World) (A : Option Addr) (c : Nat) (row : List Bool) (hR : Rs boolC 1 w A row) (h32 : 32 ≤ row.length) (hl : row.length ≤ 100000) :
    Calls Tryz.prog 114 #[.slice A row.length c] w fun e w' => e = .returned (.int .u32 (restN row)) ∧ Below w.heap.size w w' := by
  obtain ⟨i0, hi0, hz0, hz1, hz2⟩ := parts infoBo
  have hown0 := Lib.hid (World.ownsRow_nil w w.heap.size 4 1)
  have HR : Hid (Sl w 1 A row.length (rcs boolC row)) := Lib.hid hR
  have hone : ∀ u ∈ rcs boolC row, u.oneCell' = true := by
    rw [rcs_bool]
    intro u hu
    obtain ⟨b, _, rfl⟩ := List.mem_map.1 hu
    rfl
  have HONE := Lib.hid hone; have HI0 := Lib.hid hi0; have HZ0 := Lib.hid hz0
  clear hR hone hi0 hz0
  go_enter Tryz.func114, Tryz.ntmps114
  go_wp2_with (at_builtin; refine wpList_cat _ rfl (.tmp 10) (.tmp 11) 32 rfl w.heap.size 4 i0 (.bool false) 1 1 Tryz.underlying32 HI0.out HZ0.out hz1 hz2 rfl (by decide) (by decide) _ 0 _ rfl hown0 _ row.length _ (rcs boolC row) rfl HR HONE.out (by omega) (by omega) ?_; intro v1 w1 h2 h3 h4; have HO1 := Lib.hid h2.out; have HB1 := Lib.hid h4.out; clear h2 h3 h4)
  have ho := HO1.out
  rw [Nat.zero_add, List.nil_append, rcs_bool] at ho
  obtain ⟨g, cap, rfl, hbg, hgl⟩ := World.ownsRow.form ho (by omega)
  have ho1 : OwnB w1 w.heap.size g row.length cap (divs row 0) := ho
  have HO := Lib.hid ho1
  clear ho HO1 ho1 hbg hgl hown0
  go_loopg [3] 0 (fun gf a wr => a = .slice (some ⟨g, 0, none⟩) row.length cap ∧ wr = w1)
  case atStart => exact ⟨rfl, rfl⟩
  case round =>
  obtain ⟨rfl, rfl⟩ := hrel
  have h32I : (32 : Int) ≤ (row.length : Int) := by omega
  go_wp2_with (go_at_call 138; refine (p_any _).mono ?_; rintro e w' ⟨rfl, rfl⟩)
  obtain ⟨w2, hw2⟩ : ∃ w2, wr.alloc (.cells powV 3) = w2 := ⟨_, rfl⟩
  have hP : Blk w2 wr.heap.size 3 powV := by rw [← hw2]; exact Blk.new wr _ _
  have hO2 : OwnB w2 w.heap.size g row.length cap (divs row 0) := by rw [← hw2]; exact World.ownsRow.alloc HO.out _
  have hB2 : Below w.heap.size w w2 := by rw [← hw2]; exact HB1.out.alloc HB1.out.size _
  obtain ⟨gp, hgp⟩ : ∃ gp, wr.heap.size = gp := ⟨_, rfl⟩
  have hgb := HO.out.base_le
  rw [hgp] at hP hgb
  rw [hw2, hgp]
  have hgne : g ≠ gp := by omega
  have hbase := hgb.1
  have HP := Lib.hid hP; have HO2 := Lib.hid hO2; have HB2 := Lib.hid hB2
  clear hw2 hP hO2 hB2 hgp HO HB1 hgb
  go_wp2
  go_loopg [5] (row.length - 32) (fun gf a wr => ∃ i : Nat, a = .int .i64 i ∧ i + gf = row.length - 32 ∧ OwnB wr w.heap.size g row.length cap (divs row i) ∧ Blk wr gp 3 powV ∧ Below w.heap.size w wr)
  case atStart => exact ⟨0, rfl, by omega, HO2.out, HP.out, HB2.out⟩
  case round =>
  clear HO2 HP HB2
  obtain ⟨i, rfl, hi, hO, hP, hB⟩ := hrel
  cases gk with
  | zero =>
    obtain rfl : i = row.length - 32 := by omega
    obtain ⟨R, hRR⟩ : ∃ R, divs row (row.length - 32) = R := ⟨_, rfl⟩
    have hlen := hO.len
    have hfin : restN row = lows R 32 := by unfold restN; rw [hRR]
    rw [hRR] at hO hlen
    have hiI : ((row.length - 32 : Nat) : Int) = (row.length : Int) - 32 := by omega
    rw [hiI]
    have HFIN := Lib.hid hfin
    have HO := Lib.hid hO; have HB := Lib.hid hB; have HLEN := Lib.hid hlen
    clear hO hB hlen hfin hRR hiI hP
    go_wp2
    go_loopg [8, 9] 32 (fun gf a b wr' => ∃ k : Nat, a = .int .u32 (lows R k) ∧ b = .int .i64 k ∧ k + gf = 32 ∧ wr' = wr)
    case atStart => exact ⟨0, rfl, rfl, rfl, rfl⟩
    case round =>
    rename_i wo wr'
    obtain ⟨k, rfl, rfl, hk, rfl⟩ := hrel
    cases gk with
    | zero =>
      obtain rfl : k = 32 := by omega
      go_wp2
      go_ret
      exact ⟨by rw [HFIN.out]; rfl, HB.out⟩
    | succ gf =>
      have hkI : (k : Int) < 32 := by omega
      have hc := HO.out.cell (j := row.length - 32 + k) (by omega)
      have hls := lows_succ R k
      have hll := lows_lt R k
      have hpk : 2 ^ k ≤ 2 ^ 31 := Nat.pow_le_pow_right (by decide) (by omega)
      rw [HLEN.out] at hls
      have hI : ((row.length - 32 + k : Nat) : Int) = (row.length : Int) - 32 + (k : Int) := by omega
      have HI := Lib.hid hI
      cases hb : R.getD (row.length - 32 + k) false with
      | true =>
        rw [hb] at hc hls
        have hsum : ((lows R k : Int) + 2 ^ k % 4294967296) % 4294967296 = (lows R (k + 1) : Int) := by
          have h2k : (2 : Int) ^ k = ((2 ^ k : Nat) : Int) := by simp
          rw [hls, h2k, if_pos rfl]
          omega
        have HSUM := Lib.hid hsum
        clear hI hls hsum
        go_wp2
        go_roundg gf
        case measure => omega
        case rel => exact ⟨k + 1, by rw [HSUM.out], by go_num, by omega, rfl⟩
      | false =>
        rw [hb, if_neg (by simp)] at hls
        rw [hb] at hc
        have HLS := Lib.hid hls
        clear hI hls
        go_wp2
        go_roundg gf
        case measure => omega
        case rel => exact ⟨k + 1, by rw [HLS.out], by go_num, by omega, rfl⟩
  | succ gf =>
    have hiN : i + 32 < row.length := by omega
    have hiI : (i : Int) + 32 < (row.length : Int) := by omega
    have hc := hO.cell (j := i) (by omega)
    have hds := divs_succ row i
    obtain ⟨R, hRR⟩ : ∃ R, divs row i = R := ⟨_, rfl⟩
    rw [hRR] at hc hds hO
    have hlen := hO.len
    unfold divStep at hds
    cases hb : R.getD i false with
    | false =>
      rw [hb, if_neg (by simp)] at hds
      rw [hb] at hc
      have HO := Lib.hid hO; have HP := Lib.hid hP; have HB := Lib.hid hB; have HDS := Lib.hid hds
      clear hO hP hB hds hRR hlen
      go_wp2
      go_roundg gf
      case measure => omega
      case rel => exact ⟨i + 1, by go_num, by omega, by rw [HDS.out]; exact HO.out, HP.out, HB.out⟩
    | true =>
      rw [hb, if_pos rfl] at hds
      rw [hb] at hc
      have hF : OwnB wr w.heap.size g row.length cap (flips i R (pows.take 0)) := hO
      have HF := Lib.hid hF; have HP := Lib.hid hP; have HB := Lib.hid hB; have HDS := Lib.hid hds; have HLEN := Lib.hid hlen
      clear hO hP hB hds hRR hlen hF
      go_wp2
      go_loopg [6, 7] 18 (fun gf' a b wr' => ∃ k : Nat, a = .int .i64 k ∧ k + gf' = 18 ∧ OwnB wr' w.heap.size g row.length cap (flips i R (pows.take k)) ∧ Blk wr' gp 3 powV ∧ Below w.heap.size w wr')
      case atStart => exact ⟨0, rfl, rfl, HF.out, HP.out, HB.out⟩
      case round =>
      clear HF HP HB
      rename_i wo wr'
      obtain ⟨k, rfl, hk, hO, hP, hB⟩ := hrel
      cases gk with
      | zero =>
        obtain rfl : k = 18 := by omega
        have hall : flips i R (pows.take 18) = divs row (i + 1) := HDS.out.symm
        rw [hall] at hO
        have HO := Lib.hid hO; have HP := Lib.hid hP; have HB := Lib.hid hB
        clear hO hP hB hall
        go_wp2
        go_roundg gf
        case measure => omega
        case rel => exact ⟨i + 1, by go_num, by omega, HO.out, HP.out, HB.out⟩
      | succ gf' =>
        have hkN : k < pows.length := by show k < 18; omega
        have hp := List.getElem?_eq_getElem hkN
        obtain ⟨p, hpe⟩ : ∃ p, pows[k] = p := ⟨_, rfl⟩
        rw [hpe] at hp
        have hple : p ≤ 32 := pows_le p (by rw [← hpe]; exact List.getElem_mem _)
        have cp := hP.cell k
        rw [powV_at hp] at cp
        have hft := flips_take i k p R hp
        have hfc := hO.cell (j := i + 32 - p) (by omega)
        have hO2 := hO.flip_ (i + 32 - p)
        rw [← hft] at hO2
        have hff := World.ownsRow.frozenAt hO (i + 32 - p)
        have hgp : g ≠ gp := hgne
        obtain ⟨q, hq⟩ : ∃ q, i + 32 - p = q := ⟨_, rfl⟩
        obtain ⟨u, hu⟩ : ∃ u, (flips i R (pows.take k)).getD q false = u := ⟨_, rfl⟩
        rw [hq] at hfc hO2 hff
        rw [hu] at hfc hO2
        have hqI : (i : Int) + 32 - (p : Int) = (q : Int) := by omega
        have hqn : (q : Int) < (row.length : Int) := by omega
        have hpI : (p : Int) ≤ 32 := by omega
        have hkI : (k : Int) < 18 := by omega
        have hP2 := hP.far (p := ⟨g, q, none⟩) (by show gp ≠ g; omega) (.bool (!u))
        have hB2 := hB.setCell (p := ⟨g, q, none⟩) hbase (.bool (!u))
        have HO2 := Lib.hid hO2; have HP2 := Lib.hid hP2; have HB2 := Lib.hid hB2
        clear hO hO2 hP hP2 hB hB2 hft hq hu hp hpe
        go_wp2
        go_roundg gf'
        case measure => omega
        case rel => exact ⟨k + 1, by go_num, by omega, HO2.out, HP2.out, HB2.out⟩
end Go.Proofs.YthmcimpdehgaoaaGreatDoor
