/- The reference's disk: without, with. The reference's disk: its state; New, Fail, Crash, refused, power, answer. -/
import Derived.Test.YthmcimpdehgaoaaGreatDoorPk21
import Derived.Deep.RegionWith
namespace Go.Proofs.YthmcimpdehgaoaaGreatDoor
open Go.RowKit Go.Maps

theorem infoRk : (Tryz.prog.info? 100).map (fun i => (i.zero, i.size, i.bytes)) = some (some (.agg #[.string ⟨#[]⟩, .slice none 0 0]), 2, 40) := by kernel_rfl
def woR (rows : List RF) (t : ByteArray) : List RF := rows.filter fun x => decide (x.1 ≠ t)
def woP (l : List (ByteArray × ByteArray)) (t : ByteArray) : List (ByteArray × ByteArray) := l.filter fun x => decide (x.1 ≠ t)
theorem woR_map (rows : List RF) (t : ByteArray) : (woR rows t).map rpr = woP (rows.map rpr) t := by
  unfold woR woP
  rw [List.filter_map]
  rfl
theorem woR_snoc {rows : List RF} {i : Nat} {x : RF} (h : rows[i]? = some x) (t : ByteArray) : woR (rows.take (i + 1)) t = woR (rows.take i) t ++ if x.1 ≠ t then [x] else [] := by
  rw [take_snoc_ h]
  unfold woR
  rw [List.filter_append]
  congr 1
  by_cases hx : x.1 = t <;> simp [hx]
theorem woR_len (rows : List RF) (t : ByteArray) : (woR rows t).length ≤ rows.length := List.length_filter_le _ _
theorem take_len_le (rows : List RF) (i : Nat) : (rows.take i).length ≤ rows.length := by rw [List.length_take]; omega
theorem rfC_one (rows : List RF) (h : ∀ x ∈ rows, ∃ A n c, x.2.1 = .slice A n c) : ∀ u ∈ rcs rfC rows, u.oneCell' = true := by
  intro u hu
  obtain ⟨x, hx, hu⟩ := List.mem_flatMap.1 hu
  obtain ⟨A, n, c, e⟩ := h x hx
  unfold rfC at hu
  rw [e] at hu
  simp at hu
  rcases hu with rfl | rfl <;> rfl
theorem Bt.shape {w : World} {v : Value} {s : ByteArray} (h : Bt w v s) : ∃ A n c, v = .slice A n c := let ⟨A, c, e, _⟩ := h; ⟨A, _, c, e⟩
set_option maxHeartbeats 4000000 in
theorem rwithout_any [Forb] (w : World) (v : Value) (rows : List RF) (h : RRow w v rows) (t : ByteArray) (hl : rows.length ≤ 100000000) :
    Calls Tryz.prog 98 #[v, .string t] w fun e w' => ∃ v', e = .returned v' ∧ RRow w' v' (woR rows t) ∧ Below w.heap.size w w' := by
  obtain ⟨A, c, rfl, -, -, -, hB0⟩ := id h
  obtain ⟨i0, hi0, hz0, hz1, hz2⟩ := parts infoRk
  have hO0 : w.ownsRow w.heap.size 100 2 (.slice none 0 0) 0 [] := World.ownsRow_nil _ _ _ _
  have HR := Lib.hid h; have HB0 := Lib.hid hB0; have HO0 := Lib.hid hO0; have HI0 := Lib.hid hi0; have HZ0 := Lib.hid hz0
  clear h hB0 hO0 hi0 hz0
  go_enter Tryz.func98, Tryz.ntmps98
  go_wp2
  go_loopg [5, 6] rows.length (fun gf vo vi wr => ∃ i : Nat, vi = .int .i64 i ∧ i + gf = rows.length ∧ wr.ownsRow w.heap.size 100 2 vo (woR (rows.take i) t).length (rcs rfC (woR (rows.take i) t)) ∧ Below w.heap.size w wr)
  case atStart => exact ⟨0, rfl, by omega, HO0.out, Below.refl _ _⟩
  case round =>
    obtain ⟨i, rfl, hi, hO, hB⟩ := hrel
    cases gk with
    | zero =>
      obtain rfl : i = rows.length := by omega
      rw [List.take_length] at hO
      obtain ⟨Ao, co, rfl, _⟩ := own_parts hO
      have hrr : RRow _ _ (woR rows t) := RRow.of_ownF hO fun x hx => (HB0.out x (List.mem_filter.1 hx).1).below hB
      have HRR := Lib.hid hrr; have HB := Lib.hid hB
      clear hi hO hB hrr
      go_wp2
      go_ret
      exact ⟨_, rfl, HRR.out, HB.out⟩
    | succ gf =>
      obtain ⟨b, oo, rfl, hlt, nm, A', c', bb, hx, x0, x1, -⟩ := (HR.out.keep (KeepF.of_below hB)).at_ (i := i) (by omega)
      have hiI : (i : Int) < (rows.length : Int) := by omega
      have hsn := woR_snoc hx t
      have hle := Nat.le_trans (woR_len (rows.take i) t) (take_len_le rows i)
      obtain ⟨Ao, co, rfl, _⟩ := own_parts hO
      have hsz := hB.size
      by_cases hnt : nm = t
      · have hqb : (!nm.toList == t.toList) = false := by rw [rkeq, decide_eq_true hnt]; rfl
        have hqb2 : (nm.toList == t.toList) = true := by rw [rkeq, decide_eq_true hnt]
        rw [if_neg (by simpa using hnt), List.append_nil] at hsn
        have HSN := Lib.hid hsn; have HO := Lib.hid hO; have HB := Lib.hid hB
        clear hsn hO hB hx
        subst hnt
        go_wp2
        go_roundg gf
        case measure => omega
        case rel => exact ⟨i + 1, by go_num, by omega, by rw [HSN.out]; exact HO.out, HB.out⟩
      · have hqb : (!nm.toList == t.toList) = true := by rw [rkeq, decide_eq_false hnt]; rfl
        have hqb2 : (nm.toList == t.toList) = false := by rw [rkeq, decide_eq_false hnt]
        rw [if_pos hnt] at hsn
        have HSN := Lib.hid hsn; have HO := Lib.hid hO; have HB := Lib.hid hB
        clear hsn hO hB hx hnt
        go_wp2_with (at_builtin; refine wpList_app _ wr rfl (.tmp 20) (.tmp 25) 92 rfl w.heap.size 100 i0 (.agg #[.string ⟨#[]⟩, .slice none 0 0]) 2 40 Tryz.underlying92 HI0.out HZ0.out hz1 hz2 rfl (by decide) (by decide) _ (woR (rows.take i) t).length _ rfl HO [.string nm, .slice A' bb.size c'] rfl rfl rfl _ rfl rfl (by omega) (by omega) ?_; intro v3 w3 h2 h3 h4; have HO3 := Lib.hid h2.out; have HB3 := Lib.hid h4.out; clear h2 h3 h4)
        go_roundg gf
        case measure => omega
        case rel =>
          refine ⟨i + 1, by go_num, by omega, ?_, HB.out.trans HB3.out⟩
          rw [HSN.out, rcs_append, List.length_append]
          exact HO3.out
/-- with -/
def lsK : List RF → ByteArray → Nat
  | [], _ => 0
  | x :: r, t => if lessN x.1 t = true then lsK r t + 1 else 0
def wiR (rows : List RF) (x : RF) : List RF := (woR rows x.1).take (lsK (woR rows x.1) x.1) ++ x :: (woR rows x.1).drop (lsK (woR rows x.1) x.1)
theorem lsK_le : ∀ (rows : List RF) (t : ByteArray), lsK rows t ≤ rows.length := by
  intro rows t
  induction rows with
  | nil => exact Nat.le_refl _
  | cons x r ih =>
    rw [lsK]
    split
    · rw [List.length_cons]; omega
    · exact Nat.zero_le _
theorem lsK_lt {t : ByteArray} : ∀ {rows : List RF} {i : Nat} {x : RF}, rows[i]? = some x → i < lsK rows t → lessN x.1 t = true := by
  intro rows
  induction rows with
  | nil => intro i x h; cases h
  | cons y r ih =>
    intro i x h hi
    rw [lsK] at hi
    split at hi
    · rename_i hl
      cases i with
      | zero => rw [List.getElem?_cons_zero] at h; injection h with h; subst h; exact hl
      | succ i => rw [List.getElem?_cons_succ] at h; exact ih h (by omega)
    · omega
theorem lsK_at {t : ByteArray} : ∀ {rows : List RF} {x : RF}, rows[lsK rows t]? = some x → lessN x.1 t = false := by
  intro rows
  induction rows with
  | nil => intro x h; cases h
  | cons y r ih =>
    intro x h
    rw [lsK] at h
    split at h
    · rw [List.getElem?_cons_succ] at h; exact ih h
    · rename_i hl
      rw [List.getElem?_cons_zero] at h; injection h with h; subst h
      simpa using hl
theorem RRow.shapes [Forb] {w : World} {v : Value} {rows : List RF} (h : RRow w v rows) : ∀ x ∈ rows, ∃ A n c, x.2.1 = .slice A n c := by
  obtain ⟨_, _, _, _, _, _, hB⟩ := h
  exact fun x hx => (hB x hx).1.shape
theorem rcs_shapes [Forb] {w : World} {v : Value} {rows : List RF} (h : RRow w v rows) (r : List RF) (hr : ∀ x ∈ r, x ∈ rows) : ∀ u ∈ rcs rfC r, u.oneCell' = true := rfC_one r fun x hx => h.shapes x (hr x hx)
set_option maxRecDepth 100000 in
set_option maxHeartbeats 8000000 in
theorem rwith_any [Forb] (w : World) (v : Value) (rows : List RF) (h : RRow w v rows) (t : ByteArray) (A' : Option Addr) (c' : Nat) (bb : ByteArray) (hbt : BtO w (.slice A' bb.size c') bb) (hl : rows.length ≤ 100000000) :
    Calls Tryz.prog 70 #[v, .string t, .slice A' bb.size c'] w fun e w' => ∃ v', e = .returned v' ∧ RRow w' v' (wiR rows (t, .slice A' bb.size c', bb)) ∧ Below w.heap.size w w' := by
  have hwo := rwithout_any w v rows h t hl
  obtain ⟨A, c, rfl, -⟩ := id h
  obtain ⟨i0, hi0, hz0, hz1, hz2⟩ := parts infoRk
  have hle := woR_len rows t
  obtain ⟨R, hR⟩ : ∃ R, woR rows t = R := ⟨_, rfl⟩
  rw [hR] at hwo hle
  have hfin : wiR rows (t, .slice A' bb.size c', bb) = R.take (lsK R t) ++ (t, .slice A' bb.size c', bb) :: R.drop (lsK R t) := by unfold wiR; rw [hR]
  have HW := Lib.hid hwo; have HI0 := Lib.hid hi0; have HZ0 := Lib.hid hz0; have HBT := Lib.hid hbt; have HFIN := Lib.hid hfin
  clear hwo h hi0 hz0 hbt hfin hR
  go_enter Tryz.func70, Tryz.ntmps70
  go_wp2_with fail
  refine HW.out.mono ?_
  rintro e w1 ⟨v1, rfl, hr1, hb1⟩
  obtain ⟨A1, c1, rfl, hc1, hR1, -⟩ := id hr1
  have hk := lsK_le R t
  have HR1 := Lib.hid hr1; have HB1 := Lib.hid hb1; have HRS := Lib.hid hR1
  clear hr1 hb1 hR1 HW
  go_wp2
  go_loopg [8] (lsK R t) (fun gf va wr => ∃ i : Nat, va = .int .i64 i ∧ i + gf = lsK R t ∧ w1 = wr)
  case atStart => exact ⟨0, rfl, by omega, rfl⟩
  case round =>
    obtain ⟨i, rfl, hi, rfl⟩ := hrel
    cases gk with
    | succ gf =>
      obtain ⟨b, oo, rfl, hlt, nm, Ax, cx, bx, hx, x0, -, -⟩ := HR1.out.at_ (i := i) (by omega)
      have hiI : (i : Int) < (R.length : Int) := by omega
      have hib : decide ((i : Int) < (R.length : Int)) = true := decide_eq_true hiI
      have hls : Op.bytesLess nm.toList t.toList = true := lsK_lt hx (by omega)
      clear hx
      go_wp2
      go_roundg gf
      case measure => omega
      case rel => exact ⟨i + 1, by go_num, by omega, rfl⟩
    | zero =>
      have hik : i = lsK R t := by omega
      have hrt := HRS.out.take rfC_len i
      have hcu := Rs.cut (c := c1) (i := i) rfC_len HRS.out hc1
      unfold Rs at hrt hcu
      rw [List.length_take, Nat.min_eq_left (by omega)] at hrt
      rw [List.length_drop] at hcu
      have hlist : rcs rfC (R.take i) ++ [.string t, .slice A' bb.size c'] ++ rcs rfC (R.drop i) = rcs rfC (wiR rows (t, .slice A' bb.size c', bb)) := by
        have e : rcs rfC ((t, .slice A' bb.size c', bb) :: R.drop i) = [.string t, .slice A' bb.size c'] ++ rcs rfC (R.drop i) := by simp [rcs, rfC]
        rw [HFIN.out, ← hik, rcs_append, e, List.append_assoc]
      have hlen : (wiR rows (t, .slice A' bb.size c', bb)).length = i + 1 + (R.length - i) := by rw [HFIN.out, ← hik, List.length_append, List.length_take, List.length_cons, List.length_drop]; omega
      have hs1 := rcs_shapes HR1.out (R.take i) fun x hx => List.mem_of_mem_take hx
      have hs2 := rcs_shapes HR1.out (R.drop i) fun x hx => List.mem_of_mem_drop hx
      have hown : Hid (w1.ownsRow w1.heap.size 100 2 (.slice none 0 0) 0 []) := Lib.hid (World.ownsRow_nil _ _ _ _)
      have hex : i < R.length → ∃ b oo nm, A1 = some ⟨b, oo, none⟩ ∧ w1.cell? ⟨b, oo + i * 2, none⟩ = some (.string nm) ∧ Op.bytesLess nm.toList t.toList = false := fun hlt => by
        obtain ⟨b, oo, hA, _, nm, Ax, cx, bx, hx, x0, -, -⟩ := HR1.out.at_ hlt
        have hl : lessN nm t = false := lsK_at (x := (nm, .slice Ax bx.size cx, bx)) (by rw [← hik]; exact hx)
        exact ⟨b, oo, nm, hA, x0, hl⟩
      have hil : i ≤ R.length := by omega
      have hbs := HB1.out.size
      have HRT := Lib.hid hrt; have HCU := Lib.hid hcu; have HLIST := Lib.hid hlist; have HLEN := Lib.hid hlen; have HS1 := Lib.hid hs1; have HS2 := Lib.hid hs2
      clear hrt hcu hlist hlen hs1 hs2 hik hi
      have hicc : i ≤ c1 := by omega
      by_cases hic : i < R.length
      case' pos =>
        obtain ⟨b, oo, nm, rfl, x0, hls⟩ := hex hic
        have hiI : (i : Int) < (R.length : Int) := by omega
        have hib : decide ((i : Int) < (R.length : Int)) = true := decide_eq_true hiI
      case' neg =>
        have hiI : ¬ (i : Int) < (R.length : Int) := by omega
        have hib : decide ((i : Int) < (R.length : Int)) = false := decide_eq_false hiI
      all_goals
        clear hex
        go_upto_region 6 with (fail)
        go_upto_region 7 with (first | (refine wpList_upto (o := ⟨some 31, _, _, _, _, _⟩) rfl 92 100 (.tmp 29) (.tmp 30) rfl i0 Tryz.underlying92 HI0.out _ R.length c1 i rfl rfl hicc ?_) | (at_builtin; refine wpList_cat _ rfl (.tmp 28) (.tmp 31) 92 rfl w1.heap.size 100 i0 (.agg #[.string ⟨#[]⟩, .slice none 0 0]) 2 40 Tryz.underlying92 HI0.out HZ0.out hz1 hz2 rfl (by decide) (by decide) _ 0 _ rfl hown _ i _ (rcs rfC (R.take i)) rfl HRT HS1.out (by omega) (by omega) ?_; intro v1 w4 h2 h3 h4; have HO1 := Lib.hid h2.out; have HB4 := Lib.hid h4.out; clear h2 h3 h4))
        have hown4 : w4.ownsRow w1.heap.size 100 2 v1 i (rcs rfC (R.take i)) := by have h1 := HO1.out; rw [Nat.zero_add, List.nil_append] at h1; exact h1
        have hbs4 := HB4.out.size
        have HO4 := Lib.hid hown4
        clear hown4 HO1 hown
        go_upto_region 8 with (at_builtin; refine wpList_app _ w4 rfl (.tmp 33) (.tmp 37) 92 rfl w1.heap.size 100 i0 (.agg #[.string ⟨#[]⟩, .slice none 0 0]) 2 40 Tryz.underlying92 HI0.out HZ0.out hz1 hz2 rfl (by decide) (by decide) _ i _ rfl HO4 [.string t, .slice A' bb.size c'] rfl rfl rfl _ rfl rfl (by omega) (by omega) ?_; intro v2 w5 h2 h3 h4; have HO5 := Lib.hid h2.out; have HB5 := Lib.hid h4.out; clear h2 h3 h4)
        have hbs5 := HB5.out.size
        have hb15 := HB4.out.trans HB5.out
        have HCU5 := Lib.hid (Sl.below HCU.out hb15); have HB15 := Lib.hid hb15
        clear hb15
        go_wp2_with (first | (refine wpList_from (o := ⟨some 42, _, _, _, _, _⟩) rfl 92 100 (.tmp 40) (.tmp 41) rfl i0 Tryz.underlying92 HI0.out _ R.length c1 i 2 hz1 rfl rfl hil ?_) | (at_builtin; refine wpList_cat _ rfl (.tmp 39) (.tmp 42) 92 rfl w1.heap.size 100 i0 (.agg #[.string ⟨#[]⟩, .slice none 0 0]) 2 40 Tryz.underlying92 HI0.out HZ0.out hz1 hz2 rfl (by decide) (by decide) _ (i + 1) _ rfl HO5 _ (R.length - i) _ (rcs rfC (R.drop i)) rfl HCU5 HS2.out (by omega) (by omega) ?_; intro v3 w6 h2 h3 h4; have HO6 := Lib.hid h2.out; have HB6 := Lib.hid h4.out; clear h2 h3 h4))
        have hown6 := HO6.out
        rw [HLIST.out, ← HLEN.out] at hown6
        have hb16 := HB15.out.trans HB6.out
        have hb06 := HB1.out.trans (hb16.mono HB1.out.size)
        have hall : ∀ x ∈ wiR rows (t, .slice A' bb.size c', bb), BtO w6 x.2.1 x.2.2 := by
          intro x hx
          rw [HFIN.out] at hx
          have hRb : ∀ x ∈ R, BtO w6 x.2.1 x.2.2 := fun x hx => by
            obtain ⟨_, _, _, _, _, _, hB⟩ := HR1.out
            exact (hB x hx).below hb16
          rcases List.mem_append.1 hx with hx | hx
          · exact hRb x (List.mem_of_mem_take hx)
          · rcases List.mem_cons.1 hx with rfl | hx
            · exact HBT.out.below hb06
            · exact hRb x (List.mem_of_mem_drop hx)
        have hrr := RRow.of_ownF hown6 hall
        obtain ⟨Af, cf, rfl, -⟩ := own_parts HO6.out
        have HRR := Lib.hid hrr; have HB06 := Lib.hid hb06
        clear hrr hb06 hb16 hown6 hall
        go_wp2
        go_ret
        exact ⟨_, rfl, HRR.out, HB06.out⟩
end Go.Proofs.YthmcimpdehgaoaaGreatDoor
namespace Go.Proofs.YthmcimpdehgaoaaGreatDoor
open Go.RowKit Go.Maps

/-- the reference's disk -/
structure RDisk where
  files : List (ByteArray × ByteArray)
  safe : List (ByteArray × ByteArray)
  quota : Int
  done : Int
  left : Int
  gone : Bool
def RkIs [Forb] (w : World) (B p : Nat) (R : RDisk) : Prop :=
  B ≤ p ∧ ∃ vf vs, Blk w p 94 #[vf, vs, .int .i64 R.quota, .int .i64 R.done, .int .i64 R.left, .bool R.gone] ∧ RFs w vf R.files ∧ RFs w vs R.safe
/-- what a call of the reference's disk leaves -/
structure RkOut [Forb] (B : Nat) (w w' : World) (p : Nat) (R' : RDisk) : Prop where
  is : RkIs w' B p R'
  moved : Moved w w' p none
structure RFit (R : RDisk) : Prop where
  len : R.files.length ≤ 100000000
  slen : R.safe.length ≤ 100000000
  long : longP R.files ≤ 1000000000000
  done0 : 0 ≤ R.done
  done : R.done ≤ 4611686018427387904
  left0 : -1 ≤ R.left
  left : R.left ≤ 9223372036854775807
section
variable {w w' : World} {B p : Nat} {R R' : RDisk}
theorem RkIs.blk [Forb] (h : RkIs w B p R) : ∃ vf vs, Blk w p 94 #[vf, vs, .int .i64 R.quota, .int .i64 R.done, .int .i64 R.left, .bool R.gone] := let ⟨_, vf, vs, hb, _⟩ := h; ⟨vf, vs, hb⟩
theorem RkIs.lt [Forb] (h : RkIs w B p R) : p < w.heap.size := let ⟨_, _, _, hb, _⟩ := h; hb.lt
theorem keepF_moved {cs : Array Value} {t : TypeId} (hb : Blk w p t cs) (hm : Moved w w' p none) (h1 : t ≠ 100) (h2 : t ≠ 5) : KeepF w w' :=
  ⟨hm.size, fun b cs' t' fz ht hh => hm.block b (Array.getElem?_eq_some_iff.1 hh).1 (fun e => by
    subst e
    rcases ht with rfl | rfl
    · exact blk_type hb hh h1
    · exact blk_type hb hh h2) (by simp)⟩
theorem keepF_drew {w : World} (n : Nat) : KeepF w (w.drewN n) := ⟨Nat.le_refl _, fun _ _ _ _ _ _ => rfl⟩
/-- the disk's own place is written anew -/
theorem RkIs.put [Forb] (h : RkIs w B p R) (hm : Moved w w' p none) {vf vs : Value} (hb : Blk w' p 94 #[vf, vs, .int .i64 R'.quota, .int .i64 R'.done, .int .i64 R'.left, .bool R'.gone]) (hf : RFs w vf R'.files) (hs : RFs w vs R'.safe) : RkOut B w w' p R' := by
  obtain ⟨hB, vf0, vs0, hb0, _, _⟩ := h
  have hk := keepF_moved hb0 hm (by decide) (by decide)
  exact ⟨⟨hB, vf, vs, hb, hf.keep hk, hs.keep hk⟩, hm⟩
theorem RkIs.keep [Forb] (h : RkIs w B p R) (hk : KeepF w w') (hb : w'.heap[p]? = w.heap[p]?) : RkIs w' B p R := by
  obtain ⟨hB, vf, vs, hb0, hf, hs⟩ := h
  exact ⟨hB, vf, vs, hb.trans hb0, hf.keep hk, hs.keep hk⟩
theorem RkIs.below [Forb] (h : RkIs w B p R) (hb : Below w.heap.size w w') : RkIs w' B p R := h.keep (KeepF.of_below hb) (hb.block p h.lt)
theorem RkOut.same [Forb] (h : RkIs w B p R) : RkOut B w w p R := ⟨h, Moved.refl _ _ _⟩
theorem RkOut.trans [Forb] {w2 : World} {R2 : RDisk} (h : RkOut B w w' p R') (k : RkOut B w' w2 p R2) : RkOut B w w2 p R2 := ⟨k.is, h.moved.trans k.moved (.inl rfl)⟩
theorem RkOut.belowB [Forb] (h : RkOut B w w' p R') (hB : B ≤ w.heap.size) : Below B w w' := h.moved.below h.is.1 (by simp) hB
theorem RkOut.keepF [Forb] (h : RkOut B w w' p R') (h0 : RkIs w B p R) : KeepF w w' := by
  obtain ⟨vf, vs, hb⟩ := h0.blk
  exact keepF_moved hb h.moved (by decide) (by decide)
theorem RkOut.keep_blk [Forb] (h : RkOut B w w' p R') (h0 : RkIs w B p R) {g : Nat} {t : TypeId} {cs : Array Value} (hg : Blk w g t cs) (ht : t ≠ 94) : Blk w' g t cs := by
  obtain ⟨vf, vs, hb⟩ := h0.blk
  exact (h.moved.block g hg.lt (fun e => by subst e; exact blk_type hg hb ht) (by simp)).trans hg
/-- the program's disk stays -/
theorem RkOut.disk [Forb] (h : RkOut B w w' p R') (h0 : RkIs w B p R) {B2 q : Nat} {v : Value} {D : DiskD} (hd : DiskIs w B2 q v D) : DiskIs w' B2 q v D := by
  obtain ⟨vf, vs, hb⟩ := h0.blk
  obtain ⟨rows, hr, hR⟩ := hd.row
  have hty := own_type hR.1 (t := 94) (by decide)
  exact hd.keep h.moved (fun e => by subst e; exact blk_type hd.blk hb (by decide)) (by simp) (fun k hk => ⟨fun e => by subst e; exact hty k hk _ _ hb, by simp⟩) (fun _ _ hh => blk_type hb hh (by decide)) (by simp)
/-- a call of the program's disk: the reference's stays -/
theorem Out.rk [Forb] {B2 q : Nat} {v v1 : Value} {D1 : DiskD} (o : Out B2 w w' q v D1 v1) (hs : w.heap.size ≤ w'.heap.size) (h : RkIs w B p R) : RkIs w' B p R := by
  obtain ⟨hB, vf, vs, hb, hf, hs2⟩ := h
  have hk : KeepF w w' := ⟨hs, fun b cs t fz ht hh => o.blk b cs t fz (by rcases ht with rfl | rfl <;> decide) (by rcases ht with rfl | rfl <;> decide) hh⟩
  exact ⟨hB, vf, vs, (o.blk p _ _ _ (by decide) (by decide) hb).trans hb, hf.keep hk, hs2.keep hk⟩
end
set_option maxHeartbeats 1000000 in
theorem rnew_any [Forb] (w : World) (q : Int) : Calls Tryz.prog 21 #[.int .i64 q] w fun e w' => e = .returned (.pointer (some ⟨w.heap.size, 0, none⟩)) ∧ RkIs w' w.heap.size w.heap.size ⟨[], [], max 0 q, 0, -1, false⟩ ∧ Below w.heap.size w w' := by
  have hb := Blk.new w 94 #[.slice none 0 0, .slice none 0 0, .int .i64 (max 0 q), .int .i64 0, .int .i64 (-1), .bool false]
  have hB := (Below.refl w.heap.size w).alloc (Nat.le_refl _) (.cells #[.slice none 0 0, .slice none 0 0, .int .i64 (max 0 q), .int .i64 0, .int .i64 (-1), .bool false] 94)
  have hI : RkIs (w.alloc (.cells #[.slice none 0 0, .slice none 0 0, .int .i64 (max 0 q), .int .i64 0, .int .i64 (-1), .bool false] 94)) w.heap.size w.heap.size ⟨[], [], max 0 q, 0, -1, false⟩ := ⟨Nat.le_refl _, _, _, hb, RFs.nil _, RFs.nil _⟩
  have HI := Lib.hid hI; have HB := Lib.hid hB
  clear hb hB hI
  go_enter Tryz.func21, Tryz.ntmps21
  go_wp2
  go_ret
  exact ⟨rfl, HI.out, HB.out⟩
section
variable [Forb] (w : World) (B p : Nat) (R : RDisk) (h : RkIs w B p R)
include h
set_option maxHeartbeats 1000000 in
theorem rfail_any (z : Int) : Calls Tryz.prog 25 #[.pointer (some ⟨p, 0, none⟩), .int .i64 z] w fun e w' => e = .returned (.tuple #[]) ∧ RkOut B w w' p { R with left := max (-1) z } := by
  obtain ⟨-, vf, vs, hb, hf, hs⟩ := id h
  have c4 := hb.cell 4; have f4 := hb.frozen 4
  simp only [List.getElem?_toArray, List.getElem?_cons_zero, List.getElem?_cons_succ] at c4
  have ho := h.put (R' := { R with left := max (-1) z }) (Moved.set_ w p 4 none (.int .i64 (max (-1) z))) (hb.set_ 4 (.int .i64 (max (-1) z))) hf hs
  have HO := Lib.hid ho
  clear ho h hb hf hs
  go_enter Tryz.func25, Tryz.ntmps25
  go_wp2
  go_end0
  exact ⟨rfl, HO.out⟩
set_option maxHeartbeats 1000000 in
theorem rcrash_any : Calls Tryz.prog 26 #[.pointer (some ⟨p, 0, none⟩)] w fun e w' => e = .returned (.tuple #[]) ∧ RkOut B w w' p { R with gone := true, left := -1 } := by
  obtain ⟨-, vf, vs, hb, hf, hs⟩ := id h
  have c4 := hb.cell 4; have f4 := hb.frozen 4; have c5 := hb.cell 5; have f5 := hb.frozen 5
  simp only [List.getElem?_toArray, List.getElem?_cons_zero, List.getElem?_cons_succ] at c4 c5
  have hm := (Moved.set_ w p 5 none (.bool true)).trans (Moved.set_ (w.setCell ⟨p, 5, none⟩ (.bool true)) p 4 none (.int .i64 (-1))) (.inl rfl)
  have ho := h.put (R' := { R with gone := true, left := -1 }) hm ((hb.set_ 5 (.bool true)).set_ 4 (.int .i64 (-1))) hf hs
  have HO := Lib.hid ho
  clear ho h hb hf hs hm
  go_enter Tryz.func26, Tryz.ntmps26
  go_wp2
  go_end0
  exact ⟨rfl, HO.out⟩
end
/-- what refuses a call ahead of its own errors -/
def RDisk.refused (R : RDisk) (name other : ByteArray) (there : Bool) : Int :=
  if R.gone = true then 160 else if badN name = true then 2 else if badN other = true then 2 else if there = true then (if (getP R.files name).isSome = true then 0 else 5) else 0
/-- the power at a step -/
def RDisk.power (R : RDisk) : Bool × RDisk := (!decide (R.left = 0), { R with done := R.done + 1, gone := decide (R.left = 0), left := max (-1) (R.left - 1) })
section
variable [Forb] (w : World) (B p : Nat) (R : RDisk) (h : RkIs w B p R) (hf : RFit R)
include h hf
set_option maxRecDepth 100000 in
set_option maxHeartbeats 4000000 in
theorem rrefused_any (name other : ByteArray) (there : Bool) : Calls Tryz.prog 68 #[.pointer (some ⟨p, 0, none⟩), .string name, .string other, .bool there] w fun e w' => e = .returned (.int .i64 (R.refused name other there)) ∧ w = w' := by
  obtain ⟨-, vf, vs, hb, hfl, -⟩ := id h
  have c0 := hb.cell 0; have c5 := hb.cell 5
  simp only [List.getElem?_toArray, List.getElem?_cons_zero, List.getElem?_cons_succ] at c0 c5
  have hg := rget_any w vf R.files hfl hf.len name
  have hm1 := rmay_any w name
  have hm2 := rmay_any w other
  obtain ⟨E, hE⟩ : ∃ E, R.refused name other there = E := ⟨_, rfl⟩
  rw [hE]
  unfold RDisk.refused at hE
  obtain ⟨gs, hgs⟩ : ∃ gs, (getP R.files name).isSome = gs := ⟨_, rfl⟩
  obtain ⟨gd, hgd⟩ : ∃ gd, (getP R.files name).getD ByteArray.empty = gd := ⟨_, rfl⟩
  obtain ⟨b1, hb1⟩ : ∃ b, badN name = b := ⟨_, rfl⟩
  obtain ⟨b2, hb2⟩ : ∃ b, badN other = b := ⟨_, rfl⟩
  obtain ⟨gn, hgn⟩ : ∃ b, R.gone = b := ⟨_, rfl⟩
  rw [hgs, hgd] at hg
  rw [hgs, hb1, hb2, hgn] at hE
  rw [hb1] at hm1
  rw [hb2] at hm2
  rw [hgn] at c5
  have HG := Lib.hid hg; have HM1 := Lib.hid hm1; have HM2 := Lib.hid hm2; have HE := Lib.hid hE
  clear hg hm1 hm2 hE hgs hgd hb1 hb2 hgn h hf hb hfl
  go_enter Tryz.func68, Tryz.ntmps68
  go_wp2_with fail
  refine HG.out.mono ?_
  rintro e w' ⟨gv, rfl, -, rfl⟩
  cases gn with
  | true =>
    go_wp2
    go_ret
    exact ⟨by rw [← HE.out]; rfl, rfl⟩
  | false =>
    go_wp2_with fail
    refine HM1.out.mono ?_
    rintro e w' ⟨rfl, rfl⟩
    cases b1 with
    | true =>
      go_wp2
      go_ret
      exact ⟨by rw [← HE.out]; rfl, rfl⟩
    | false =>
      go_wp2_with fail
      refine HM2.out.mono ?_
      rintro e w' ⟨rfl, rfl⟩
      cases b2 with
      | true =>
        go_wp2
        go_ret
        exact ⟨by rw [← HE.out]; rfl, rfl⟩
      | false =>
        cases there <;> cases gs
        all_goals
          go_wp2
          go_ret
          exact ⟨by rw [← HE.out]; rfl, rfl⟩
end
/-- what a step of the power asks -/
structure RPow (R : RDisk) : Prop where
  done0 : 0 ≤ R.done
  done : R.done ≤ 4611686018427387904
  left0 : -1 ≤ R.left
  left : R.left ≤ 9223372036854775807
theorem RFit.pow {R : RDisk} (h : RFit R) : RPow R := ⟨h.done0, h.done, h.left0, h.left⟩
set_option maxRecDepth 100000 in
set_option maxHeartbeats 4000000 in
theorem rpower_p [Forb] (w : World) (B p : Nat) (R : RDisk) (h : RkIs w B p R) (hf : RPow R) : Calls Tryz.prog 72 #[.pointer (some ⟨p, 0, none⟩)] w fun e w' => e = .returned (.bool R.power.1) ∧ RkOut B w w' p R.power.2 := by
  obtain ⟨-, vf, vs, hb, hfl, hs⟩ := id h
  have hd0 := hf.done0; have hd1 := hf.done; have hl0 := hf.left0; have hl1 := hf.left
  have c3 := hb.cell 3; have c4 := hb.cell 4; have c5 := hb.cell 5
  simp only [List.getElem?_toArray, List.getElem?_cons_zero, List.getElem?_cons_succ] at c3 c4 c5
  have f3 := hb.frozen 3; have f4 := hb.frozen 4; have f5 := hb.frozen 5
  obtain ⟨z, hz⟩ : ∃ z, decide (R.left = 0) = z := ⟨_, rfl⟩
  have hzb : (R.left == 0) = z := by rw [← hz]; rfl
  have hm := ((Moved.set_ w p 3 none (.int .i64 (R.done + 1))).trans (Moved.set_ (w.setCell ⟨p, 3, none⟩ (.int .i64 (R.done + 1))) p 5 none (.bool z)) (.inl rfl)).trans (Moved.set_ _ p 4 none (.int .i64 (max (-1) (R.left - 1)))) (.inl rfl)
  have ho := h.put (R' := R.power.2) hm (by unfold RDisk.power; rw [hz]; exact ((hb.set_ 3 (.int .i64 (R.done + 1))).set_ 5 (.bool z)).set_ 4 (.int .i64 (max (-1) (R.left - 1)))) hfl hs
  have hp1 : R.power.1 = !z := by unfold RDisk.power; rw [hz]
  rw [hp1]
  have HO := Lib.hid ho; have HZ := Lib.hid hzb
  clear ho h hb hfl hs hm hf hp1 hz
  go_enter Tryz.func72, Tryz.ntmps72
  go_wp2
  go_ret
  exact ⟨rfl, HO.out⟩
theorem rpower_any [Forb] (w : World) (B p : Nat) (R : RDisk) (h : RkIs w B p R) (hf : RFit R) : Calls Tryz.prog 72 #[.pointer (some ⟨p, 0, none⟩)] w fun e w' => e = .returned (.bool R.power.1) ∧ RkOut B w w' p R.power.2 := rpower_p w B p R h hf.pow
set_option maxHeartbeats 1000000 in
theorem ranswer_any (w : World) (b : Bool) : Calls Tryz.prog 71 #[.bool b] w fun e w' => e = .returned (.int .i64 (if b = true then 0 else 160)) ∧ w = w' := by
  cases b
  all_goals
    go_enter Tryz.func71, Tryz.ntmps71
    go_wp2
    go_ret
    exact ⟨rfl, rfl⟩
end Go.Proofs.YthmcimpdehgaoaaGreatDoor
