/- The reference's disk: Rename, Append. -/
import Derived.Test.YthmcimpdehgaoaaGreatDoorRkD
import Derived.Deep.QuietTactic
import Derived.BigQuiet
import Derived.Deep.RegionLaw
namespace Go.Proofs.YthmcimpdehgaoaaGreatDoor
open Go.RowKit Go.Maps

theorem woP_len (l : List (ByteArray × ByteArray)) (t : ByteArray) : (woP l t).length ≤ l.length := List.length_filter_le _ _
theorem remove_len (R : RDisk) (name : ByteArray) : (R.remove name).2.files.length ≤ R.files.length ∧ (R.remove name).2.safe.length ≤ R.safe.length := by
  unfold RDisk.remove
  split
  · exact ⟨Nat.le_refl _, Nat.le_refl _⟩
  · split
    · exact ⟨woP_len _ _, woP_len _ _⟩
    · exact ⟨Nat.le_refl _, Nat.le_refl _⟩
/-- append of bytes onto a row of the call's own -/
theorem wpList_catB {ops : Array Oper} {rest : List Oper} {o : Oper} {a : Act} {Q : Exit → Act → World → Prop} (w0 : World) (hgd : o.guard = none) (s x : Operand)
    (ho : o.op = .call { callee := .builtin .append, args := #[s, x], argTypes := #[33, 33] })
    (base : Nat) (v : Value) (T : ByteArray) (hs : a.eval s = v) (hown : Hid (w0.ownsRow base 5 1 v T.size (ucells T)))
    (A : Option Addr) (c : Nat) (b : ByteArray) (hx : a.eval x = .slice A b.size c) (hr : Hid (BtR w0 (.slice A b.size c) b))
    (hn : T.size + b.size ≤ 1000000000000) (hbase : base ≤ w0.heap.size)
    (h : ∀ v' w', Hid (w'.ownsRow base 5 1 v' (T ++ b).size (ucells (T ++ b))) → Hid (w0.grownBy w' v.ownBlock) → Hid (Below base w0 w') → wpList Tryz.prog ops Q rest (a.put o.dst v') w') :
    wpList Tryz.prog ops Q (o :: rest) a w0 := by
  obtain ⟨i0, hi0, hz0, hz1, hz2⟩ := parts infoU
  obtain ⟨A', c', he, _, hR⟩ := hr.out
  injection he with h1 h2 h3
  subst h1 h3
  refine wpList_append_any _ hgd s x 33 ho base 5 i0 (.int .u8 0) 1 1 Tryz.underlying33 hi0 hz0 hz1 hz2 rfl (by decide) v T.size (ucells T) hs hown.out w0.heap.size A b.size c (ucells b) hx hR (ucells_one b) (by unfold maxLen; omega) (by omega) hbase fun v' w' h2 h3 _ => ?_
  have hsz : T.size + b.size = (T ++ b).size := by rw [ByteArray.size_append]
  have hu : ucells T ++ ucells b = ucells (T ++ b) := by
    unfold ucells
    rw [ByteArray.data_append, Array.toList_append, List.map_append]
  rw [hsz, hu] at h2
  refine h v' w' (Lib.hid h2) (Lib.hid h3) (Lib.hid ?_)
  exact (Below.refl base w0).grown h3 hbase fun k hk => (hown.out.lt k hk).1
def RDisk.append (R : RDisk) (name b : ByteArray) : Int × RDisk :=
  if R.refused name name false ≠ 0 then (R.refused name name false, R)
  else if 8388608 < (R.got name).size + b.size then (3, R)
  else if R.quota < (longP R.files : Int) + (b.size : Int) then (161, R)
  else ((if R.power.1 = true then 0 else 160), { R.power.2 with files := wiP R.files name (R.got name ++ b) })
theorem le_sum_mem {l : List Nat} {a : Nat} (h : a ∈ l) : a ≤ l.sum := by
  induction l with
  | nil => cases h
  | cons x r ih =>
    rw [List.sum_cons]
    rcases List.mem_cons.1 h with rfl | h
    · omega
    · have := ih h; omega
theorem size_le_long {l : List (ByteArray × ByteArray)} {t b : ByteArray} (h : getP l t = some b) : b.size ≤ longP l := by
  unfold getP at h
  rw [Option.map_eq_some_iff] at h
  obtain ⟨x, hx, rfl⟩ := h
  have hm := List.mem_of_find?_eq_some hx
  unfold longP
  exact le_sum_mem (List.mem_map_of_mem (f := fun x : ByteArray × ByteArray => x.2.size) hm)
theorem got_le (R : RDisk) (name : ByteArray) : (R.got name).size ≤ longP R.files := by
  unfold RDisk.got
  cases h : getP R.files name with
  | none => exact Nat.zero_le _
  | some b => exact size_le_long h
section
variable [Forb] (w : World) (B p : Nat) (R : RDisk) (h : RkIs w B p R) (hf : RFit R)
include h hf
set_option maxRecDepth 100000 in
set_option maxHeartbeats 4000000 in
theorem rrename_any (src dst : ByteArray) : Calls Tryz.prog 113 #[.pointer (some ⟨p, 0, none⟩), .string src, .string dst] w fun e w' => e = .returned (.int .i64 (R.rename src dst).1) ∧ RkOut B w w' p (R.rename src dst).2 := by
  have hrf := rrefused_any w B p R h hf src dst true
  have hrm := rremove_any w B p R h hf src
  have hle := remove_len R src
  have hl1 : (R.remove src).2.files.length ≤ 100000000 := Nat.le_trans hle.1 hf.len
  have hl2 : (R.remove src).2.safe.length ≤ 100000000 := Nat.le_trans hle.2 hf.slen
  obtain ⟨-, vf, vs, hb, hfl, -⟩ := id h
  have c0 := hb.cell 0
  simp only [List.getElem?_toArray, List.getElem?_cons_zero] at c0
  have hg := rget_any w vf R.files hfl hf.len src
  obtain ⟨q, hq⟩ : ∃ q, R.rename src dst = q := ⟨_, rfl⟩
  rw [hq]
  unfold RDisk.rename RDisk.got at hq
  obtain ⟨E, hE⟩ : ∃ E, R.refused src dst true = E := ⟨_, rfl⟩
  obtain ⟨E2, hE2⟩ : ∃ E2, (R.remove src).1 = E2 := ⟨_, rfl⟩
  obtain ⟨gs, hgs⟩ : ∃ gs, (getP R.files src).isSome = gs := ⟨_, rfl⟩
  obtain ⟨gd, hgd⟩ : ∃ gd, (getP R.files src).getD ByteArray.empty = gd := ⟨_, rfl⟩
  rw [hE] at hrf hq
  rw [hgs, hgd] at hg
  rw [hgd, hE2] at hq
  rw [hE2] at hrm
  have HRF := Lib.hid hrf; have HG := Lib.hid hg; have HQ := Lib.hid hq; have H := Lib.hid h; have HRM := Lib.hid hrm; have HE2 := Lib.hid hE2
  clear hrf hg hq h hf hE hgs hgd hb hfl hrm hE2 hle
  go_enter Tryz.func113, Tryz.ntmps113
  go_wp2_with fail
  refine HRF.out.mono ?_
  rintro e w' ⟨rfl, rfl⟩
  by_cases hE : E = 0
  case neg =>
    have hEb : (E != 0) = true := by simpa using hE
    have hq := HQ.out
    rw [if_pos hE] at hq
    have HQ := Lib.hid hq
    clear hq hE
    go_wp2
    go_ret
    exact ⟨by rw [← HQ.out]; rfl, by rw [← HQ.out]; exact RkOut.same H.out⟩
  subst hE
  have hq := HQ.out
  rw [if_neg (by simp)] at hq
  have HQ := Lib.hid hq
  clear hq
  go_wp2_with fail
  refine HG.out.mono ?_
  rintro e w' ⟨gv, rfl, hgv, rfl⟩
  obtain ⟨A', c', rfl, -⟩ := id hgv.1
  have HV := Lib.hid hgv
  clear hgv
  go_wp2_with fail
  refine HRM.out.mono ?_
  rintro e w1 ⟨rfl, ho1⟩
  by_cases hE : E2 = 0
  case neg =>
    have hEb : (E2 == 0) = false := by simpa using hE
    have hq := HQ.out
    rw [if_neg hE] at hq
    have HQ := Lib.hid hq; have HO := Lib.hid ho1
    clear hq hE ho1
    go_wp2
    go_ret
    exact ⟨by rw [← HQ.out, HE2.out]; rfl, by rw [← HQ.out]; exact HO.out⟩
  subst hE
  have hq := HQ.out
  rw [if_pos rfl] at hq
  obtain ⟨-, vf1, vs1, hb1, hf1, hs1⟩ := id ho1.is
  have c0 := hb1.cell 0
  simp only [List.getElem?_toArray, List.getElem?_cons_zero] at c0
  have hw := rwith_f hf1 dst (ho1.btO H.out HV.out) hl1
  have HW := Lib.hid hw; have HO := Lib.hid ho1; have HQ := Lib.hid hq
  clear hw ho1 hq hb1 hf1 hs1 HRM
  go_wp2_with fail
  refine HW.out.mono ?_
  rintro e w2 ⟨v2, rfl, hf2, hb2⟩
  obtain ⟨Av2, nv2, cv2, rfl⟩ := hf2.shape
  have ho2 := HO.out.below hb2
  have ho3 := ho2.trans (ho2.is.setF hf2)
  obtain ⟨vfx, vsx, hbx⟩ := ho2.is.blk
  have x0 := hbx.cell 0; have f0 := hbx.frozen 0
  simp only [List.getElem?_toArray, List.getElem?_cons_zero] at x0
  have HO3 := Lib.hid ho3
  clear ho2 ho3 hbx hf2 hb2 HW HO c0
  go_upto_region 8 with (fail)
  obtain ⟨w3, hw3⟩ : ∃ w3, w2.setCell ⟨p, 0, none⟩ (.slice Av2 nv2 cv2) = w3 := ⟨_, rfl⟩
  rw [hw3] at HO3 ⊢
  clear hw3 x0 f0
  obtain ⟨-, vf3, vs3, hb3, hf3, hs3⟩ := id HO3.out.is
  have c1 := hb3.cell 1
  simp only [List.getElem?_toArray, List.getElem?_cons_zero, List.getElem?_cons_succ] at c1
  have hw := rwith_f hs3 dst (HO3.out.btO H.out HV.out) hl2
  have HW := Lib.hid hw
  clear hw hb3 hf3 hs3
  go_wp2_with fail
  refine HW.out.mono ?_
  rintro e w4 ⟨v4, rfl, hf4, hb4⟩
  obtain ⟨Av4, nv4, cv4, rfl⟩ := hf4.shape
  have ho4 := HO3.out.below hb4
  have ho5 := ho4.trans (ho4.is.setS hf4)
  obtain ⟨vfx, vsx, hbx⟩ := ho4.is.blk
  have x1 := hbx.cell 1; have f1 := hbx.frozen 1
  simp only [List.getElem?_toArray, List.getElem?_cons_zero, List.getElem?_cons_succ] at x1
  have HO5 := Lib.hid ho5
  clear ho4 ho5 hbx hf4 hb4 HW HO3 c1
  go_upto_region 9 with (fail)
  obtain ⟨w5, hw5⟩ : ∃ w5, w4.setCell ⟨p, 1, none⟩ (.slice Av4 nv4 cv4) = w5 := ⟨_, rfl⟩
  rw [hw5] at HO5 ⊢
  clear hw5 x1 f1
  go_wp2
  go_ret
  exact ⟨by rw [← HQ.out]; rfl, by rw [← HQ.out]; exact HO5.out⟩
set_option maxRecDepth 100000 in
set_option maxHeartbeats 8000000 in
theorem rappend_anyF (ht : Forb.top ≤ w.heap.size) (name : ByteArray) (bv : Value) (b : ByteArray) (hbt : BtR w bv b) (hbs : b.size ≤ 1000000000) : Calls Tryz.prog 29 #[.pointer (some ⟨p, 0, none⟩), .string name, bv] w fun e w' => e = .returned (.int .i64 (R.append name b).1) ∧ RkOut B w w' p (R.append name b).2 := by
  obtain ⟨A', c', rfl, -⟩ := id hbt
  have hrf := rrefused_any w B p R h hf name name false
  obtain ⟨-, vf, vs, hb, hfl, -⟩ := id h
  have c0 := hb.cell 0; have c2 := hb.cell 2
  simp only [List.getElem?_toArray, List.getElem?_cons_zero, List.getElem?_cons_succ] at c0 c2
  have hg := rget_any w vf R.files hfl hf.len name
  have hlg : ∀ n, Calls Tryz.prog 69 #[vf] (w.drewN n) fun e w' => e = .returned (.int .i64 (longP R.files)) ∧ w' = w.drewN n := fun n => (rlong_any (w.drewN n) vf R.files (hfl.keep (keepF_drew n)) hf.long hf.len).mono fun _ _ ⟨h1, h2⟩ => ⟨h1, h2.symm⟩
  have hgl := got_le R name
  have hll := hf.long
  unfold RDisk.got at hgl
  obtain ⟨q, hq⟩ : ∃ q, R.append name b = q := ⟨_, rfl⟩
  rw [hq]
  unfold RDisk.append RDisk.got at hq
  obtain ⟨E, hE⟩ : ∃ E, R.refused name name false = E := ⟨_, rfl⟩
  obtain ⟨gs, hgs⟩ : ∃ gs, (getP R.files name).isSome = gs := ⟨_, rfl⟩
  obtain ⟨gd, hgd⟩ : ∃ gd, (getP R.files name).getD ByteArray.empty = gd := ⟨_, rfl⟩
  obtain ⟨N, hN⟩ : ∃ N, longP R.files = N := ⟨_, rfl⟩
  rw [hE] at hrf hq
  rw [hgs, hgd] at hg
  rw [hgd] at hq hgl
  rw [hN] at hq hlg hgl hll
  have HRF := Lib.hid hrf; have HG := Lib.hid hg; have HQ := Lib.hid hq; have H := Lib.hid h; have HLG := Lib.hid hlg; have HBT := Lib.hid hbt; have HF := Lib.hid hf
  clear hrf hg hq h hf hE hgs hgd hN hb hfl hlg hbt
  go_enter Tryz.func29, Tryz.ntmps29
  go_wp2_with fail
  refine HRF.out.mono ?_
  rintro e w' ⟨rfl, rfl⟩
  go_wp2_with fail
  refine HG.out.mono ?_
  rintro e w' ⟨gv, rfl, hgv, rfl⟩
  obtain ⟨Ag, cg, rfl, -⟩ := id hgv.1
  have HV := Lib.hid hgv
  clear hgv HG HRF
  by_cases hE : E = 0
  case neg =>
    have hEb : (E != 0) = true := by simpa using hE
    have hq := HQ.out
    rw [if_pos hE] at hq
    have HQ := Lib.hid hq
    clear hq hE
    go_wp2
    go_ret
    exact ⟨by rw [← HQ.out]; rfl, by rw [← HQ.out]; exact RkOut.same H.out⟩
  subst hE
  have hq := HQ.out
  rw [if_neg (by simp)] at hq
  by_cases h8 : 8388608 < gd.size + b.size
  case pos =>
    have h8I : (8388608 : Int) < (gd.size : Int) + (b.size : Int) := by omega
    rw [if_pos h8] at hq
    have HQ := Lib.hid hq
    clear hq h8
    go_wp2
    go_ret
    exact ⟨by rw [← HQ.out]; rfl, by rw [← HQ.out]; exact RkOut.same H.out⟩
  have h8I : ¬ (8388608 : Int) < (gd.size : Int) + (b.size : Int) := by omega
  rw [if_neg h8] at hq
  have HQ := Lib.hid hq
  clear hq h8
  have hwr : IntKind.i64.wrap ((N : Int) + (b.size : Int)) = (N : Int) + (b.size : Int) := IntWalk.i64_in _ (by omega)
  go_upto_region 7 with (fail)
  go_quiet ((go_at_call 69; exact Calls.quiet_of_same (HLG.out _)))
  clear hwr
  have hqk := (RkOut.same H.out).below (below_drewN (Below.refl w.heap.size w) nq)
  have hvq : BtR (w.drewN nq) (.slice Ag gd.size cg) gd := HV.out.1.btr
  have hbq : BtR (w.drewN nq) (.slice A' b.size c') b := HBT.out
  have hszq : w.heap.size ≤ (w.drewN nq).heap.size := Nat.le_refl _
  obtain ⟨wq, hwq⟩ : ∃ wq, w.drewN nq = wq := ⟨_, rfl⟩
  rw [hwq] at hqk hvq hbq hszq ⊢
  have HK := Lib.hid hqk; have HVQ := Lib.hid hvq; have HBQ := Lib.hid hbq
  clear hwq hqk hvq hbq c0 c2 HLG
  have hq := HQ.out
  by_cases hfu : R.quota < (N : Int) + (b.size : Int)
  case pos =>
    rw [if_pos hfu] at hq
    have HQ := Lib.hid hq
    have hfb : decide (R.quota < (N : Int) + (b.size : Int)) = true := decide_eq_true hfu
    clear hq
    go_wp2
    go_ret
    exact ⟨by rw [← HQ.out]; rfl, by rw [← HQ.out]; exact HK.out⟩
  rw [if_neg hfu] at hq
  have hfb : decide (R.quota < (N : Int) + (b.size : Int)) = false := decide_eq_false hfu
  have HQ := Lib.hid hq
  clear hq
  have hown : Hid (wq.ownsRow wq.heap.size 5 1 (.slice none 0 0) (⟨#[]⟩ : ByteArray).size (ucells ⟨#[]⟩)) := Lib.hid (World.ownsRow_nil _ _ _ _)
  go_upto_region 11 with (at_builtin; refine wpList_catB wq rfl (.tmp 49) (.tmp 50) rfl wq.heap.size (.slice none 0 0) ⟨#[]⟩ rfl hown Ag cg gd rfl HVQ (by show 0 + gd.size ≤ _; omega) (Nat.le_refl _) ?_; intro v1 w4 h2 h3 h4; have HO4 := Lib.hid h2.out; have HB4 := Lib.hid h4.out; clear h2 h3 h4)
  obtain ⟨A1, c1, rfl, _⟩ := own_parts HO4.out
  have hT : (⟨#[]⟩ : ByteArray) ++ gd = gd := by apply ByteArray.ext; simp
  have ho4 := HO4.out
  rw [hT] at ho4 ⊢
  have hk4 := HK.out.below HB4.out
  obtain ⟨-, vf4, vs4, hb4, hf4, hs4⟩ := id hk4.is
  have c0 := hb4.cell 0
  simp only [List.getElem?_toArray, List.getElem?_cons_zero] at c0
  have hsum : (gd ++ b).size = gd.size + b.size := ByteArray.size_append
  have hucat : ucells gd ++ ucells b = ucells (gd ++ b) := by
    unfold ucells
    rw [ByteArray.data_append, Array.toList_append, List.map_append]
  have hbq4 : BtR w4 (.slice A' b.size c') b := HBQ.out.below HB4.out
  obtain ⟨A2', c2', he2, _, hrd⟩ := id hbq4
  injection he2 with e1 e2 e3
  subst e1 e3
  have hpl : p < wq.heap.size := HK.out.is.lt
  have htq : Forb.top ≤ wq.heap.size := Nat.le_trans ht hszq
  have hq45 : ∀ v5 w5, w5.ownsRow wq.heap.size 5 1 v5 (gd.size + b.size) (ucells gd ++ ucells b) → w4.drew.grownBy w5 (Value.slice A1 gd.size c1).ownBlock → ∃ A5 c5, v5 = .slice A5 (gd ++ b).size c5 ∧ BtO w5 (.slice A5 (gd ++ b).size c5) (gd ++ b) ∧ Below wq.heap.size w4 w5 ∧ w5.cell? ⟨p, 0, none⟩ = some vf4 := by
    intro v5 w5 h2 h3d
    have h3 : w4.grownBy w5 (Value.slice A1 gd.size c1).ownBlock := ⟨h3d.os, h3d.tape, h3d.output, h3d.size, h3d.block⟩
    rw [← hsum, hucat] at h2
    obtain ⟨A5, c5, rfl, _⟩ := own_parts h2
    have hb45 : Below wq.heap.size w4 w5 := (Below.refl _ w4).grown h3 HB4.out.size fun k hk => (ho4.lt k hk).1
    exact ⟨A5, c5, rfl, ⟨Bt.of_own h2, OkV.of_own h2 htq⟩, hb45, (hb45.cell (p := ⟨p, 0, none⟩) hpl).trans c0⟩
  have hwi : ∀ w5 A5 c5, Below wq.heap.size w4 w5 → BtO w5 (.slice A5 (gd ++ b).size c5) (gd ++ b) → Calls Tryz.prog 70 #[vf4, .string name, .slice A5 (gd ++ b).size c5] w5 fun e w' => ∃ A6 n6 c6 u, e = .returned (.slice A6 n6 c6) ∧ w'.cell? ⟨p, 0, none⟩ = some u ∧ w'.frozen? ⟨p, 0, none⟩ = false ∧ RkOut B w (w'.setCell ⟨p, 0, none⟩ (.slice A6 n6 c6)) p { R with files := wiP R.files name (gd ++ b) } := by
    intro w5 A5 c5 h45 hbt5
    have hk5 : RkOut B w w5 p R := HK.out.below (HB4.out.trans h45)
    obtain ⟨-, vf5, vs5, hb5, hf5, hs5⟩ := id hk5.is
    have hvf : vf4 = vf5 := by
      have x4 := (h45.cell (p := ⟨p, 0, none⟩) hpl).trans c0
      have x5 := hb5.cell 0
      rw [x4] at x5
      simpa using x5
    subst hvf
    refine (rwith_f hf5 name hbt5 HF.out.len).mono fun e w6 ⟨v6, he, hf6, hb6⟩ => ?_
    obtain ⟨A6, n6, c6, rfl⟩ := hf6.shape
    have hk6 := hk5.below hb6
    obtain ⟨vf6, vs6, hbx⟩ := hk6.is.blk
    exact ⟨A6, n6, c6, vf6, he, hbx.cell 0, hbx.frozen 0, hk6.trans (hk6.is.setF hf6)⟩
  obtain ⟨G, hG⟩ : ∃ G, gd ++ b = G := ⟨_, rfl⟩
  rw [hG] at hq45 hwi
  have hqg := HQ.out
  rw [hG] at hqg
  have HQ := Lib.hid hqg
  clear hG hqg
  obtain ⟨i0, hi0, hz0, hz1, hz2⟩ := parts infoU
  have hbs4 := HB4.out.size
  have HI0 := Lib.hid hi0; have HZ0 := Lib.hid hz0; have HQ45 := Lib.hid hq45; have HWI := Lib.hid hwi; have HO4b := Lib.hid ho4; have HRD := Lib.hid hrd; have HSUM := Lib.hid hsum
  clear hi0 hz0 hq45 hwi ho4 hrd hsum hucat hbq4 hT hk4 hb4 hf4 hs4 hown
  -- region 11
  refine wp_region_held_drew (S := (fun _ => True)) (by kernel_rfl) ?_ (fun hHeld => ?_)
  · exact trivial
  refine wpT (i := 0) (v := ?v0g1_) rfl (Or.inl ⟨by rfl, ?y0g1_⟩) (by assumption) ?r0g1_
  case y0g1_ => (intro w hSw; (try dsimp only at hSw); go_simp; try with_reducible rfl)
  change wpAnyH _ _ _ _ _ _ _ (Act.put _ (some 52) _) _; simp only [Act.put, List.setIfInBounds_toArray, List.set_cons_zero, List.set_cons_succ]
  refine wpT (i := 1) (v := ?v1g1_) rfl (Or.inl ⟨by rfl, ?y1g1_⟩) (by assumption) ?r1g1_
  case y1g1_ => (intro w hSw; (try dsimp only at hSw); go_simp; try with_reducible rfl)
  change wpAnyH _ _ _ _ _ _ _ (Act.put _ (some 53) _) _; simp only [Act.put, List.setIfInBounds_toArray, List.set_cons_zero, List.set_cons_succ]
  refine wpT (i := 2) (v := ?v2g1_) rfl (Or.inl ⟨by rfl, ?y2g1_⟩) (by assumption) ?r2g1_
  case y2g1_ => (intro w hSw; (try dsimp only at hSw); go_simp; try with_reducible rfl)
  change wpAnyH _ _ _ _ _ _ _ (Act.put _ (some 54) _) _; simp only [Act.put, List.setIfInBounds_toArray, List.set_cons_zero, List.set_cons_succ]
  refine wpT (i := 3) (v := ?v3g1_) rfl (Or.inl ⟨by rfl, ?y3g1_⟩) (by assumption) ?r3g1_
  case y3g1_ => (intro w hSw; (try dsimp only at hSw); go_simp; try with_reducible rfl)
  change wpAnyH _ _ _ _ _ _ _ (Act.put _ (some 55) _) _; simp only [Act.put, List.setIfInBounds_toArray, List.set_cons_zero, List.set_cons_succ]
  refine wpT (i := 5) (v := ?v5g1_) rfl (Or.inl ⟨by rfl, ?y5g1_⟩) (by assumption) ?r5g1_
  case y5g1_ => (intro w hSw; (try dsimp only at hSw); go_simp; try with_reducible rfl)
  change wpAnyH _ _ _ _ _ _ _ (Act.put _ (some 57) _) _; simp only [Act.put, List.setIfInBounds_toArray, List.set_cons_zero, List.set_cons_succ]
  refine wpT (i := 6) (v := ?v6g1_) rfl (Or.inl ⟨by rfl, ?y6g1_⟩) (by assumption) ?r6g1_
  case y6g1_ => (intro w hSw; (try dsimp only at hSw); go_simp; try with_reducible rfl)
  change wpAnyH _ _ _ _ _ _ _ (Act.put _ (some 58) _) _; simp only [Act.put, List.setIfInBounds_toArray, List.set_cons_zero, List.set_cons_succ]
  refine wpT (i := 7) (v := ?v7g1_) rfl (Or.inl ⟨by rfl, ?y7g1_⟩) (by assumption) ?r7g1_
  case y7g1_ => (intro w hSw; (try dsimp only at hSw); go_simp; try with_reducible rfl)
  change wpAnyH _ _ _ _ _ _ _ (Act.put _ (some 59) _) _; simp only [Act.put, List.setIfInBounds_toArray, List.set_cons_zero, List.set_cons_succ]
  refine wpAnyH_ready (rs := [4, 8]) (by kernel_rfl) (by simp) ?_
  refine AllReadyH.cons rfl (fun K hK => ?_) (AllReadyH.cons rfl (fun K hK => ?_) AllReadyH.nil)
  · go_simp
    refine hK.out _ _ ?_ (fun hHeld => ?_)
    · exact trivial
    clear hK K
    try simp only [Act.put, List.setIfInBounds_toArray, List.set_cons_zero, List.set_cons_succ]
    refine wpAnyH_ready (rs := [8]) (by kernel_rfl) (by simp) ?_
    refine AllReadyH.cons rfl (fun K hK => ?_) AllReadyH.nil
    refine step_append_any _ rfl (.tmp 58) (.tmp 59) 33 rfl wq.heap.size 5 i0 (.int .u8 0) 1 1 Tryz.underlying33 HI0.out HZ0.out hz1 hz2 rfl (by decide) (.slice A1 gd.size c1) gd.size (ucells gd) (by simp [Act.eval]) HO4b.out _ A' b.size c' (ucells b) (by simp [Act.eval]) HRD.out (ucells_one b) (by unfold maxLen; omega) (by omega) hbs4 ?_
    intro v5 w5 h2 h3 h4
    obtain ⟨A5, c5, rfl, hbt5, hb45, q5⟩ := HQ45.out v5 w5 h2 h3
    have HBT5 := Lib.hid hbt5; have HB45 := Lib.hid hb45
    clear h2 h3 h4 hbt5 hb45
    refine hK.out _ _ ?_ (fun hHeld => ?_)
    · exact trivial
    clear hK K
    try simp only [Act.put]
    refine wpAnyH_ready (rs := [9]) (by kernel_rfl) (by simp) ?_
    refine AllReadyH.cons rfl (fun K hK => ?_) AllReadyH.nil
    go_simp
    refine (HWI.out w5 A5 c5 HB45.out HBT5.out).mono ?_
    rintro e w6 ⟨A6, n6, c6, u6, rfl, x6, f6, ho6⟩
    have HO6 := Lib.hid ho6
    clear ho6
    dsimp only
    refine hK.out _ _ ?_ (fun hHeld => ?_)
    · exact trivial
    clear hK K
    try simp only [Act.put, List.setIfInBounds_toArray, List.set_cons_zero, List.set_cons_succ]
    refine wpT (i := 10) (v := ?v10g1_a) rfl (Or.inl ⟨by rfl, ?y10g1_a⟩) (by assumption) ?r10g1_a
    case y10g1_a => (intro w hSw; (try dsimp only at hSw); go_simp; try with_reducible rfl)
    change wpAnyH _ _ _ _ _ _ _ (Act.put _ (some 62) _) _; simp only [Act.put, List.setIfInBounds_toArray, List.set_cons_zero, List.set_cons_succ]
    refine wpT (i := 11) (v := ?v11g1_a) rfl (Or.inl ⟨by rfl, ?y11g1_a⟩) (by assumption) ?r11g1_a
    case y11g1_a => (intro w hSw; (try dsimp only at hSw); go_simp; try with_reducible rfl)
    change wpAnyH _ _ _ _ _ _ _ (Act.put _ (some 63) _) _; simp only [Act.put, List.setIfInBounds_toArray, List.set_cons_zero, List.set_cons_succ]
    refine wpAnyH_ready (rs := [12]) (by kernel_rfl) (by simp) ?_
    refine AllReadyH.cons rfl (fun K hK => ?_) AllReadyH.nil
    go_simp
    refine hK.out _ _ ?_ (fun hHeld => ?_)
    · exact trivial
    clear hK K
    try dsimp only [Act.put]
    refine wpAnyH_done (by kernel_rfl) ?_ _
    obtain ⟨w7, hw7⟩ : ∃ w7, w6.setCell ⟨p, 0, none⟩ (.slice A6 n6 c6) = w7 := ⟨_, rfl⟩
    rw [hw7] at HO6 ⊢
    clear hw7 x6 f6
    obtain ⟨ok, hok⟩ : ∃ ok, R.power.1 = ok := ⟨_, rfl⟩
    have hpw := rpower_p w7 B p { R with files := wiP R.files name G } HO6.out.is ⟨HF.out.done0, HF.out.done, HF.out.left0, HF.out.left⟩
    rw [show (RDisk.power { R with files := wiP R.files name G }).1 = ok from hok] at hpw
    have hq := HQ.out
    rw [hok] at hq
    have HPW := Lib.hid hpw; have HQ := Lib.hid hq
    clear hpw hq hok
    go_wp2_with fail
    refine HPW.out.mono ?_
    rintro e w8 ⟨rfl, ho8⟩
    have HO8 := Lib.hid (HO6.out.trans ho8)
    clear ho8 HPW
    cases ok
    all_goals
      go_wp2_with fail
      refine (ranswer_any _ _).mono ?_
      rintro e w9 ⟨rfl, rfl⟩
      go_wp2
      go_ret
      exact ⟨by rw [← HQ.out]; rfl, by rw [← HQ.out]; exact HO8.out⟩
  · refine step_append_any _ rfl (.tmp 58) (.tmp 59) 33 rfl wq.heap.size 5 i0 (.int .u8 0) 1 1 Tryz.underlying33 HI0.out HZ0.out hz1 hz2 rfl (by decide) (.slice A1 gd.size c1) gd.size (ucells gd) (by simp [Act.eval]) HO4b.out _ A' b.size c' (ucells b) (by simp [Act.eval]) HRD.out (ucells_one b) (by unfold maxLen; omega) (by omega) hbs4 ?_
    intro v5 w5 h2 h3 h4
    obtain ⟨A5, c5, rfl, hbt5, hb45, q5⟩ := HQ45.out v5 w5 h2 h3
    have HBT5 := Lib.hid hbt5; have HB45 := Lib.hid hb45
    clear h2 h3 h4 hbt5 hb45
    refine hK.out _ _ ?_ (fun hHeld => ?_)
    · exact trivial
    clear hK K
    try simp only [Act.put]
    refine wpAnyH_ready (rs := [4]) (by kernel_rfl) (by simp) ?_
    refine AllReadyH.cons rfl (fun K hK => ?_) AllReadyH.nil
    go_simp
    refine hK.out _ _ ?_ (fun hHeld => ?_)
    · exact trivial
    clear hK K
    try simp only [Act.put, List.setIfInBounds_toArray, List.set_cons_zero, List.set_cons_succ]
    refine wpAnyH_ready (rs := [9]) (by kernel_rfl) (by simp) ?_
    refine AllReadyH.cons rfl (fun K hK => ?_) AllReadyH.nil
    go_simp
    refine (HWI.out w5 A5 c5 HB45.out HBT5.out).mono ?_
    rintro e w6 ⟨A6, n6, c6, u6, rfl, x6, f6, ho6⟩
    have HO6 := Lib.hid ho6
    clear ho6
    dsimp only
    refine hK.out _ _ ?_ (fun hHeld => ?_)
    · exact trivial
    clear hK K
    try simp only [Act.put, List.setIfInBounds_toArray, List.set_cons_zero, List.set_cons_succ]
    refine wpT (i := 10) (v := ?v10g1_b) rfl (Or.inl ⟨by rfl, ?y10g1_b⟩) (by assumption) ?r10g1_b
    case y10g1_b => (intro w hSw; (try dsimp only at hSw); go_simp; try with_reducible rfl)
    change wpAnyH _ _ _ _ _ _ _ (Act.put _ (some 62) _) _; simp only [Act.put, List.setIfInBounds_toArray, List.set_cons_zero, List.set_cons_succ]
    refine wpT (i := 11) (v := ?v11g1_b) rfl (Or.inl ⟨by rfl, ?y11g1_b⟩) (by assumption) ?r11g1_b
    case y11g1_b => (intro w hSw; (try dsimp only at hSw); go_simp; try with_reducible rfl)
    change wpAnyH _ _ _ _ _ _ _ (Act.put _ (some 63) _) _; simp only [Act.put, List.setIfInBounds_toArray, List.set_cons_zero, List.set_cons_succ]
    refine wpAnyH_ready (rs := [12]) (by kernel_rfl) (by simp) ?_
    refine AllReadyH.cons rfl (fun K hK => ?_) AllReadyH.nil
    go_simp
    refine hK.out _ _ ?_ (fun hHeld => ?_)
    · exact trivial
    clear hK K
    try dsimp only [Act.put]
    refine wpAnyH_done (by kernel_rfl) ?_ _
    obtain ⟨w7, hw7⟩ : ∃ w7, w6.setCell ⟨p, 0, none⟩ (.slice A6 n6 c6) = w7 := ⟨_, rfl⟩
    rw [hw7] at HO6 ⊢
    clear hw7 x6 f6
    obtain ⟨ok, hok⟩ : ∃ ok, R.power.1 = ok := ⟨_, rfl⟩
    have hpw := rpower_p w7 B p { R with files := wiP R.files name G } HO6.out.is ⟨HF.out.done0, HF.out.done, HF.out.left0, HF.out.left⟩
    rw [show (RDisk.power { R with files := wiP R.files name G }).1 = ok from hok] at hpw
    have hq := HQ.out
    rw [hok] at hq
    have HPW := Lib.hid hpw; have HQ := Lib.hid hq
    clear hpw hq hok
    go_wp2_with fail
    refine HPW.out.mono ?_
    rintro e w8 ⟨rfl, ho8⟩
    have HO8 := Lib.hid (HO6.out.trans ho8)
    clear ho8 HPW
    cases ok
    all_goals
      go_wp2_with fail
      refine (ranswer_any _ _).mono ?_
      rintro e w9 ⟨rfl, rfl⟩
      go_wp2
      go_ret
      exact ⟨by rw [← HQ.out]; rfl, by rw [← HQ.out]; exact HO8.out⟩
  -- end of region 11
end
theorem rappend_any (w : World) (B p : Nat) (R : RDisk) (h : RkIs w B p R) (hf : RFit R) (name : ByteArray) (bv : Value) (b : ByteArray) (hbt : BtR w bv b) (hbs : b.size ≤ 1000000000) : Calls Tryz.prog 29 #[.pointer (some ⟨p, 0, none⟩), .string name, bv] w fun e w' => e = .returned (.int .i64 (R.append name b).1) ∧ RkOut B w w' p (R.append name b).2 :=
  rappend_anyF w B p R h hf (Nat.zero_le _) name bv b hbt hbs
end Go.Proofs.YthmcimpdehgaoaaGreatDoor
