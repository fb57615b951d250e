/- The reference's disk: both, Remove, Sync, Rename, Read. -/
import Derived.Test.YthmcimpdehgaoaaGreatDoorPk22
import Derived.Deep.DeepCutAuto
namespace Go.Proofs.YthmcimpdehgaoaaGreatDoor
open Go.RowKit Go.Maps

def lsP : List (ByteArray × ByteArray) → ByteArray → Nat
  | [], _ => 0
  | x :: r, t => if lessN x.1 t = true then lsP r t + 1 else 0
def wiP (l : List (ByteArray × ByteArray)) (t b : ByteArray) : List (ByteArray × ByteArray) := (woP l t).take (lsP (woP l t) t) ++ (t, b) :: (woP l t).drop (lsP (woP l t) t)
theorem lsP_map (rows : List RF) (t : ByteArray) : lsP (rows.map rpr) t = lsK rows t := by
  induction rows with
  | nil => rfl
  | cons x r ih => rw [List.map_cons, lsP, lsK, ih]; rfl
theorem wiR_map (rows : List RF) (x : RF) : (wiR rows x).map rpr = wiP (rows.map rpr) x.1 x.2.2 := by
  unfold wiR wiP
  rw [List.map_append, List.map_cons, List.map_take, List.map_drop, woR_map, ← lsP_map, woR_map]
  rfl
section
variable {w : World} {v : Value} {l : List (ByteArray × ByteArray)}
theorem rwithout_f [Forb] (h : RFs w v l) (t : ByteArray) (hl : l.length ≤ 100000000) :
    Calls Tryz.prog 98 #[v, .string t] w fun e w' => ∃ v', e = .returned v' ∧ RFs w' v' (woP l t) ∧ Below w.heap.size w w' := by
  obtain ⟨rows, hr, rfl⟩ := h
  rw [List.length_map] at hl
  exact (rwithout_any w v rows hr t hl).mono fun e w' ⟨v', he, hr', hb⟩ => ⟨v', he, ⟨_, hr', woR_map rows t⟩, hb⟩
theorem rwith_f [Forb] (h : RFs w v l) (t : ByteArray) {A' : Option Addr} {c' : Nat} {bb : ByteArray} (hbt : BtO w (.slice A' bb.size c') bb) (hl : l.length ≤ 100000000) :
    Calls Tryz.prog 70 #[v, .string t, .slice A' bb.size c'] w fun e w' => ∃ v', e = .returned v' ∧ RFs w' v' (wiP l t bb) ∧ Below w.heap.size w w' := by
  obtain ⟨rows, hr, rfl⟩ := h
  rw [List.length_map] at hl
  exact (rwith_any w v rows hr t A' c' bb hbt hl).mono fun e w' ⟨v', he, hr', hb⟩ => ⟨v', he, ⟨_, hr', wiR_map rows _⟩, hb⟩
end
section
variable {w w' w2 : World} {B p : Nat} {R R' : RDisk} {v : Value} {l : List (ByteArray × ByteArray)}
theorem RFs.shape [Forb] (h : RFs w v l) : ∃ A n c, v = .slice A n c := let ⟨_, ⟨A, c, e, _⟩, _⟩ := h; ⟨A, _, c, e⟩
theorem RkIs.setF [Forb] (h : RkIs w B p R) (hf : RFs w v l) : RkOut B w (w.setCell ⟨p, 0, none⟩ v) p { R with files := l } := by
  obtain ⟨-, vf, vs, hb, _, hs⟩ := id h
  exact h.put (R' := { R with files := l }) (Moved.set_ w p 0 none v) (hb.set_ 0 v) hf hs
theorem RkIs.setS [Forb] (h : RkIs w B p R) (hf : RFs w v l) : RkOut B w (w.setCell ⟨p, 1, none⟩ v) p { R with safe := l } := by
  obtain ⟨-, vf, vs, hb, hs, _⟩ := id h
  exact h.put (R' := { R with safe := l }) (Moved.set_ w p 1 none v) (hb.set_ 1 v) hs hf
theorem RkOut.below [Forb] (h : RkOut B w w' p R') (hb : Below w'.heap.size w' w2) : RkOut B w w2 p R' := ⟨h.is.below hb, h.moved.trans (Moved.of_below hb p none) (.inl rfl)⟩
theorem RkOut.bt [Forb] (h : RkOut B w w' p R') (h0 : RkIs w B p R) {bv : Value} {b : ByteArray} (hb : Bt w bv b) : Bt w' bv b := hb.keep fun blk cs fz hh => (h.keepF h0).2 blk cs _ fz (.inr rfl) hh
theorem RkOut.btO [Forb] (h : RkOut B w w' p R') (h0 : RkIs w B p R) {bv : Value} {b : ByteArray} (hb : BtO w bv b) : BtO w' bv b := ⟨h.bt h0 hb.1, hb.2⟩
end
theorem power_files_ (R : RDisk) : R.power.2.files = R.files ∧ R.power.2.safe = R.safe ∧ R.power.2.quota = R.quota := ⟨rfl, rfl, rfl⟩
def RDisk.both (R : RDisk) (name b : ByteArray) : Int × RDisk := if R.power.1 = true then (0, { R.power.2 with files := wiP R.files name b, safe := wiP R.safe name b }) else (160, R.power.2)
def RDisk.remove (R : RDisk) (name : ByteArray) : Int × RDisk :=
  if R.refused name name true ≠ 0 then (R.refused name name true, R)
  else if R.power.1 = true then (0, { R.power.2 with files := woP R.files name, safe := woP R.safe name }) else (160, R.power.2)
def RDisk.got (R : RDisk) (name : ByteArray) : ByteArray := (getP R.files name).getD ByteArray.empty
def RDisk.sync (R : RDisk) (name : ByteArray) : Int × RDisk := if R.refused name name true ≠ 0 then (R.refused name name true, R) else R.both name (R.got name)
def RDisk.rename (R : RDisk) (src dst : ByteArray) : Int × RDisk :=
  if R.refused src dst true ≠ 0 then (R.refused src dst true, R)
  else if (R.remove src).1 = 0 then (0, { (R.remove src).2 with files := wiP (R.remove src).2.files dst (R.got src), safe := wiP (R.remove src).2.safe dst (R.got src) }) else R.remove src
def RDisk.read (R : RDisk) (name : ByteArray) : Int × ByteArray := if R.refused name name true ≠ 0 then (R.refused name name true, ByteArray.empty) else (0, R.got name)
section
variable [Forb] (w : World) (B p : Nat) (R : RDisk) (h : RkIs w B p R) (hf : RFit R)
include h hf
set_option maxRecDepth 100000 in
set_option maxHeartbeats 4000000 in
theorem rboth_any (name : ByteArray) (bv : Value) (b : ByteArray) (hbt : BtO w bv b) : Calls Tryz.prog 74 #[.pointer (some ⟨p, 0, none⟩), .string name, bv] w fun e w' => e = .returned (.int .i64 (R.both name b).1) ∧ RkOut B w w' p (R.both name b).2 := by
  obtain ⟨A', c', rfl, -⟩ := id hbt.1
  have hpw := rpower_any w B p R h hf
  have hl1 := hf.len; have hl2 := hf.slen
  obtain ⟨q, hq⟩ : ∃ q, R.both name b = q := ⟨_, rfl⟩
  rw [hq]
  unfold RDisk.both at hq
  obtain ⟨ok, hok⟩ : ∃ ok, R.power.1 = ok := ⟨_, rfl⟩
  rw [hok] at hpw hq
  have HP := Lib.hid hpw; have HQ := Lib.hid hq; have H := Lib.hid h; have HBT := Lib.hid hbt
  clear hpw hq h hf hbt hok
  go_enter Tryz.func74, Tryz.ntmps74
  go_wp2_with fail
  refine HP.out.mono ?_
  rintro e w1 ⟨rfl, ho1⟩
  cases ok with
  | false =>
    have hq := HQ.out
    rw [if_neg (by simp)] at hq
    have HO := Lib.hid ho1; have HQ := Lib.hid hq
    clear ho1 hq
    go_wp2_with fail
    refine (ranswer_any _ _).mono ?_
    rintro e w2 ⟨rfl, rfl⟩
    go_wp2
    go_ret
    exact ⟨by rw [← HQ.out]; rfl, by rw [← HQ.out]; exact HO.out⟩
  | true =>
    have hq := HQ.out
    rw [if_pos rfl] at hq
    obtain ⟨-, vf, vs, hb1, hf1, hs1⟩ := id ho1.is
    have c0 := hb1.cell 0
    simp only [List.getElem?_toArray, List.getElem?_cons_zero] at c0
    have hw := rwith_f hf1 name (ho1.btO H.out HBT.out) hl1
    have HW := Lib.hid hw; have HO := Lib.hid ho1; have HQ := Lib.hid hq
    clear hw ho1 hq hb1 hf1 hs1 HP
    go_wp2_with fail
    refine HW.out.mono ?_
    rintro e w2 ⟨v2, rfl, hf2, hb2⟩
    obtain ⟨Av2, nv2, cv2, rfl⟩ := hf2.shape
    have ho2 := HO.out.below hb2
    have ho3 := ho2.trans (ho2.is.setF hf2)
    obtain ⟨vfx, vsx, hbx⟩ := ho2.is.blk
    have x0 := hbx.cell 0; have f0 := hbx.frozen 0
    simp only [List.getElem?_toArray, List.getElem?_cons_zero] at x0
    have HO3 := Lib.hid ho3
    clear ho2 ho3 hbx hf2 hb2 HW HO c0
    go_upto_region 4 with (fail)
    obtain ⟨w3, hw3⟩ : ∃ w3, w2.setCell ⟨p, 0, none⟩ (.slice Av2 nv2 cv2) = w3 := ⟨_, rfl⟩
    rw [hw3] at HO3 ⊢
    clear hw3 x0 f0
    obtain ⟨-, vf3, vs3, hb3, hf3, hs3⟩ := id HO3.out.is
    have c1 := hb3.cell 1
    simp only [List.getElem?_toArray, List.getElem?_cons_zero, List.getElem?_cons_succ] at c1
    have hw := rwith_f hs3 name (HO3.out.btO H.out HBT.out) hl2
    have HW := Lib.hid hw
    clear hw hb3 hf3 hs3
    go_wp2_with fail
    refine HW.out.mono ?_
    rintro e w4 ⟨v4, rfl, hf4, hb4⟩
    obtain ⟨Av4, nv4, cv4, rfl⟩ := hf4.shape
    have ho4 := HO3.out.below hb4
    have ho5 := ho4.trans (ho4.is.setS hf4)
    obtain ⟨vfx, vsx, hbx⟩ := ho4.is.blk
    have x1 := hbx.cell 1; have f1 := hbx.frozen 1
    simp only [List.getElem?_toArray, List.getElem?_cons_zero, List.getElem?_cons_succ] at x1
    have HO5 := Lib.hid ho5
    clear ho4 ho5 hbx hf4 hb4 HW HO3 c1
    go_upto_region 5 with (fail)
    obtain ⟨w5, hw5⟩ : ∃ w5, w4.setCell ⟨p, 1, none⟩ (.slice Av4 nv4 cv4) = w5 := ⟨_, rfl⟩
    rw [hw5] at HO5 ⊢
    clear hw5 x1 f1
    go_wp2_with fail
    refine (ranswer_any _ _).mono ?_
    rintro e w6 ⟨rfl, rfl⟩
    go_wp2
    go_ret
    exact ⟨by rw [← HQ.out]; rfl, by rw [← HQ.out]; exact HO5.out⟩
set_option maxRecDepth 100000 in
set_option maxHeartbeats 4000000 in
theorem rremove_any (name : ByteArray) : Calls Tryz.prog 58 #[.pointer (some ⟨p, 0, none⟩), .string name] w fun e w' => e = .returned (.int .i64 (R.remove name).1) ∧ RkOut B w w' p (R.remove name).2 := by
  have hrf := rrefused_any w B p R h hf name name true
  have hpw := rpower_any w B p R h hf
  have hl1 := hf.len; have hl2 := hf.slen
  obtain ⟨q, hq⟩ : ∃ q, R.remove name = q := ⟨_, rfl⟩
  rw [hq]
  unfold RDisk.remove at hq
  obtain ⟨E, hE⟩ : ∃ E, R.refused name name true = E := ⟨_, rfl⟩
  obtain ⟨ok, hok⟩ : ∃ ok, R.power.1 = ok := ⟨_, rfl⟩
  rw [hE] at hrf hq
  rw [hok] at hpw hq
  have HRF := Lib.hid hrf; have HP := Lib.hid hpw; have HQ := Lib.hid hq; have H := Lib.hid h
  clear hrf hpw hq h hf hok hE
  go_enter Tryz.func58, Tryz.ntmps58
  go_wp2_with fail
  refine HRF.out.mono ?_
  rintro e w' ⟨rfl, rfl⟩
  by_cases hE : E = 0
  case neg =>
    have hEb : (E != 0) = true := by simpa using hE
    have hq := HQ.out
    rw [if_pos hE] at hq
    have HQ := Lib.hid hq
    clear hq hE
    go_wp2
    go_ret
    exact ⟨by rw [← HQ.out]; rfl, by rw [← HQ.out]; exact RkOut.same H.out⟩
  subst hE
  have hq := HQ.out
  rw [if_neg (by simp)] at hq
  have HQ := Lib.hid hq
  clear hq
  go_wp2_with fail
  refine HP.out.mono ?_
  rintro e w1 ⟨rfl, ho1⟩
  cases ok with
  | false =>
    have hq := HQ.out
    rw [if_neg (by simp)] at hq
    have HO := Lib.hid ho1; have HQ := Lib.hid hq
    clear ho1 hq
    go_wp2_with fail
    refine (ranswer_any _ _).mono ?_
    rintro e w2 ⟨rfl, rfl⟩
    go_wp2
    go_ret
    exact ⟨by rw [← HQ.out]; rfl, by rw [← HQ.out]; exact HO.out⟩
  | true =>
    have hq := HQ.out
    rw [if_pos rfl] at hq
    obtain ⟨-, vf, vs, hb1, hf1, hs1⟩ := id ho1.is
    have c0 := hb1.cell 0
    simp only [List.getElem?_toArray, List.getElem?_cons_zero] at c0
    have hw := rwithout_f hf1 name hl1
    have HW := Lib.hid hw; have HO := Lib.hid ho1; have HQ := Lib.hid hq
    clear hw ho1 hq hb1 hf1 hs1 HP
    go_wp2_with fail
    refine HW.out.mono ?_
    rintro e w2 ⟨v2, rfl, hf2, hb2⟩
    obtain ⟨Av2, nv2, cv2, rfl⟩ := hf2.shape
    have ho2 := HO.out.below hb2
    have ho3 := ho2.trans (ho2.is.setF hf2)
    obtain ⟨vfx, vsx, hbx⟩ := ho2.is.blk
    have x0 := hbx.cell 0; have f0 := hbx.frozen 0
    simp only [List.getElem?_toArray, List.getElem?_cons_zero] at x0
    have HO3 := Lib.hid ho3
    clear ho2 ho3 hbx hf2 hb2 HW HO c0
    go_upto_region 7 with (fail)
    obtain ⟨w3, hw3⟩ : ∃ w3, w2.setCell ⟨p, 0, none⟩ (.slice Av2 nv2 cv2) = w3 := ⟨_, rfl⟩
    rw [hw3] at HO3 ⊢
    clear hw3 x0 f0
    obtain ⟨-, vf3, vs3, hb3, hf3, hs3⟩ := id HO3.out.is
    have c1 := hb3.cell 1
    simp only [List.getElem?_toArray, List.getElem?_cons_zero, List.getElem?_cons_succ] at c1
    have hw := rwithout_f hs3 name hl2
    have HW := Lib.hid hw
    clear hw hb3 hf3 hs3
    go_wp2_with fail
    refine HW.out.mono ?_
    rintro e w4 ⟨v4, rfl, hf4, hb4⟩
    obtain ⟨Av4, nv4, cv4, rfl⟩ := hf4.shape
    have ho4 := HO3.out.below hb4
    have ho5 := ho4.trans (ho4.is.setS hf4)
    obtain ⟨vfx, vsx, hbx⟩ := ho4.is.blk
    have x1 := hbx.cell 1; have f1 := hbx.frozen 1
    simp only [List.getElem?_toArray, List.getElem?_cons_zero, List.getElem?_cons_succ] at x1
    have HO5 := Lib.hid ho5
    clear ho4 ho5 hbx hf4 hb4 HW HO3 c1
    go_upto_region 8 with (fail)
    obtain ⟨w5, hw5⟩ : ∃ w5, w4.setCell ⟨p, 1, none⟩ (.slice Av4 nv4 cv4) = w5 := ⟨_, rfl⟩
    rw [hw5] at HO5 ⊢
    clear hw5 x1 f1
    go_wp2_with fail
    refine (ranswer_any _ _).mono ?_
    rintro e w6 ⟨rfl, rfl⟩
    go_wp2
    go_ret
    exact ⟨by rw [← HQ.out]; rfl, by rw [← HQ.out]; exact HO5.out⟩
set_option maxRecDepth 100000 in
set_option maxHeartbeats 4000000 in
theorem rsync_any (name : ByteArray) : Calls Tryz.prog 112 #[.pointer (some ⟨p, 0, none⟩), .string name] w fun e w' => e = .returned (.int .i64 (R.sync name).1) ∧ RkOut B w w' p (R.sync name).2 := by
  have hrf := rrefused_any w B p R h hf name name true
  obtain ⟨-, vf, vs, hb, hfl, -⟩ := id h
  have c0 := hb.cell 0
  simp only [List.getElem?_toArray, List.getElem?_cons_zero] at c0
  have hg := rget_any w vf R.files hfl hf.len name
  obtain ⟨q, hq⟩ : ∃ q, R.sync name = q := ⟨_, rfl⟩
  rw [hq]
  unfold RDisk.sync RDisk.got at hq
  obtain ⟨E, hE⟩ : ∃ E, R.refused name name true = E := ⟨_, rfl⟩
  obtain ⟨gs, hgs⟩ : ∃ gs, (getP R.files name).isSome = gs := ⟨_, rfl⟩
  obtain ⟨gd, hgd⟩ : ∃ gd, (getP R.files name).getD ByteArray.empty = gd := ⟨_, rfl⟩
  have hbo := rboth_any w B p R h hf name
  rw [hE] at hrf hq
  rw [hgs, hgd] at hg
  rw [hgd] at hq
  have HRF := Lib.hid hrf; have HG := Lib.hid hg; have HQ := Lib.hid hq; have H := Lib.hid h; have HBO := Lib.hid hbo
  clear hrf hg hq h hf hE hgs hgd hb hfl hbo
  go_enter Tryz.func112, Tryz.ntmps112
  go_wp2_with fail
  refine HRF.out.mono ?_
  rintro e w' ⟨rfl, rfl⟩
  by_cases hE : E = 0
  case neg =>
    have hEb : (E != 0) = true := by simpa using hE
    have hq := HQ.out
    rw [if_pos hE] at hq
    have HQ := Lib.hid hq
    clear hq hE
    go_wp2
    go_ret
    exact ⟨by rw [← HQ.out]; rfl, by rw [← HQ.out]; exact RkOut.same H.out⟩
  subst hE
  have hq := HQ.out
  rw [if_neg (by simp)] at hq
  have HQ := Lib.hid hq
  clear hq
  go_wp2_with fail
  refine HG.out.mono ?_
  rintro e w' ⟨gv, rfl, hgv, rfl⟩
  have HB2 := Lib.hid (HBO.out gv gd hgv)
  clear hgv
  go_wp2_with fail
  refine HB2.out.mono ?_
  rintro e w1 ⟨rfl, ho1⟩
  have HO := Lib.hid ho1
  clear ho1
  go_wp2
  go_ret
  exact ⟨by rw [← HQ.out]; rfl, by rw [← HQ.out]; exact HO.out⟩
set_option maxRecDepth 100000 in
set_option maxHeartbeats 4000000 in
theorem rread_any (name : ByteArray) : Calls Tryz.prog 97 #[.pointer (some ⟨p, 0, none⟩), .string name] w fun e w' => ∃ bv, e = .returned (.tuple #[bv, .int .i64 (R.read name).1]) ∧ Bt w bv (R.read name).2 ∧ w = w' := by
  have hrf := rrefused_any w B p R h hf name name true
  obtain ⟨-, vf, vs, hb, hfl, -⟩ := id h
  have c0 := hb.cell 0
  simp only [List.getElem?_toArray, List.getElem?_cons_zero] at c0
  have hg := rget_any w vf R.files hfl hf.len name
  obtain ⟨q, hq⟩ : ∃ q, R.read name = q := ⟨_, rfl⟩
  rw [hq]
  unfold RDisk.read RDisk.got at hq
  obtain ⟨E, hE⟩ : ∃ E, R.refused name name true = E := ⟨_, rfl⟩
  obtain ⟨gs, hgs⟩ : ∃ gs, (getP R.files name).isSome = gs := ⟨_, rfl⟩
  obtain ⟨gd, hgd⟩ : ∃ gd, (getP R.files name).getD ByteArray.empty = gd := ⟨_, rfl⟩
  rw [hE] at hrf hq
  rw [hgs, hgd] at hg
  rw [hgd] at hq
  have HRF := Lib.hid hrf; have HG := Lib.hid hg; have HQ := Lib.hid hq
  clear hrf hg hq h hf hE hgs hgd hb hfl
  go_enter Tryz.func97, Tryz.ntmps97
  go_wp2_with fail
  refine HRF.out.mono ?_
  rintro e w' ⟨rfl, rfl⟩
  by_cases hE : E = 0
  case neg =>
    have hEb : (E != 0) = true := by simpa using hE
    have hq := HQ.out
    rw [if_pos hE] at hq
    have HQ := Lib.hid hq
    clear hq hE
    go_wp2
    go_ret2
    exact ⟨.slice none 0 0, by rw [← HQ.out]; rfl, by rw [← HQ.out]; exact bt_nil _, rfl⟩
  subst hE
  have hq := HQ.out
  rw [if_neg (by simp)] at hq
  have HQ := Lib.hid hq
  clear hq
  go_wp2_with fail
  refine HG.out.mono ?_
  rintro e w' ⟨gv, rfl, hgv, rfl⟩
  have HV := Lib.hid hgv
  clear hgv
  go_wp2
  go_ret2
  exact ⟨gv, by rw [← HQ.out]; rfl, by rw [← HQ.out]; exact HV.out.1, rfl⟩
end
end Go.Proofs.YthmcimpdehgaoaaGreatDoor
