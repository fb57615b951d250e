/- The law InboxKnown: it answers true. -/
import Derived.Test.YtbmjmpojabbegaaLawOrder
namespace Go.Proofs.Ytbmjmpojabbegaa
open Go.RowKit

def lv : List (Int × Int) := [(3, 7), (1, 4), (3, 5), (0, 9), (511, 1), (3, 7), (2, 0), (1, 4611686018427387904)]
def ov : List (Int × Int) := [(-1, 3), (512, 3), (3, -5), (1099511627776, 1)] ++ lv
def ownV : List Int := [0, 1, 2, 3, 511, 3, 5, -1, 512]
theorem lv_len : lv.length = 8 := rfl
theorem ov_len : ov.length = 12 := rfl
theorem ownV_len : ownV.length = 9 := rfl
theorem lv_wf : ∀ x ∈ lv, (Lit.int .i64 x.1).wf = true := by decide
theorem ov_wf : ∀ x ∈ ov, (Lit.int .i64 x.1).wf = true := by decide
theorem ownV_wf : ∀ v ∈ ownV, (Lit.int .i64 v).wf = true := by decide
theorem up {wb wr w' : World} (hb : Below wb.heap.size wb wr) (h : Below wr.heap.size wr w') : Below wb.heap.size wb w' := hb.trans (h.mono hb.size)
section
variable (wb wr : World) (k s o d e' : Int) (A A2 : Option Addr) (c c2 : Nat)
theorem fold_law (n : Nat) (m : List (Int × Int)) (hn : m.length = n) (h : Rs msgC 2 wr A m) (hwm : ∀ x ∈ m, (Lit.int .i64 x.1).wf = true) (hb : Below wb.heap.size wb wr) :
    Calls Try.prog 3 #[.agg #[.int .u8 k, .int .i64 s, .int .i64 o, .int .i64 d, .int .i64 e'], .slice A n c] wr fun e w' => e = .returned (.bool true) ∧ Below wb.heap.size wb w' := by
  subst hn
  exact (lawFold_any wr k s o d e' A c m h hwm).mono fun e w' h => ⟨h.1, up hb h.2⟩
theorem split_law (n : Nat) (z : Int) (m : List (Int × Int)) (hn : m.length = n) (h : Rs msgC 2 wr A m) (hb : Below wb.heap.size wb wr) :
    Calls Try.prog 4 #[.slice A n c, .int .i64 z] wr fun e w' => e = .returned (.bool true) ∧ Below wb.heap.size wb w' := by
  subst hn
  exact (lawSplit_any wr A c z m h).mono fun e w' h => ⟨h.1, up hb h.2⟩
theorem order_law (n n2 : Nat) (cut turn z : Int) (own : List Int) (m : List (Int × Int)) (hn : own.length = n) (hn2 : m.length = n2) (h1 : Rs intC 1 wr A own) (h : Rs msgC 2 wr A2 m) (hc2 : n2 ≤ c2) (hwo : ∀ v ∈ own, (Lit.int .i64 v).wf = true) (hwm : ∀ x ∈ m, (Lit.int .i64 x.1).wf = true) (hz : 0 ≤ z ∧ z ≤ 255) (hb : Below wb.heap.size wb wr) :
    Calls Try.prog 6 #[.agg #[.int .u8 k, .int .i64 s, .int .i64 o, .int .i64 d, .int .i64 e'], .slice A n c, .slice A2 n2 c2, .int .i64 cut, .int .i64 turn, .int .u8 z] wr fun e w' => e = .returned (.bool true) ∧ Below wb.heap.size wb w' := by
  subst hn hn2
  exact (lawOrder_any wr k s o d e' cut turn z A A2 c c2 own m h1 h hc2 hwo hwm hz).mono fun e w' h => ⟨h.1, up hb h.2⟩
end
theorem RsRs.lit4 {w : World} {A B C : Option Addr} {l m p : List (Int × Int)} {a b c : Nat} (h : Rs msgC 2 w A l) (ha : l.length ≤ a) (h' : Rs msgC 2 w B m) (hb : m.length ≤ b) (h'' : Rs msgC 2 w C p) (hc : p.length ≤ c) (t : TypeId) : RsRs (w.alloc (.cells #[.slice A l.length a, .slice B m.length b, .slice none 0 0, .slice C p.length c] t)) (some ⟨w.heap.size, 0, none⟩) [l, m, [], p] := by
  refine ⟨_, Sl.new w [.slice A l.length a, .slice B m.length b, .slice none 0 0, .slice C p.length c] t 1 4 rfl _ rfl, fun i q hq => ?_⟩
  match i with
  | 0 => injection hq with hq; subst hq; exact ⟨_, _, rfl, ha, h.alloc _⟩
  | 1 => injection hq with hq; subst hq; exact ⟨_, _, rfl, hb, h'.alloc _⟩
  | 2 => injection hq with hq; subst hq; exact ⟨_, _, rfl, Nat.le_refl _, Rs.nil' _⟩
  | 3 => injection hq with hq; subst hq; exact ⟨_, _, rfl, hc, h''.alloc _⟩
  | i + 4 => simp at hq
theorem merge_law (wb wr : World) (k : Int) (A Ao : Option Addr) (AL : Option Addr) (c co i : Nat) (hi : i ≤ 8) (h1 : Rs intC 1 wr A ownV) (h : Rs msgC 2 wr Ao ov) (h2 : Rs msgC 2 wr AL lv) (hco : 12 ≤ co) (hb : Below wb.heap.size wb wr) (wx : World)
    (hx : wx = (wr.alloc (.cells #[.slice (cutA Ao co i 2) (12 - i) (co - i), .slice AL i 8, .slice none 0 0, .slice Ao 12 co] 24)).alloc (.cells #[.bool true, .int .i64 9] 43) ∨ wx = ((wr.alloc (.cells #[.slice (cutA Ao co i 2) (12 - i) (co - i), .slice AL i 8, .slice none 0 0, .slice Ao 12 co] 24)).alloc (.cells #[.bool true, .int .i64 9] 43)).drew) :
    Calls Try.prog 5 #[.agg #[.int .u8 k, .int .i64 0, .int .i64 0, .int .i64 0, .int .i64 0], .slice A 9 c, .slice (some ⟨wr.heap.size, 0, none⟩) 4 4, .slice (some ⟨wr.heap.size + 1, 0, none⟩) 1 1] wx fun e w' => e = .returned (.bool true) ∧ Below wb.heap.size wb w' := by
  have ht : (lv.take i).length = i := by rw [List.length_take, lv_len]; omega
  have hd : (ov.drop i).length = 12 - i := by rw [List.length_drop, ov_len]
  have hr := RsRs.lit4 (Rs.cut msgC_len h (c := co) (i := i) (by rw [ov_len]; exact hco)) (a := co - i) (by rw [hd]; omega) (Rs.take msgC_len h2 i) (b := 8) (by rw [ht]; exact hi) h (c := co) (by rw [ov_len]; exact hco) 24
  rw [ht, hd, ov_len] at hr
  have ha1 := (Below.refl wr.heap.size wr).alloc (Nat.le_refl _) (.cells #[.slice (cutA Ao co i 2) (12 - i) (co - i), .slice AL i 8, .slice none 0 0, .slice Ao 12 co] 24)
  have ha2 := ha1.alloc ha1.size (.cells #[.bool true, .int .i64 9] 43)
  have hm := Rs.lit mailC_len (wr.alloc (.cells #[.slice (cutA Ao co i 2) (12 - i) (co - i), .slice AL i 8, .slice none 0 0, .slice Ao 12 co] 24)) [(true, 9)] #[.bool true, .int .i64 9] 43 rfl (wr.heap.size + 1) (by simp)
  have hw : ∀ l ∈ [ov.drop i, lv.take i, [], ov], ∀ x ∈ l, (Lit.int .i64 x.1).wf = true := by
    simp only [List.mem_cons, List.not_mem_nil, or_false, forall_eq_or_imp, forall_eq]
    exact ⟨fun x hx => ov_wf x (List.mem_of_mem_drop hx), fun x hx => lv_wf x (List.mem_of_mem_take hx), by simp, ov_wf⟩
  have hc := lawMerge_any _ k 0 0 0 0 A (some ⟨wr.heap.size, 0, none⟩) (some ⟨wr.heap.size + 1, 0, none⟩) c 4 1 ownV [ov.drop i, lv.take i, [], ov] [(true, 9)] (h1.below ha2) (hr.below ((Below.refl _ _).alloc (Nat.le_refl _) _)) hm ownV_wf hw
  rcases hx with rfl | rfl
  · exact hc.mono fun e w' h => ⟨h.1, up (up hb ha2) h.2⟩
  · have hc := lawMerge_any _ k 0 0 0 0 A (some ⟨wr.heap.size, 0, none⟩) (some ⟨wr.heap.size + 1, 0, none⟩) c 4 1 ownV [ov.drop i, lv.take i, [], ov] [(true, 9)] (h1.below ha2).drew (RsRs.below (hr.below ((Below.refl _ _).alloc (Nat.le_refl _) _)) ((Below.refl _ _).drew)) hm.drew ownV_wf hw
    exact hc.mono fun e w' h => ⟨h.1, up (up hb ha2).drew h.2⟩
theorem merge_law2 (wb wr : World) (k : Int) (A Ao : Option Addr) (AL : Option Addr) (c co i : Nat) (hi : i ≤ 8) (h1 : Rs intC 1 wr A ownV) (h : Rs msgC 2 wr Ao ov) (h2 : Rs msgC 2 wr AL lv) (hco : 12 ≤ co) (hb : Below wb.heap.size wb wr) :
    Calls Try.prog 5 #[.agg #[.int .u8 k, .int .i64 0, .int .i64 0, .int .i64 0, .int .i64 0], .slice A 9 c, .slice (some ⟨wr.heap.size + 1, 0, none⟩) 4 4, .slice (some ⟨wr.heap.size, 0, none⟩) 1 1] ((wr.alloc (.cells #[.bool true, .int .i64 9] 43)).alloc (.cells #[.slice (cutA Ao co i 2) (12 - i) (co - i), .slice AL i 8, .slice none 0 0, .slice Ao 12 co] 24)) fun e w' => e = .returned (.bool true) ∧ Below wb.heap.size wb w' := by
  have ht : (lv.take i).length = i := by rw [List.length_take, lv_len]; omega
  have hd : (ov.drop i).length = 12 - i := by rw [List.length_drop, ov_len]
  have ha1 := (Below.refl wr.heap.size wr).alloc (Nat.le_refl _) (.cells #[.bool true, .int .i64 9] 43)
  have hm := Rs.lit mailC_len wr [(true, 9)] #[.bool true, .int .i64 9] 43 rfl wr.heap.size rfl
  have h' := h.below ha1
  have hr := RsRs.lit4 (Rs.cut msgC_len h' (c := co) (i := i) (by rw [ov_len]; exact hco)) (a := co - i) (by rw [hd]; omega) (Rs.take msgC_len (h2.below ha1) i) (b := 8) (by rw [ht]; exact hi) h' (c := co) (by rw [ov_len]; exact hco) 24
  rw [ht, hd, ov_len, show (wr.alloc (.cells #[.bool true, .int .i64 9] 43)).heap.size = wr.heap.size + 1 by simp] at hr
  have ha2 := ha1.alloc ha1.size (.cells #[.slice (cutA Ao co i 2) (12 - i) (co - i), .slice AL i 8, .slice none 0 0, .slice Ao 12 co] 24)
  have hw : ∀ l ∈ [ov.drop i, lv.take i, [], ov], ∀ x ∈ l, (Lit.int .i64 x.1).wf = true := by
    simp only [List.mem_cons, List.not_mem_nil, or_false, forall_eq_or_imp, forall_eq]
    exact ⟨fun x hx => ov_wf x (List.mem_of_mem_drop hx), fun x hx => lv_wf x (List.mem_of_mem_take hx), by simp, ov_wf⟩
  have hc := lawMerge_any _ k 0 0 0 0 A (some ⟨wr.heap.size + 1, 0, none⟩) (some ⟨wr.heap.size, 0, none⟩) c 4 1 ownV [ov.drop i, lv.take i, [], ov] [(true, 9)] (h1.below ha2) hr (hm.alloc _) ownV_wf hw
  exact hc.mono fun e w' h => ⟨h.1, up (up hb ha2) h.2⟩
theorem below_al2 {B : Nat} {a w : World} (h : Below B a w) (hB : B = a.heap.size) (o o' : Obj) : Below B a ((w.alloc o).alloc o') := below_al (below_al h hB o) hB o'
/-- a literal, as a row of the call's own -/
theorem own_lit (w : World) (base : Nat) (t : TypeId) (k n : Nat) (cs : Array Value) (hs : cs.size = n * k) (hb : base ≤ w.heap.size) (hn : n ≤ maxLen) : (w.alloc (.cells cs t)).ownsRow base t k (.slice (some ⟨w.heap.size, 0, none⟩) n n) n cs.toList := by
  refine ⟨by rw [Array.length_toList, hs], .inr ⟨w.heap.size, n, cs, rfl, hb, heap_alloc_new w _, Nat.le_refl _, hn, hs, ?_⟩⟩
  rw [← hs, ← Array.length_toList, List.take_length]
attribute [local go_sem ↓] Go.wp_at_zero Go.wp_at_succ
set_option maxRecDepth 100000 in
set_option maxHeartbeats 32000000 in
theorem lawKnown_any (w : World) : Calls Try.prog 7 #[] w fun e w' => e = .returned (.bool true) ∧ Below w.heap.size w w' := by
  obtain ⟨j0, hj0, hy0, hy1, hy2, -⟩ := parts infoM
  have hl0 := Rs.lit msgC_len w lv #[.int .i64 3, .int .i64 7, .int .i64 1, .int .i64 4, .int .i64 3, .int .i64 5, .int .i64 0, .int .i64 9, .int .i64 511, .int .i64 1, .int .i64 3, .int .i64 7, .int .i64 2, .int .i64 0, .int .i64 1, .int .i64 4611686018427387904] 29 rfl w.heap.size rfl
  have hb0 := (Below.refl w.heap.size w).alloc (Nat.le_refl _) (.cells #[.int .i64 3, .int .i64 7, .int .i64 1, .int .i64 4, .int .i64 3, .int .i64 5, .int .i64 0, .int .i64 9, .int .i64 511, .int .i64 1, .int .i64 3, .int .i64 7, .int .i64 2, .int .i64 0, .int .i64 1, .int .i64 4611686018427387904] 29)
  go_enter Try.func7, Try.ntmps7
  go_upto_region 2 with (fail)
  obtain ⟨w1, hw1⟩ : ∃ w1, w1 = w.alloc (.cells #[.int .i64 3, .int .i64 7, .int .i64 1, .int .i64 4, .int .i64 3, .int .i64 5, .int .i64 0, .int .i64 9, .int .i64 511, .int .i64 1, .int .i64 3, .int .i64 7, .int .i64 2, .int .i64 0, .int .i64 1, .int .i64 4611686018427387904] 29) := ⟨_, rfl⟩
  rw [← hw1] at hl0 hb0 ⊢
  clear hw1
  have ho := own_lit w1 w1.heap.size 29 2 4 #[.int .i64 (-1), .int .i64 3, .int .i64 512, .int .i64 3, .int .i64 3, .int .i64 (-5), .int .i64 1099511627776, .int .i64 1] rfl (Nat.le_refl _) (by decide)
  have hl1 := hl0.alloc (.cells #[.int .i64 (-1), .int .i64 3, .int .i64 512, .int .i64 3, .int .i64 3, .int .i64 (-5), .int .i64 1099511627776, .int .i64 1] 29)
  have hn8 : (8 : Nat) = lv.length := rfl
  have HO := Lib.hid ho; have HL0 := Lib.hid hl0; have HB0 := Lib.hid hb0; have HJ0 := Lib.hid hj0; have HY0 := Lib.hid hy0
  have HL1 : Hid (Sl (w1.alloc (.cells #[.int .i64 (-1), .int .i64 3, .int .i64 512, .int .i64 3, .int .i64 3, .int .i64 (-5), .int .i64 1099511627776, .int .i64 1] 29)) 2 (some ⟨w.heap.size, 0, none⟩) 8 (rcs msgC lv)) := Lib.hid hl1
  clear ho hl0 hb0 hj0 hy0 hl1 hn8
  go_upto_region 3 with (at_builtin; refine wpList_cat _ rfl (.tmp 20) (.tmp 21) 24 rfl w1.heap.size 29 j0 (.agg #[.int .i64 0, .int .i64 0]) 2 16 Try.underlying24 HJ0.out HY0.out hy1 hy2 rfl (by decide) (by decide) _ 4 _ rfl HO _ 8 _ (rcs msgC lv) rfl HL1 (msgC_one _) (by decide) (by simp) ?_; intro v2 w2 h2 h3 h4; have HO2 := Lib.hid h2.out; have HB2 := Lib.hid h4.out; clear h2 h3 h4)
  have ho2 : w2.ownsRow w1.heap.size 29 2 v2 12 (rcs msgC ov) := HO2.out
  obtain ⟨Ao, co, rfl, hco⟩ := own_parts ho2
  have ro2 : Rs msgC 2 w2 Ao ov := Sl.of_own (n := 12) ho2
  have hb2 := ((Below.refl w1.heap.size w1).alloc (Nat.le_refl _) _).trans HB2.out
  have rl2 := HL0.out.below hb2
  have hb02 := HB0.out.trans (hb2.mono HB0.out.size)
  have rw3 := Rs.lit intC_len w2 ownV #[.int .i64 0, .int .i64 1, .int .i64 2, .int .i64 3, .int .i64 511, .int .i64 3, .int .i64 5, .int .i64 (-1), .int .i64 512] 3 rfl w2.heap.size rfl
  have ro3 := ro2.alloc (.cells #[.int .i64 0, .int .i64 1, .int .i64 2, .int .i64 3, .int .i64 511, .int .i64 3, .int .i64 5, .int .i64 (-1), .int .i64 512] 3)
  have rl3 := rl2.alloc (.cells #[.int .i64 0, .int .i64 1, .int .i64 2, .int .i64 3, .int .i64 511, .int .i64 3, .int .i64 5, .int .i64 (-1), .int .i64 512] 3)
  have hb3 := hb02.alloc hb02.size (.cells #[.int .i64 0, .int .i64 1, .int .i64 2, .int .i64 3, .int .i64 511, .int .i64 3, .int .i64 5, .int .i64 (-1), .int .i64 512] 3)
  clear ho2 ro2 hb2 rl2 hb02 HO2 HB2 HO HL0 HB0 HL1
  go_upto_region 4 with (fail)
  obtain ⟨w3, hw3⟩ : ∃ w3, w3 = w2.alloc (.cells #[.int .i64 0, .int .i64 1, .int .i64 2, .int .i64 3, .int .i64 511, .int .i64 3, .int .i64 5, .int .i64 (-1), .int .i64 512] 3) := ⟨_, rfl⟩
  obtain ⟨gi, hgi⟩ : ∃ gi, gi = w2.heap.size := ⟨_, rfl⟩
  rw [← hw3] at rw3 ro3 rl3 hb3 ⊢
  rw [← hgi] at rw3 ⊢
  revert rl3
  generalize (some (⟨w.heap.size, 0, none⟩ : Addr)) = AL
  intro rl3
  have RI := Lib.hid rw3; have RO := Lib.hid ro3; have RL := Lib.hid rl3; have HB3 := Lib.hid hb3
  clear rw3 ro3 rl3 hb3 hw3 hgi
  go_wp2
  go_loopg [4] 5 (fun gf vi wr => ∃ kd : Nat, vi = .int .u8 kd ∧ kd + gf = 5 ∧ Below w3.heap.size w3 wr)
  case atStart => exact ⟨0, rfl, by omega, Below.refl _ _⟩
  case round =>
    obtain ⟨kd, rfl, hkd, hBk⟩ := hrel
    cases gk with
    | zero =>
      obtain rfl : kd = 5 := by omega
      have HBX := Lib.hid hBk
      have hc := lawMerge_any wr 2 0 0 0 0 none none none 0 0 0 [] [] [] (Rs.nil' _) ⟨[], Sl.nil' _, by simp⟩ (Rs.nil' _) (by simp) (by simp)
      have HC := Lib.hid hc
      clear hc hBk
      go_wp2_with fail
      refine HC.out.mono ?_
      clear HC
      rintro e w6 ⟨rfl, hb6⟩
      have hb6' := up HBX.out hb6
      have i7 := Rs.lit intC_len w6 [1] #[.int .i64 1] 3 rfl w6.heap.size rfl
      have m7 := Rs.lit mailC_len (w6.alloc (.cells #[.int .i64 1] 3)) [(false, 4)] #[.bool false, .int .i64 4] 43 rfl (w6.heap.size + 1) (by simp)
      have hc := lawMerge_any _ 2 0 0 0 0 (some ⟨w6.heap.size, 0, none⟩) none (some ⟨w6.heap.size + 1, 0, none⟩) 1 0 1 [1] [] [(false, 4)] (i7.alloc (.cells #[.bool false, .int .i64 4] 43)) ⟨[], Sl.nil' _, by simp⟩ m7 (by decide) (by simp)
      have hb8 := below_al2 hb6' rfl (.cells #[.int .i64 1] 3) (.cells #[.bool false, .int .i64 4] 43)
      have HC := Lib.hid hc; have HB8 := Lib.hid hb8
      clear hc hb6 hb6' i7 m7 hb8 HBX
      go_wp2_with fail
      refine HC.out.mono ?_
      clear HC
      rintro e w9 ⟨rfl, hb9⟩
      have hb9' := up HB8.out hb9
      have HC := Lib.hid (order_law w9 w9 1 0 0 0 0 (some ⟨gi, 0, none⟩) none 9 0 9 0 0 0 0 ownV [] ownV_len rfl (RI.out.below hb9') (Rs.nil' _) (Nat.le_refl _) ownV_wf (by simp) (by omega) (Below.refl _ _))
      have HB9 := Lib.hid hb9'
      clear hb9 hb9' HB8
      go_wp2_with fail
      refine HC.out.mono ?_
      clear HC
      rintro e w10 ⟨rfl, hb10⟩
      have HB10 := Lib.hid (up HB9.out hb10)
      clear hb10 HB9
      go_wp2_with fail
      refine (works_any _).mono ?_
      rintro e w11 ⟨rfl, hb11⟩
      have HB11 := Lib.hid (HB3.out.trans ((up HB10.out hb11).mono HB3.out.size))
      clear hb11 HB10
      go_wp2
      go_ret
      exact ⟨rfl, HB11.out⟩
    | succ gf =>
      have hkdI : (kd : Int) < 5 := by omega
      have hj4 := JobAt.made wr 23 kd 0 0 0 0
      have hb4 := job_below wr 23 #[.int .u8 kd, .int .i64 0, .int .i64 0, .int .i64 0, .int .i64 0]
      go_wp2
      obtain ⟨w4, hw4⟩ : ∃ w4, w4 = wr.alloc (.cells #[.int .u8 kd, .int .i64 0, .int .i64 0, .int .i64 0, .int .i64 0] 23) := ⟨_, rfl⟩
      have hgj : wr.heap.size < w4.heap.size := by rw [hw4]; simp
      rw [← hw4] at hj4 hb4 ⊢
      clear hw4
      have hb34 := up hBk hb4
      revert hj4 hgj
      generalize wr.heap.size = gj
      intro hj4 hgj
      have HJ4 := Lib.hid hj4; have HB4 := Lib.hid hb34
      clear hj4 hb4 hb34 hBk
      go_loopg [6] 9 (fun gf vi wr => ∃ i : Nat, vi = .int .i64 i ∧ i + gf = 9 ∧ Below w4.heap.size w4 wr)
      case atStart => exact ⟨0, rfl, by omega, Below.refl _ _⟩
      case round =>
        obtain ⟨i, rfl, hi, hB5⟩ := hrel
        cases gk with
        | zero =>
          obtain rfl : i = 9 := by omega
          have HB5 := Lib.hid (up HB4.out hB5)
          clear hB5
          go_wp2
          go_roundg gf
          case measure => omega
          case rel => exact ⟨kd + 1, by go_num, by omega, HB5.out⟩
        | succ gi9 =>
          have hiI : (i : Int) ≤ 8 := by omega
          obtain ⟨w5, rfl⟩ : ∃ w5 : World, w5 = wr := ⟨_, rfl⟩
          have ri := RI.out.below (up HB4.out hB5)
          have ro := RO.out.below (up HB4.out hB5)
          have rl := RL.out.below (up HB4.out hB5)
          have hjx : ∀ wr, Below w5.heap.size w5 wr → JobAt wr gj kd 0 0 0 0 := fun wr hb => (HJ4.out.below hB5 hgj).below hb (Nat.lt_of_lt_of_le hgj hB5.size)
          have e1 : ∀ w, (Instr.sliceAt 24 (.slice Ao 12 co) none (some (.int .i64 ((i : Int) + 4))) none).run Try.prog w = .ok (.slice Ao (i + 4) co) w := fun w => (run_sliceAt_slice w _ _ _ _ _ (by rw [show Try.prog.elem 24 = 29 by kernel_rfl]; exact Try.underlying24)).trans (run_upto Try.underlying24 HJ0.out Ao 12 co (i + 4) (by omega) w)
          have e2 : ∀ w, (Instr.sliceAt 24 (.slice AL 8 8) (some (.int .i64 (i : Int))) none none).run Try.prog w = .ok (.slice (cutA AL 8 i 2) (8 - i) (8 - i)) w := fun w => (run_sliceAt_slice w _ _ _ _ _ (by rw [show Try.prog.elem 24 = 29 by kernel_rfl]; exact Try.underlying24)).trans (run_from Try.underlying24 HJ0.out AL 8 8 i 2 hy1 (by omega) w)
          have e3 : ∀ w, (Instr.sliceAt 24 (.slice Ao 12 co) (some (.int .i64 (i : Int))) none none).run Try.prog w = .ok (.slice (cutA Ao co i 2) (12 - i) (co - i)) w := fun w => (run_sliceAt_slice w _ _ _ _ _ (by rw [show Try.prog.elem 24 = 29 by kernel_rfl]; exact Try.underlying24)).trans (run_from Try.underlying24 HJ0.out Ao 12 co i 2 hy1 (by omega) w)
          have e4 : ∀ w, (Instr.sliceAt 24 (.slice AL 8 8) none (some (.int .i64 (i : Int))) none).run Try.prog w = .ok (.slice AL i 8) w := fun w => (run_sliceAt_slice w _ _ _ _ _ (by rw [show Try.prog.elem 24 = 29 by kernel_rfl]; exact Try.underlying24)).trans (run_upto Try.underlying24 HJ0.out AL 8 8 i (by omega) w)
          have HL1 := Lib.hid (fun wr (hb : Below w5.heap.size w5 wr) => fold_law w5 wr kd 0 0 0 0 Ao co (i + 4) (ov.take (i + 4)) (by rw [List.length_take, ov_len]; omega) (Rs.take msgC_len (ro.below hb) _) (fun x hx => ov_wf x (List.mem_of_mem_take hx)) hb)
          have HL2 := Lib.hid (fun wr (hb : Below w5.heap.size w5 wr) => fold_law w5 wr kd 0 0 0 0 (cutA AL 8 i 2) (8 - i) (8 - i) (lv.drop i) (by rw [List.length_drop, lv_len]) (Rs.cut msgC_len (rl.below hb) (by rw [lv_len]; exact Nat.le_refl _)) (fun x hx => lv_wf x (List.mem_of_mem_drop hx)) hb)
          have HL3 := Lib.hid (fun wr (hb : Below w5.heap.size w5 wr) z => split_law w5 wr Ao co 12 z ov ov_len (ro.below hb) hb)
          have HL4 := Lib.hid (fun wr (hb : Below w5.heap.size w5 wr) => merge_law w5 wr kd (some ⟨gi, 0, none⟩) Ao AL 9 co i (by omega) (ri.below hb) (ro.below hb) (rl.below hb) hco hb _ (.inl rfl))
          have HL6 := Lib.hid (fun wr (hb : Below w5.heap.size w5 wr) => merge_law2 w5 wr kd (some ⟨gi, 0, none⟩) Ao AL 9 co i (by omega) (ri.below hb) (ro.below hb) (rl.below hb) hco hb)
          have HL5 := Lib.hid (fun wr (hb : Below w5.heap.size w5 wr) => order_law w5 wr kd 0 0 0 0 (some ⟨gi, 0, none⟩) AL 9 8 9 8 i ((i : Int) * 3) ((i : Int) * 7) ownV lv ownV_len lv_len (ri.below hb) (rl.below hb) (Nat.le_refl _) ownV_wf lv_wf (by omega) hb)
          have HJX := Lib.hid hjx; have HB5 := Lib.hid hB5
          clear ri ro rl hjx hB5
          have HBX := Lib.hid (Below.refl w5.heap.size w5)
          have v1 : IntKind.i64.wrap ((i : Int) + 4) = (i : Int) + 4 := IntWalk.i64_in _ (by omega)
          have v2 : IntKind.i64.wrap ((i : Int) * 9) = (i : Int) * 9 := IntWalk.i64_in _ (by omega)
          have v3 : IntKind.i64.wrap ((i : Int) - 1) = (i : Int) - 1 := IntWalk.i64_in _ (by omega)
          have v4 : IntKind.i64.wrap ((i : Int) * 3) = (i : Int) * 3 := IntWalk.i64_in _ (by omega)
          have v5 : IntKind.i64.wrap ((i : Int) * 7) = (i : Int) * 7 := IntWalk.i64_in _ (by omega)
          have v6 : IntKind.u8.wrap ((i : Int) * 7) = (i : Int) * 7 := IntWalk.u8_in _ (by omega)
          by_cases hk : 0 < (kd : Int) ∧ (kd : Int) < 4
          · obtain ⟨hk1, hk2⟩ := hk
            have hk1n : 0 < kd := by omega
            have hk3 : decide (0 < (kd : Int)) = true := decide_eq_true hk1
            have hk4 : decide ((kd : Int) < 4) = true := decide_eq_true hk2
            have hk5 : decide (0 < kd) = true := decide_eq_true hk1n
            go_wp2
            dsimp only [List.append]
            go_region_held3 (fun w' => w'.cell? ⟨gj, 0, none⟩ = some (.int .u8 kd) ∧ w'.cell? ⟨gj, 1, none⟩ = some (.int .i64 0) ∧ w'.cell? ⟨gj, 2, none⟩ = some (.int .i64 0) ∧ w'.cell? ⟨gj, 3, none⟩ = some (.int .i64 0) ∧ w'.cell? ⟨gj, 4, none⟩ = some (.int .i64 0)) (first | exact HJX.out _ HBX.out | exact HJX.out _ HBX.out.drew | exact HJX.out _ (below_al HBX.out rfl _) | exact HJX.out _ (below_al HBX.out.drew rfl _) | exact HJX.out _ (below_al2 HBX.out rfl _ _) | exact HJX.out _ (below_al2 HBX.out.drew rfl _ _)) (first | (go_at_call 3; (with_reducible refine (HL1.out _ (by first | exact HBX.out | exact HBX.out.drew | exact below_drewN HBX.out _)).mono ?_); rintro e w6 ⟨rfl, hb6⟩; have HBX := Lib.hid hb6; clear hb6) | (go_at_call 3; (with_reducible refine (HL2.out _ (by first | exact HBX.out | exact HBX.out.drew | exact below_drewN HBX.out _)).mono ?_); rintro e w6 ⟨rfl, hb6⟩; have HBX := Lib.hid hb6; clear hb6) | (go_at_call 4; (with_reducible refine (HL3.out _ (by first | exact HBX.out | exact HBX.out.drew | exact below_drewN HBX.out _) _).mono ?_); rintro e w6 ⟨rfl, hb6⟩; have HBX := Lib.hid hb6; clear hb6) | (go_at_call 5; (with_reducible refine (HL4.out _ HBX.out).mono ?_); rintro e w6 ⟨rfl, hb6⟩; have HBX := Lib.hid hb6; clear hb6) | (go_at_call 5; (with_reducible refine (HL6.out _ HBX.out).mono ?_); rintro e w6 ⟨rfl, hb6⟩; have HBX := Lib.hid hb6; clear hb6) | (go_at_call 6; (with_reducible refine (HL5.out _ (by first | exact HBX.out | exact HBX.out.drew | exact below_drewN HBX.out _)).mono ?_); rintro e w6 ⟨rfl, hb6⟩; have HBX := Lib.hid hb6; clear hb6))
            all_goals (go_wp2; go_roundg gi9)
            all_goals first | omega | exact ⟨i + 1, by go_num, by omega, by first | exact up HB5.out HBX.out | exact up HB5.out HBX.out.drew⟩
          · have hk04 : kd = 0 ∨ kd = 4 := by omega
            rcases hk04 with rfl | rfl
            · go_wp2
              dsimp only [List.append]
              refine wp_region_noPanic ?_
              refine wp_region_held_drew (S := (fun w' => w'.cell? ⟨gj, 0, none⟩ = some (.int .u8 0) ∧ w'.cell? ⟨gj, 1, none⟩ = some (.int .i64 0) ∧ w'.cell? ⟨gj, 2, none⟩ = some (.int .i64 0) ∧ w'.cell? ⟨gj, 3, none⟩ = some (.int .i64 0) ∧ w'.cell? ⟨gj, 4, none⟩ = some (.int .i64 0))) (by kernel_rfl) ?_ (fun hHeld => ?_)
              · exact HJX.out _ HBX.out.drew
              refine wpAnyH_take (i := 0) (v := ?v0k0) rfl (by kernel_rfl) (by kernel_rfl) (by kernel_rfl) (fun _ _ _ h => h) (Or.inl ⟨by rfl, ?y0k0⟩) (by assumption) ?r0k0
              case y0k0 => (intro w hSw; (try dsimp only at hSw); go_simp; try with_reducible rfl)
              change wpAnyH _ _ _ _ _ _ _ (Act.put _ (some 36) _) _; simp only [Act.put, List.setIfInBounds_toArray, List.set_cons_zero, List.set_cons_succ]
              refine wpAnyH_take (i := 1) (v := ?v1k0) rfl (by kernel_rfl) (by kernel_rfl) (by kernel_rfl) (fun _ _ _ h => h) (Or.inl ⟨by rfl, ?y1k0⟩) (by assumption) ?r1k0
              case y1k0 => (intro w hSw; (try dsimp only at hSw); go_simp; try with_reducible rfl)
              change wpAnyH _ _ _ _ _ _ _ (Act.put _ (some 37) _) _; simp only [Act.put, List.setIfInBounds_toArray, List.set_cons_zero, List.set_cons_succ]
              refine wpAnyH_take (i := 2) (v := ?v2k0) rfl (by kernel_rfl) (by kernel_rfl) (by kernel_rfl) (fun _ _ _ h => h) (Or.inl ⟨by rfl, ?y2k0⟩) (by assumption) ?r2k0
              case y2k0 => (intro w hSw; (try dsimp only at hSw); go_simp; try with_reducible rfl)
              change wpAnyH _ _ _ _ _ _ _ (Act.put _ (some 38) _) _; simp only [Act.put, List.setIfInBounds_toArray, List.set_cons_zero, List.set_cons_succ]
              refine wpAnyH_take (i := 3) (v := ?v3k0) rfl (by kernel_rfl) (by kernel_rfl) (by kernel_rfl) (fun _ _ _ h => h) (Or.inl ⟨by rfl, ?y3k0⟩) (by assumption) ?r3k0
              case y3k0 => (intro w hSw; (try dsimp only at hSw); go_simp; try with_reducible rfl)
              change wpAnyH _ _ _ _ _ _ _ (Act.put _ (some 39) _) _; simp only [Act.put, List.setIfInBounds_toArray, List.set_cons_zero, List.set_cons_succ]
              refine wpAnyH_take (i := 4) (v := ?v4k0) rfl (by kernel_rfl) (by kernel_rfl) (by kernel_rfl) (fun _ _ _ h => h) (Or.inl ⟨by rfl, ?y4k0⟩) (by assumption) ?r4k0
              case y4k0 => (intro w hSw; (try dsimp only at hSw); go_simp; try with_reducible rfl)
              change wpAnyH _ _ _ _ _ _ _ (Act.put _ (some 40) _) _; simp only [Act.put, List.setIfInBounds_toArray, List.set_cons_zero, List.set_cons_succ]
              refine wpAnyH_ready (rs := [5]) (by kernel_rfl) (by simp) ?_
              refine AllReadyH.cons rfl (fun K hK => ?_) AllReadyH.nil
              go_simp
              go_at_call 3
              refine (HL1.out _ HBX.out.drew).mono ?_
              rintro e w6 ⟨rfl, hb6⟩
              have HBX := Lib.hid hb6
              clear hb6
              dsimp only
              refine hK.out _ _ ?_ (fun hHeld => ?_)
              · exact HJX.out _ HBX.out
              clear hK K
              refine wpAnyH_take (i := 6) (v := ?v6k0) rfl (by kernel_rfl) (by kernel_rfl) (by kernel_rfl) (fun _ _ _ h => h) (Or.inl ⟨by rfl, ?y6k0⟩) (by assumption) ?r6k0
              case y6k0 => (intro w hSw; (try dsimp only at hSw); go_simp; try with_reducible rfl)
              change wpAnyH _ _ _ _ _ _ _ (Act.put _ (some 42) _) _; simp only [Act.put, List.setIfInBounds_toArray, List.set_cons_zero, List.set_cons_succ]
              refine wpAnyH_take (i := 7) (v := ?v7k0) rfl (by kernel_rfl) (by kernel_rfl) (by kernel_rfl) (fun _ _ _ h => h) (Or.inl ⟨by rfl, ?y7k0⟩) (by assumption) ?r7k0
              case y7k0 => (intro w hSw; (try dsimp only at hSw); go_simp; try with_reducible rfl)
              change wpAnyH _ _ _ _ _ _ _ (Act.put _ (some 43) _) _; simp only [Act.put, List.setIfInBounds_toArray, List.set_cons_zero, List.set_cons_succ]
              refine wpAnyH_take (i := 8) (v := ?v8k0) rfl (by kernel_rfl) (by kernel_rfl) (by kernel_rfl) (fun _ _ _ h => h) (Or.inl ⟨by rfl, ?y8k0⟩) (by assumption) ?r8k0
              case y8k0 => (intro w hSw; (try dsimp only at hSw); go_simp; try with_reducible rfl)
              change wpAnyH _ _ _ _ _ _ _ (Act.put _ (some 44) _) _; simp only [Act.put, List.setIfInBounds_toArray, List.set_cons_zero, List.set_cons_succ]
              refine wpAnyH_take (i := 9) (v := ?v9k0) rfl (by kernel_rfl) (by kernel_rfl) (by kernel_rfl) (fun _ _ _ h => h) (Or.inl ⟨by rfl, ?y9k0⟩) (by assumption) ?r9k0
              case y9k0 => (intro w hSw; (try dsimp only at hSw); go_simp; try with_reducible rfl)
              change wpAnyH _ _ _ _ _ _ _ (Act.put _ (some 45) _) _; simp only [Act.put, List.setIfInBounds_toArray, List.set_cons_zero, List.set_cons_succ]
              refine wpAnyH_take (i := 10) (v := ?v10k0) rfl (by kernel_rfl) (by kernel_rfl) (by kernel_rfl) (fun _ _ _ h => h) (Or.inl ⟨by rfl, ?y10k0⟩) (by assumption) ?r10k0
              case y10k0 => (intro w hSw; (try dsimp only at hSw); go_simp; try with_reducible rfl)
              change wpAnyH _ _ _ _ _ _ _ (Act.put _ (some 46) _) _; simp only [Act.put, List.setIfInBounds_toArray, List.set_cons_zero, List.set_cons_succ]
              refine wpAnyH_take (i := 11) (v := ?v11k0) rfl (by kernel_rfl) (by kernel_rfl) (by kernel_rfl) (fun _ _ _ h => h) (Or.inl ⟨by rfl, ?y11k0⟩) (by assumption) ?r11k0
              case y11k0 => (intro w hSw; (try dsimp only at hSw); go_simp; try with_reducible rfl)
              change wpAnyH _ _ _ _ _ _ _ (Act.put _ (some 47) _) _; simp only [Act.put, List.setIfInBounds_toArray, List.set_cons_zero, List.set_cons_succ]
              refine wpAnyH_ready (rs := [12]) (by kernel_rfl) (by simp) ?_
              refine AllReadyH.cons rfl (fun K hK => ?_) AllReadyH.nil
              go_simp
              go_at_call 3
              refine (HL2.out _ HBX.out).mono ?_
              rintro e w6 ⟨rfl, hb6⟩
              have HBX := Lib.hid hb6
              clear hb6
              dsimp only
              refine hK.out _ _ ?_ (fun hHeld => ?_)
              · exact HJX.out _ HBX.out
              clear hK K
              refine wpAnyH_take (i := 13) (v := ?v13k0) rfl (by kernel_rfl) (by kernel_rfl) (by kernel_rfl) (fun _ _ _ h => h) (Or.inl ⟨by rfl, ?y13k0⟩) (by assumption) ?r13k0
              case y13k0 => (intro w hSw; (try dsimp only at hSw); go_simp; try with_reducible rfl)
              change wpAnyH _ _ _ _ _ _ _ (Act.put _ (some 49) _) _; simp only [Act.put, List.setIfInBounds_toArray, List.set_cons_zero, List.set_cons_succ]
              refine wpAnyH_take (i := 14) (v := ?v14k0) rfl (by kernel_rfl) (by kernel_rfl) (by kernel_rfl) (fun _ _ _ h => h) (Or.inl ⟨by rfl, ?y14k0⟩) (by assumption) ?r14k0
              case y14k0 => (intro w hSw; (try dsimp only at hSw); go_simp; try with_reducible rfl)
              change wpAnyH _ _ _ _ _ _ _ (Act.put _ (some 50) _) _; simp only [Act.put, List.setIfInBounds_toArray, List.set_cons_zero, List.set_cons_succ]
              refine wpAnyH_take (i := 15) (v := ?v15k0) rfl (by kernel_rfl) (by kernel_rfl) (by kernel_rfl) (fun _ _ _ h => h) (Or.inl ⟨by rfl, ?y15k0⟩) (by assumption) ?r15k0
              case y15k0 => (intro w hSw; (try dsimp only at hSw); go_simp; try with_reducible rfl)
              change wpAnyH _ _ _ _ _ _ _ (Act.put _ (some 51) _) _; simp only [Act.put, List.setIfInBounds_toArray, List.set_cons_zero, List.set_cons_succ]
              refine wpAnyH_take (i := 16) (v := ?v16k0) rfl (by kernel_rfl) (by kernel_rfl) (by kernel_rfl) (fun _ _ _ h => h) (Or.inl ⟨by rfl, ?y16k0⟩) (by assumption) ?r16k0
              case y16k0 => (intro w hSw; (try dsimp only at hSw); go_simp; try with_reducible rfl)
              change wpAnyH _ _ _ _ _ _ _ (Act.put _ (some 52) _) _; simp only [Act.put, List.setIfInBounds_toArray, List.set_cons_zero, List.set_cons_succ]
              refine wpAnyH_take (i := 17) (v := ?v17k0) rfl (by kernel_rfl) (by kernel_rfl) (by kernel_rfl) (fun _ _ _ h => h) (Or.inl ⟨by rfl, ?y17k0⟩) (by assumption) ?r17k0
              case y17k0 => (intro w hSw; (try dsimp only at hSw); go_simp; try with_reducible rfl)
              change wpAnyH _ _ _ _ _ _ _ (Act.put _ (some 53) _) _; simp only [Act.put, List.setIfInBounds_toArray, List.set_cons_zero, List.set_cons_succ]
              refine wpAnyH_take (i := 18) (v := ?v18k0) rfl (by kernel_rfl) (by kernel_rfl) (by kernel_rfl) (fun _ _ _ h => h) (Or.inl ⟨by rfl, ?y18k0⟩) (by assumption) ?r18k0
              case y18k0 => (intro w hSw; (try dsimp only at hSw); go_simp; try with_reducible rfl)
              change wpAnyH _ _ _ _ _ _ _ (Act.put _ (some 54) _) _; simp only [Act.put, List.setIfInBounds_toArray, List.set_cons_zero, List.set_cons_succ]
              refine wpAnyH_ready (rs := [19]) (by kernel_rfl) (by simp) ?_
              refine AllReadyH.cons rfl (fun K hK => ?_) AllReadyH.nil
              go_simp
              go_at_call 4
              refine (HL3.out _ HBX.out _).mono ?_
              rintro e w6 ⟨rfl, hb6⟩
              have HBX := Lib.hid hb6
              clear hb6
              dsimp only
              refine hK.out _ _ ?_ (fun hHeld => ?_)
              · exact HJX.out _ HBX.out
              clear hK K
              refine wpAnyH_take (i := 20) (v := ?v20k0) rfl (by kernel_rfl) (by kernel_rfl) (by kernel_rfl) (fun _ _ _ h => h) (Or.inl ⟨by rfl, ?y20k0⟩) (by assumption) ?r20k0
              case y20k0 => (intro w hSw; (try dsimp only at hSw); go_simp; try with_reducible rfl)
              change wpAnyH _ _ _ _ _ _ _ (Act.put _ (some 56) _) _; simp only [Act.put, List.setIfInBounds_toArray, List.set_cons_zero, List.set_cons_succ]
              refine wpAnyH_take (i := 21) (v := ?v21k0) rfl (by kernel_rfl) (by kernel_rfl) (by kernel_rfl) (fun _ _ _ h => h) (Or.inl ⟨by rfl, ?y21k0⟩) (by assumption) ?r21k0
              case y21k0 => (intro w hSw; (try dsimp only at hSw); go_simp; try with_reducible rfl)
              change wpAnyH _ _ _ _ _ _ _ (Act.put _ (some 57) _) _; simp only [Act.put, List.setIfInBounds_toArray, List.set_cons_zero, List.set_cons_succ]
              refine wpAnyH_take (i := 22) (v := ?v22k0) rfl (by kernel_rfl) (by kernel_rfl) (by kernel_rfl) (fun _ _ _ h => h) (Or.inl ⟨by rfl, ?y22k0⟩) (by assumption) ?r22k0
              case y22k0 => (intro w hSw; (try dsimp only at hSw); go_simp; try with_reducible rfl)
              change wpAnyH _ _ _ _ _ _ _ (Act.put _ (some 58) _) _; simp only [Act.put, List.setIfInBounds_toArray, List.set_cons_zero, List.set_cons_succ]
              refine wpAnyH_take (i := 23) (v := ?v23k0) rfl (by kernel_rfl) (by kernel_rfl) (by kernel_rfl) (fun _ _ _ h => h) (Or.inl ⟨by rfl, ?y23k0⟩) (by assumption) ?r23k0
              case y23k0 => (intro w hSw; (try dsimp only at hSw); go_simp; try with_reducible rfl)
              change wpAnyH _ _ _ _ _ _ _ (Act.put _ (some 59) _) _; simp only [Act.put, List.setIfInBounds_toArray, List.set_cons_zero, List.set_cons_succ]
              refine wpAnyH_take (i := 24) (v := ?v24k0) rfl (by kernel_rfl) (by kernel_rfl) (by kernel_rfl) (fun _ _ _ h => h) (Or.inl ⟨by rfl, ?y24k0⟩) (by assumption) ?r24k0
              case y24k0 => (intro w hSw; (try dsimp only at hSw); go_simp; try with_reducible rfl)
              change wpAnyH _ _ _ _ _ _ _ (Act.put _ (some 60) _) _; simp only [Act.put, List.setIfInBounds_toArray, List.set_cons_zero, List.set_cons_succ]
              refine wpAnyH_take (i := 25) (v := ?v25k0) rfl (by kernel_rfl) (by kernel_rfl) (by kernel_rfl) (fun _ _ _ h => h) (Or.inl ⟨by rfl, ?y25k0⟩) (by assumption) ?r25k0
              case y25k0 => (intro w hSw; (try dsimp only at hSw); go_simp; try with_reducible rfl)
              change wpAnyH _ _ _ _ _ _ _ (Act.put _ (some 61) _) _; simp only [Act.put, List.setIfInBounds_toArray, List.set_cons_zero, List.set_cons_succ]
              refine wpAnyH_ready (rs := [26]) (by kernel_rfl) (by simp) ?_
              refine AllReadyH.cons rfl (fun K hK => ?_) AllReadyH.nil
              go_simp
              go_at_call 4
              refine (HL3.out _ HBX.out _).mono ?_
              rintro e w6 ⟨rfl, hb6⟩
              have HBX := Lib.hid hb6
              clear hb6
              dsimp only
              refine hK.out _ _ ?_ (fun hHeld => ?_)
              · exact HJX.out _ HBX.out
              clear hK K
              refine wpAnyH_take (i := 27) (v := ?v27k0) rfl (by kernel_rfl) (by kernel_rfl) (by kernel_rfl) (fun _ _ _ h => h) (Or.inl ⟨by rfl, ?y27k0⟩) (by assumption) ?r27k0
              case y27k0 => (intro w hSw; (try dsimp only at hSw); go_simp; try with_reducible rfl)
              change wpAnyH _ _ _ _ _ _ _ (Act.put _ (some 63) _) _; simp only [Act.put, List.setIfInBounds_toArray, List.set_cons_zero, List.set_cons_succ]
              refine wpAnyH_take (i := 28) (v := ?v28k0) rfl (by kernel_rfl) (by kernel_rfl) (by kernel_rfl) (fun _ _ _ h => h) (Or.inl ⟨by rfl, ?y28k0⟩) (by assumption) ?r28k0
              case y28k0 => (intro w hSw; (try dsimp only at hSw); go_simp; try with_reducible rfl)
              change wpAnyH _ _ _ _ _ _ _ (Act.put _ (some 64) _) _; simp only [Act.put, List.setIfInBounds_toArray, List.set_cons_zero, List.set_cons_succ]
              refine wpAnyH_take (i := 29) (v := ?v29k0) rfl (by kernel_rfl) (by kernel_rfl) (by kernel_rfl) (fun _ _ _ h => h) (Or.inl ⟨by rfl, ?y29k0⟩) (by assumption) ?r29k0
              case y29k0 => (intro w hSw; (try dsimp only at hSw); go_simp; try with_reducible rfl)
              change wpAnyH _ _ _ _ _ _ _ (Act.put _ (some 65) _) _; simp only [Act.put, List.setIfInBounds_toArray, List.set_cons_zero, List.set_cons_succ]
              refine wpAnyH_take (i := 30) (v := ?v30k0) rfl (by kernel_rfl) (by kernel_rfl) (by kernel_rfl) (fun _ _ _ h => h) (Or.inl ⟨by rfl, ?y30k0⟩) (by assumption) ?r30k0
              case y30k0 => (intro w hSw; (try dsimp only at hSw); go_simp; try with_reducible rfl)
              change wpAnyH _ _ _ _ _ _ _ (Act.put _ (some 66) _) _; simp only [Act.put, List.setIfInBounds_toArray, List.set_cons_zero, List.set_cons_succ]
              refine wpAnyH_take (i := 31) (v := ?v31k0) rfl (by kernel_rfl) (by kernel_rfl) (by kernel_rfl) (fun _ _ _ h => h) (Or.inl ⟨by rfl, ?y31k0⟩) (by assumption) ?r31k0
              case y31k0 => (intro w hSw; (try dsimp only at hSw); go_simp; try with_reducible rfl)
              change wpAnyH _ _ _ _ _ _ _ (Act.put _ (some 67) _) _; simp only [Act.put, List.setIfInBounds_toArray, List.set_cons_zero, List.set_cons_succ]
              refine wpAnyH_take (i := 32) (v := ?v32k0) rfl (by kernel_rfl) (by kernel_rfl) (by kernel_rfl) (fun _ _ _ h => h) (Or.inl ⟨by rfl, ?y32k0⟩) (by assumption) ?r32k0
              case y32k0 => (intro w hSw; (try dsimp only at hSw); go_simp; try with_reducible rfl)
              change wpAnyH _ _ _ _ _ _ _ (Act.put _ (some 68) _) _; simp only [Act.put, List.setIfInBounds_toArray, List.set_cons_zero, List.set_cons_succ]
              refine wpAnyH_take (i := 33) (v := ?v33k0) rfl (by kernel_rfl) (by kernel_rfl) (by kernel_rfl) (fun _ _ _ h => h) (Or.inl ⟨by rfl, ?y33k0⟩) (by assumption) ?r33k0
              case y33k0 => (intro w hSw; (try dsimp only at hSw); go_simp; try with_reducible rfl)
              change wpAnyH _ _ _ _ _ _ _ (Act.put _ (some 69) _) _; simp only [Act.put, List.setIfInBounds_toArray, List.set_cons_zero, List.set_cons_succ]
              refine wpAnyH_take (i := 34) (v := ?v34k0) rfl (by kernel_rfl) (by kernel_rfl) (by kernel_rfl) (fun _ _ _ h => h) (Or.inl ⟨by rfl, ?y34k0⟩) (by assumption) ?r34k0
              case y34k0 => (intro w hSw; (try dsimp only at hSw); go_simp; try with_reducible rfl)
              change wpAnyH _ _ _ _ _ _ _ (Act.put _ (some 70) _) _; simp only [Act.put, List.setIfInBounds_toArray, List.set_cons_zero, List.set_cons_succ]
              refine wpAnyH_take (i := 35) (v := ?v35k0) rfl (by kernel_rfl) (by kernel_rfl) (by kernel_rfl) (fun _ _ _ h => h) (Or.inl ⟨by rfl, ?y35k0⟩) (by assumption) ?r35k0
              case y35k0 => (intro w hSw; (try dsimp only at hSw); go_simp; try with_reducible rfl)
              change wpAnyH _ _ _ _ _ _ _ (Act.put _ (some 71) _) _; simp only [Act.put, List.setIfInBounds_toArray, List.set_cons_zero, List.set_cons_succ]
              refine wpAnyH_take (i := 36) (v := ?v36k0) rfl (by kernel_rfl) (by kernel_rfl) (by kernel_rfl) (fun _ _ _ h => h) (Or.inl ⟨by rfl, ?y36k0⟩) (by assumption) ?r36k0
              case y36k0 => (intro w hSw; (try dsimp only at hSw); go_simp; try with_reducible rfl)
              change wpAnyH _ _ _ _ _ _ _ (Act.put _ (some 72) _) _; simp only [Act.put, List.setIfInBounds_toArray, List.set_cons_zero, List.set_cons_succ]
              refine wpAnyH_take (i := 37) (v := ?v37k0) rfl (by kernel_rfl) (by kernel_rfl) (by kernel_rfl) (fun _ _ _ h => h) (Or.inl ⟨by rfl, ?y37k0⟩) (by assumption) ?r37k0
              case y37k0 => (intro w hSw; (try dsimp only at hSw); go_simp; try with_reducible rfl)
              change wpAnyH _ _ _ _ _ _ _ (Act.put _ (some 73) _) _; simp only [Act.put, List.setIfInBounds_toArray, List.set_cons_zero, List.set_cons_succ]
              refine wpAnyH_take (i := 38) (v := ?v38k0) rfl (by kernel_rfl) (by kernel_rfl) (by kernel_rfl) (fun _ _ _ h => h) (Or.inl ⟨by rfl, ?y38k0⟩) (by assumption) ?r38k0
              case y38k0 => (intro w hSw; (try dsimp only at hSw); go_simp; try with_reducible rfl)
              change wpAnyH _ _ _ _ _ _ _ (Act.put _ (some 74) _) _; simp only [Act.put, List.setIfInBounds_toArray, List.set_cons_zero, List.set_cons_succ]
              refine wpAnyH_take (i := 40) (v := ?v40k0) rfl (by kernel_rfl) (by kernel_rfl) (by kernel_rfl) (fun _ _ _ h => h) (Or.inl ⟨by rfl, ?y40k0⟩) (by assumption) ?r40k0
              case y40k0 => (intro w hSw; (try dsimp only at hSw); go_simp; try with_reducible rfl)
              change wpAnyH _ _ _ _ _ _ _ (Act.put _ (some 76) _) _; simp only [Act.put, List.setIfInBounds_toArray, List.set_cons_zero, List.set_cons_succ]
              refine wpAnyH_ready (rs := [39, 41]) (by kernel_rfl) (by simp) ?_
              refine AllReadyH.cons rfl (fun K hK => ?_) (AllReadyH.cons rfl (fun K hK => ?_) AllReadyH.nil)
              · go_simp
                refine hK.out _ _ ?_ (fun hHeld => ?_)
                · exact HJX.out _ (below_al HBX.out rfl _)
                clear hK K
                refine wpAnyH_ready (rs := [41]) (by kernel_rfl) (by simp) ?_
                refine AllReadyH.cons rfl (fun K hK => ?_) AllReadyH.nil
                go_simp
                refine hK.out _ _ ?_ (fun hHeld => ?_)
                · exact HJX.out _ (below_al2 HBX.out rfl _ _)
                clear hK K
                refine wpAnyH_ready (rs := [42]) (by kernel_rfl) (by simp) ?_
                refine AllReadyH.cons rfl (fun K hK => ?_) AllReadyH.nil
                go_simp
                go_at_call 5
                refine (HL4.out _ HBX.out).mono ?_
                rintro e w6 ⟨rfl, hb6⟩
                have HBX := Lib.hid hb6
                clear hb6
                dsimp only
                refine hK.out _ _ ?_ (fun hHeld => ?_)
                · exact HJX.out _ HBX.out
                clear hK K
                refine wpAnyH_take (i := 43) (v := ?v43k0a) rfl (by kernel_rfl) (by kernel_rfl) (by kernel_rfl) (fun _ _ _ h => h) (Or.inl ⟨by rfl, ?y43k0a⟩) (by assumption) ?r43k0a
                case y43k0a => (intro w hSw; (try dsimp only at hSw); go_simp; try with_reducible rfl)
                change wpAnyH _ _ _ _ _ _ _ (Act.put _ (some 79) _) _; simp only [Act.put, List.setIfInBounds_toArray, List.set_cons_zero, List.set_cons_succ]
                refine wpAnyH_take (i := 44) (v := ?v44k0a) rfl (by kernel_rfl) (by kernel_rfl) (by kernel_rfl) (fun _ _ _ h => h) (Or.inl ⟨by rfl, ?y44k0a⟩) (by assumption) ?r44k0a
                case y44k0a => (intro w hSw; (try dsimp only at hSw); go_simp; try with_reducible rfl)
                change wpAnyH _ _ _ _ _ _ _ (Act.put _ (some 80) _) _; simp only [Act.put, List.setIfInBounds_toArray, List.set_cons_zero, List.set_cons_succ]
                refine wpAnyH_take (i := 45) (v := ?v45k0a) rfl (by kernel_rfl) (by kernel_rfl) (by kernel_rfl) (fun _ _ _ h => h) (Or.inl ⟨by rfl, ?y45k0a⟩) (by assumption) ?r45k0a
                case y45k0a => (intro w hSw; (try dsimp only at hSw); go_simp; try with_reducible rfl)
                change wpAnyH _ _ _ _ _ _ _ (Act.put _ (some 81) _) _; simp only [Act.put, List.setIfInBounds_toArray, List.set_cons_zero, List.set_cons_succ]
                refine wpAnyH_take (i := 46) (v := ?v46k0a) rfl (by kernel_rfl) (by kernel_rfl) (by kernel_rfl) (fun _ _ _ h => h) (Or.inl ⟨by rfl, ?y46k0a⟩) (by assumption) ?r46k0a
                case y46k0a => (intro w hSw; (try dsimp only at hSw); go_simp; try with_reducible rfl)
                change wpAnyH _ _ _ _ _ _ _ (Act.put _ (some 82) _) _; simp only [Act.put, List.setIfInBounds_toArray, List.set_cons_zero, List.set_cons_succ]
                refine wpAnyH_take (i := 47) (v := ?v47k0a) rfl (by kernel_rfl) (by kernel_rfl) (by kernel_rfl) (fun _ _ _ h => h) (Or.inl ⟨by rfl, ?y47k0a⟩) (by assumption) ?r47k0a
                case y47k0a => (intro w hSw; (try dsimp only at hSw); go_simp; try with_reducible rfl)
                change wpAnyH _ _ _ _ _ _ _ (Act.put _ (some 83) _) _; simp only [Act.put, List.setIfInBounds_toArray, List.set_cons_zero, List.set_cons_succ]
                refine wpAnyH_take (i := 48) (v := ?v48k0a) rfl (by kernel_rfl) (by kernel_rfl) (by kernel_rfl) (fun _ _ _ h => h) (Or.inl ⟨by rfl, ?y48k0a⟩) (by assumption) ?r48k0a
                case y48k0a => (intro w hSw; (try dsimp only at hSw); go_simp; try with_reducible rfl)
                change wpAnyH _ _ _ _ _ _ _ (Act.put _ (some 84) _) _; simp only [Act.put, List.setIfInBounds_toArray, List.set_cons_zero, List.set_cons_succ]
                refine wpAnyH_take (i := 49) (v := undef) rfl (by kernel_rfl) (by kernel_rfl) (by kernel_rfl) (fun _ _ _ h => h) (Or.inr ⟨by rfl, rfl⟩) (by assumption) ?_
                change wpAnyH _ _ _ _ _ _ _ (Act.put _ (some 85) _) _; simp only [Act.put, List.setIfInBounds_toArray, List.set_cons_zero, List.set_cons_succ]
                refine wpAnyH_take (i := 50) (v := undef) rfl (by kernel_rfl) (by kernel_rfl) (by kernel_rfl) (fun _ _ _ h => h) (Or.inr ⟨by rfl, rfl⟩) (by assumption) ?_
                change wpAnyH _ _ _ _ _ _ _ (Act.put _ (some 86) _) _; simp only [Act.put, List.setIfInBounds_toArray, List.set_cons_zero, List.set_cons_succ]
                refine wpAnyH_take (i := 51) (v := ?v51k0a) rfl (by kernel_rfl) (by kernel_rfl) (by kernel_rfl) (fun _ _ _ h => h) (Or.inl ⟨by rfl, ?y51k0a⟩) (by assumption) ?r51k0a
                case y51k0a => (intro w hSw; (try dsimp only at hSw); go_simp; try with_reducible rfl)
                change wpAnyH _ _ _ _ _ _ _ (Act.put _ (some 87) _) _; simp only [Act.put, List.setIfInBounds_toArray, List.set_cons_zero, List.set_cons_succ]
                refine wpAnyH_take (i := 52) (v := ?v52k0a) rfl (by kernel_rfl) (by kernel_rfl) (by kernel_rfl) (fun _ _ _ h => h) (Or.inl ⟨by rfl, ?y52k0a⟩) (by assumption) ?r52k0a
                case y52k0a => (intro w hSw; (try dsimp only at hSw); go_simp; try with_reducible rfl)
                change wpAnyH _ _ _ _ _ _ _ (Act.put _ (some 88) _) _; simp only [Act.put, List.setIfInBounds_toArray, List.set_cons_zero, List.set_cons_succ]
                refine wpAnyH_take (i := 53) (v := undef) rfl (by kernel_rfl) (by kernel_rfl) (by kernel_rfl) (fun _ _ _ h => h) (Or.inr ⟨by rfl, rfl⟩) (by assumption) ?_
                change wpAnyH _ _ _ _ _ _ _ (Act.put _ (some 89) _) _; simp only [Act.put, List.setIfInBounds_toArray, List.set_cons_zero, List.set_cons_succ]
                refine wpAnyH_take (i := 54) (v := undef) rfl (by kernel_rfl) (by kernel_rfl) (by kernel_rfl) (fun _ _ _ h => h) (Or.inr ⟨by rfl, rfl⟩) (by assumption) ?_
                change wpAnyH _ _ _ _ _ _ _ (Act.put _ (some 90) _) _; simp only [Act.put, List.setIfInBounds_toArray, List.set_cons_zero, List.set_cons_succ]
                refine wpAnyH_take (i := 55) (v := undef) rfl (by kernel_rfl) (by kernel_rfl) (by kernel_rfl) (fun _ _ _ h => h) (Or.inr ⟨by rfl, rfl⟩) (by assumption) ?_
                change wpAnyH _ _ _ _ _ _ _ (Act.put _ (some 91) _) _; simp only [Act.put, List.setIfInBounds_toArray, List.set_cons_zero, List.set_cons_succ]
                refine wpAnyH_take (i := 56) (v := undef) rfl (by kernel_rfl) (by kernel_rfl) (by kernel_rfl) (fun _ _ _ h => h) (Or.inr ⟨by rfl, rfl⟩) (by assumption) ?_
                change wpAnyH _ _ _ _ _ _ _ (Act.put _ (some 92) _) _; simp only [Act.put, List.setIfInBounds_toArray, List.set_cons_zero, List.set_cons_succ]
                refine wpAnyH_take (i := 57) (v := undef) rfl (by kernel_rfl) (by kernel_rfl) (by kernel_rfl) (fun _ _ _ h => h) (Or.inr ⟨by rfl, rfl⟩) (by assumption) ?_
                change wpAnyH _ _ _ _ _ _ _ (Act.put _ (some 93) _) _; simp only [Act.put, List.setIfInBounds_toArray, List.set_cons_zero, List.set_cons_succ]
                refine wpAnyH_take (i := 58) (v := undef) rfl (by kernel_rfl) (by kernel_rfl) (by kernel_rfl) (fun _ _ _ h => h) (Or.inr ⟨by rfl, rfl⟩) (by assumption) ?_
                change wpAnyH _ _ _ _ _ _ _ (Act.put _ (some 94) _) _; simp only [Act.put, List.setIfInBounds_toArray, List.set_cons_zero, List.set_cons_succ]
                refine wpAnyH_take (i := 59) (v := undef) rfl (by kernel_rfl) (by kernel_rfl) (by kernel_rfl) (fun _ _ _ h => h) (Or.inr ⟨by rfl, rfl⟩) (by assumption) ?_
                change wpAnyH _ _ _ _ _ _ _ (Act.put _ (some 95) _) _; simp only [Act.put, List.setIfInBounds_toArray, List.set_cons_zero, List.set_cons_succ]
                refine wpAnyH_take (i := 60) (v := undef) rfl (by kernel_rfl) (by kernel_rfl) (by kernel_rfl) (fun _ _ _ h => h) (Or.inr ⟨by rfl, rfl⟩) (by assumption) ?_
                change wpAnyH _ _ _ _ _ _ _ (Act.put _ (some 96) _) _; simp only [Act.put, List.setIfInBounds_toArray, List.set_cons_zero, List.set_cons_succ]
                refine wpAnyH_take (i := 61) (v := undef) rfl (by kernel_rfl) (by kernel_rfl) (by kernel_rfl) (fun _ _ _ h => h) (Or.inr ⟨by rfl, rfl⟩) (by assumption) ?_
                change wpAnyH _ _ _ _ _ _ _ (Act.put _ (some 97) _) _; simp only [Act.put, List.setIfInBounds_toArray, List.set_cons_zero, List.set_cons_succ]
                refine wpAnyH_take (i := 62) (v := undef) rfl (by kernel_rfl) (by kernel_rfl) (by kernel_rfl) (fun _ _ _ h => h) (Or.inr ⟨by rfl, rfl⟩) (by assumption) ?_
                change wpAnyH _ _ _ _ _ _ _ (Act.put _ (some 98) _) _; simp only [Act.put, List.setIfInBounds_toArray, List.set_cons_zero, List.set_cons_succ]
                refine wpAnyH_take (i := 63) (v := undef) rfl (by kernel_rfl) (by kernel_rfl) (by kernel_rfl) (fun _ _ _ h => h) (Or.inr ⟨by rfl, rfl⟩) (by assumption) ?_
                change wpAnyH _ _ _ _ _ _ _ (Act.put _ (some 99) _) _; simp only [Act.put, List.setIfInBounds_toArray, List.set_cons_zero, List.set_cons_succ]
                refine wpAnyH_take (i := 64) (v := ?v64k0a) rfl (by kernel_rfl) (by kernel_rfl) (by kernel_rfl) (fun _ _ _ h => h) (Or.inl ⟨by rfl, ?y64k0a⟩) (by assumption) ?r64k0a
                case y64k0a => (intro w hSw; (try dsimp only at hSw); go_simp; try with_reducible rfl)
                change wpAnyH _ _ _ _ _ _ _ (Act.put _ (some 100) _) _; simp only [Act.put, List.setIfInBounds_toArray, List.set_cons_zero, List.set_cons_succ]
                refine wpAnyH_take (i := 65) (v := ?v65k0a) rfl (by kernel_rfl) (by kernel_rfl) (by kernel_rfl) (fun _ _ _ h => h) (Or.inl ⟨by rfl, ?y65k0a⟩) (by assumption) ?r65k0a
                case y65k0a => (intro w hSw; (try dsimp only at hSw); go_simp; try with_reducible rfl)
                change wpAnyH _ _ _ _ _ _ _ (Act.put _ (some 101) _) _; simp only [Act.put, List.setIfInBounds_toArray, List.set_cons_zero, List.set_cons_succ]
                refine wpAnyH_done (by kernel_rfl) ?_ _
                refine NoPanic.normal ?_
                go_wp2
                go_roundg gi9
                case measure => omega
                case rel => exact ⟨i + 1, by go_num, by omega, up HB5.out HBX.out⟩
              · go_simp
                refine hK.out _ _ ?_ (fun hHeld => ?_)
                · exact HJX.out _ (below_al HBX.out rfl _)
                clear hK K
                refine wpAnyH_ready (rs := [39]) (by kernel_rfl) (by simp) ?_
                refine AllReadyH.cons rfl (fun K hK => ?_) AllReadyH.nil
                go_simp
                refine hK.out _ _ ?_ (fun hHeld => ?_)
                · exact HJX.out _ (below_al2 HBX.out rfl _ _)
                clear hK K
                refine wpAnyH_ready (rs := [42]) (by kernel_rfl) (by simp) ?_
                refine AllReadyH.cons rfl (fun K hK => ?_) AllReadyH.nil
                go_simp
                go_at_call 5
                refine (HL6.out _ HBX.out).mono ?_
                rintro e w6 ⟨rfl, hb6⟩
                have HBX := Lib.hid hb6
                clear hb6
                dsimp only
                refine hK.out _ _ ?_ (fun hHeld => ?_)
                · exact HJX.out _ HBX.out
                clear hK K
                refine wpAnyH_take (i := 43) (v := ?v43k0b) rfl (by kernel_rfl) (by kernel_rfl) (by kernel_rfl) (fun _ _ _ h => h) (Or.inl ⟨by rfl, ?y43k0b⟩) (by assumption) ?r43k0b
                case y43k0b => (intro w hSw; (try dsimp only at hSw); go_simp; try with_reducible rfl)
                change wpAnyH _ _ _ _ _ _ _ (Act.put _ (some 79) _) _; simp only [Act.put, List.setIfInBounds_toArray, List.set_cons_zero, List.set_cons_succ]
                refine wpAnyH_take (i := 44) (v := ?v44k0b) rfl (by kernel_rfl) (by kernel_rfl) (by kernel_rfl) (fun _ _ _ h => h) (Or.inl ⟨by rfl, ?y44k0b⟩) (by assumption) ?r44k0b
                case y44k0b => (intro w hSw; (try dsimp only at hSw); go_simp; try with_reducible rfl)
                change wpAnyH _ _ _ _ _ _ _ (Act.put _ (some 80) _) _; simp only [Act.put, List.setIfInBounds_toArray, List.set_cons_zero, List.set_cons_succ]
                refine wpAnyH_take (i := 45) (v := ?v45k0b) rfl (by kernel_rfl) (by kernel_rfl) (by kernel_rfl) (fun _ _ _ h => h) (Or.inl ⟨by rfl, ?y45k0b⟩) (by assumption) ?r45k0b
                case y45k0b => (intro w hSw; (try dsimp only at hSw); go_simp; try with_reducible rfl)
                change wpAnyH _ _ _ _ _ _ _ (Act.put _ (some 81) _) _; simp only [Act.put, List.setIfInBounds_toArray, List.set_cons_zero, List.set_cons_succ]
                refine wpAnyH_take (i := 46) (v := ?v46k0b) rfl (by kernel_rfl) (by kernel_rfl) (by kernel_rfl) (fun _ _ _ h => h) (Or.inl ⟨by rfl, ?y46k0b⟩) (by assumption) ?r46k0b
                case y46k0b => (intro w hSw; (try dsimp only at hSw); go_simp; try with_reducible rfl)
                change wpAnyH _ _ _ _ _ _ _ (Act.put _ (some 82) _) _; simp only [Act.put, List.setIfInBounds_toArray, List.set_cons_zero, List.set_cons_succ]
                refine wpAnyH_take (i := 47) (v := ?v47k0b) rfl (by kernel_rfl) (by kernel_rfl) (by kernel_rfl) (fun _ _ _ h => h) (Or.inl ⟨by rfl, ?y47k0b⟩) (by assumption) ?r47k0b
                case y47k0b => (intro w hSw; (try dsimp only at hSw); go_simp; try with_reducible rfl)
                change wpAnyH _ _ _ _ _ _ _ (Act.put _ (some 83) _) _; simp only [Act.put, List.setIfInBounds_toArray, List.set_cons_zero, List.set_cons_succ]
                refine wpAnyH_take (i := 48) (v := ?v48k0b) rfl (by kernel_rfl) (by kernel_rfl) (by kernel_rfl) (fun _ _ _ h => h) (Or.inl ⟨by rfl, ?y48k0b⟩) (by assumption) ?r48k0b
                case y48k0b => (intro w hSw; (try dsimp only at hSw); go_simp; try with_reducible rfl)
                change wpAnyH _ _ _ _ _ _ _ (Act.put _ (some 84) _) _; simp only [Act.put, List.setIfInBounds_toArray, List.set_cons_zero, List.set_cons_succ]
                refine wpAnyH_take (i := 49) (v := undef) rfl (by kernel_rfl) (by kernel_rfl) (by kernel_rfl) (fun _ _ _ h => h) (Or.inr ⟨by rfl, rfl⟩) (by assumption) ?_
                change wpAnyH _ _ _ _ _ _ _ (Act.put _ (some 85) _) _; simp only [Act.put, List.setIfInBounds_toArray, List.set_cons_zero, List.set_cons_succ]
                refine wpAnyH_take (i := 50) (v := undef) rfl (by kernel_rfl) (by kernel_rfl) (by kernel_rfl) (fun _ _ _ h => h) (Or.inr ⟨by rfl, rfl⟩) (by assumption) ?_
                change wpAnyH _ _ _ _ _ _ _ (Act.put _ (some 86) _) _; simp only [Act.put, List.setIfInBounds_toArray, List.set_cons_zero, List.set_cons_succ]
                refine wpAnyH_take (i := 51) (v := ?v51k0b) rfl (by kernel_rfl) (by kernel_rfl) (by kernel_rfl) (fun _ _ _ h => h) (Or.inl ⟨by rfl, ?y51k0b⟩) (by assumption) ?r51k0b
                case y51k0b => (intro w hSw; (try dsimp only at hSw); go_simp; try with_reducible rfl)
                change wpAnyH _ _ _ _ _ _ _ (Act.put _ (some 87) _) _; simp only [Act.put, List.setIfInBounds_toArray, List.set_cons_zero, List.set_cons_succ]
                refine wpAnyH_take (i := 52) (v := ?v52k0b) rfl (by kernel_rfl) (by kernel_rfl) (by kernel_rfl) (fun _ _ _ h => h) (Or.inl ⟨by rfl, ?y52k0b⟩) (by assumption) ?r52k0b
                case y52k0b => (intro w hSw; (try dsimp only at hSw); go_simp; try with_reducible rfl)
                change wpAnyH _ _ _ _ _ _ _ (Act.put _ (some 88) _) _; simp only [Act.put, List.setIfInBounds_toArray, List.set_cons_zero, List.set_cons_succ]
                refine wpAnyH_take (i := 53) (v := undef) rfl (by kernel_rfl) (by kernel_rfl) (by kernel_rfl) (fun _ _ _ h => h) (Or.inr ⟨by rfl, rfl⟩) (by assumption) ?_
                change wpAnyH _ _ _ _ _ _ _ (Act.put _ (some 89) _) _; simp only [Act.put, List.setIfInBounds_toArray, List.set_cons_zero, List.set_cons_succ]
                refine wpAnyH_take (i := 54) (v := undef) rfl (by kernel_rfl) (by kernel_rfl) (by kernel_rfl) (fun _ _ _ h => h) (Or.inr ⟨by rfl, rfl⟩) (by assumption) ?_
                change wpAnyH _ _ _ _ _ _ _ (Act.put _ (some 90) _) _; simp only [Act.put, List.setIfInBounds_toArray, List.set_cons_zero, List.set_cons_succ]
                refine wpAnyH_take (i := 55) (v := undef) rfl (by kernel_rfl) (by kernel_rfl) (by kernel_rfl) (fun _ _ _ h => h) (Or.inr ⟨by rfl, rfl⟩) (by assumption) ?_
                change wpAnyH _ _ _ _ _ _ _ (Act.put _ (some 91) _) _; simp only [Act.put, List.setIfInBounds_toArray, List.set_cons_zero, List.set_cons_succ]
                refine wpAnyH_take (i := 56) (v := undef) rfl (by kernel_rfl) (by kernel_rfl) (by kernel_rfl) (fun _ _ _ h => h) (Or.inr ⟨by rfl, rfl⟩) (by assumption) ?_
                change wpAnyH _ _ _ _ _ _ _ (Act.put _ (some 92) _) _; simp only [Act.put, List.setIfInBounds_toArray, List.set_cons_zero, List.set_cons_succ]
                refine wpAnyH_take (i := 57) (v := undef) rfl (by kernel_rfl) (by kernel_rfl) (by kernel_rfl) (fun _ _ _ h => h) (Or.inr ⟨by rfl, rfl⟩) (by assumption) ?_
                change wpAnyH _ _ _ _ _ _ _ (Act.put _ (some 93) _) _; simp only [Act.put, List.setIfInBounds_toArray, List.set_cons_zero, List.set_cons_succ]
                refine wpAnyH_take (i := 58) (v := undef) rfl (by kernel_rfl) (by kernel_rfl) (by kernel_rfl) (fun _ _ _ h => h) (Or.inr ⟨by rfl, rfl⟩) (by assumption) ?_
                change wpAnyH _ _ _ _ _ _ _ (Act.put _ (some 94) _) _; simp only [Act.put, List.setIfInBounds_toArray, List.set_cons_zero, List.set_cons_succ]
                refine wpAnyH_take (i := 59) (v := undef) rfl (by kernel_rfl) (by kernel_rfl) (by kernel_rfl) (fun _ _ _ h => h) (Or.inr ⟨by rfl, rfl⟩) (by assumption) ?_
                change wpAnyH _ _ _ _ _ _ _ (Act.put _ (some 95) _) _; simp only [Act.put, List.setIfInBounds_toArray, List.set_cons_zero, List.set_cons_succ]
                refine wpAnyH_take (i := 60) (v := undef) rfl (by kernel_rfl) (by kernel_rfl) (by kernel_rfl) (fun _ _ _ h => h) (Or.inr ⟨by rfl, rfl⟩) (by assumption) ?_
                change wpAnyH _ _ _ _ _ _ _ (Act.put _ (some 96) _) _; simp only [Act.put, List.setIfInBounds_toArray, List.set_cons_zero, List.set_cons_succ]
                refine wpAnyH_take (i := 61) (v := undef) rfl (by kernel_rfl) (by kernel_rfl) (by kernel_rfl) (fun _ _ _ h => h) (Or.inr ⟨by rfl, rfl⟩) (by assumption) ?_
                change wpAnyH _ _ _ _ _ _ _ (Act.put _ (some 97) _) _; simp only [Act.put, List.setIfInBounds_toArray, List.set_cons_zero, List.set_cons_succ]
                refine wpAnyH_take (i := 62) (v := undef) rfl (by kernel_rfl) (by kernel_rfl) (by kernel_rfl) (fun _ _ _ h => h) (Or.inr ⟨by rfl, rfl⟩) (by assumption) ?_
                change wpAnyH _ _ _ _ _ _ _ (Act.put _ (some 98) _) _; simp only [Act.put, List.setIfInBounds_toArray, List.set_cons_zero, List.set_cons_succ]
                refine wpAnyH_take (i := 63) (v := undef) rfl (by kernel_rfl) (by kernel_rfl) (by kernel_rfl) (fun _ _ _ h => h) (Or.inr ⟨by rfl, rfl⟩) (by assumption) ?_
                change wpAnyH _ _ _ _ _ _ _ (Act.put _ (some 99) _) _; simp only [Act.put, List.setIfInBounds_toArray, List.set_cons_zero, List.set_cons_succ]
                refine wpAnyH_take (i := 64) (v := ?v64k0b) rfl (by kernel_rfl) (by kernel_rfl) (by kernel_rfl) (fun _ _ _ h => h) (Or.inl ⟨by rfl, ?y64k0b⟩) (by assumption) ?r64k0b
                case y64k0b => (intro w hSw; (try dsimp only at hSw); go_simp; try with_reducible rfl)
                change wpAnyH _ _ _ _ _ _ _ (Act.put _ (some 100) _) _; simp only [Act.put, List.setIfInBounds_toArray, List.set_cons_zero, List.set_cons_succ]
                refine wpAnyH_take (i := 65) (v := ?v65k0b) rfl (by kernel_rfl) (by kernel_rfl) (by kernel_rfl) (fun _ _ _ h => h) (Or.inl ⟨by rfl, ?y65k0b⟩) (by assumption) ?r65k0b
                case y65k0b => (intro w hSw; (try dsimp only at hSw); go_simp; try with_reducible rfl)
                change wpAnyH _ _ _ _ _ _ _ (Act.put _ (some 101) _) _; simp only [Act.put, List.setIfInBounds_toArray, List.set_cons_zero, List.set_cons_succ]
                refine wpAnyH_done (by kernel_rfl) ?_ _
                refine NoPanic.normal ?_
                go_wp2
                go_roundg gi9
                case measure => omega
                case rel => exact ⟨i + 1, by go_num, by omega, up HB5.out HBX.out⟩
            · go_wp2
              dsimp only [List.append]
              refine wp_region_noPanic ?_
              refine wp_region_held_drew (S := (fun w' => w'.cell? ⟨gj, 0, none⟩ = some (.int .u8 4) ∧ w'.cell? ⟨gj, 1, none⟩ = some (.int .i64 0) ∧ w'.cell? ⟨gj, 2, none⟩ = some (.int .i64 0) ∧ w'.cell? ⟨gj, 3, none⟩ = some (.int .i64 0) ∧ w'.cell? ⟨gj, 4, none⟩ = some (.int .i64 0))) (by kernel_rfl) ?_ (fun hHeld => ?_)
              · exact HJX.out _ HBX.out.drew
              refine wpAnyH_take (i := 0) (v := ?v0k4) rfl (by kernel_rfl) (by kernel_rfl) (by kernel_rfl) (fun _ _ _ h => h) (Or.inl ⟨by rfl, ?y0k4⟩) (by assumption) ?r0k4
              case y0k4 => (intro w hSw; (try dsimp only at hSw); go_simp; try with_reducible rfl)
              change wpAnyH _ _ _ _ _ _ _ (Act.put _ (some 36) _) _; simp only [Act.put, List.setIfInBounds_toArray, List.set_cons_zero, List.set_cons_succ]
              refine wpAnyH_take (i := 1) (v := ?v1k4) rfl (by kernel_rfl) (by kernel_rfl) (by kernel_rfl) (fun _ _ _ h => h) (Or.inl ⟨by rfl, ?y1k4⟩) (by assumption) ?r1k4
              case y1k4 => (intro w hSw; (try dsimp only at hSw); go_simp; try with_reducible rfl)
              change wpAnyH _ _ _ _ _ _ _ (Act.put _ (some 37) _) _; simp only [Act.put, List.setIfInBounds_toArray, List.set_cons_zero, List.set_cons_succ]
              refine wpAnyH_take (i := 2) (v := ?v2k4) rfl (by kernel_rfl) (by kernel_rfl) (by kernel_rfl) (fun _ _ _ h => h) (Or.inl ⟨by rfl, ?y2k4⟩) (by assumption) ?r2k4
              case y2k4 => (intro w hSw; (try dsimp only at hSw); go_simp; try with_reducible rfl)
              change wpAnyH _ _ _ _ _ _ _ (Act.put _ (some 38) _) _; simp only [Act.put, List.setIfInBounds_toArray, List.set_cons_zero, List.set_cons_succ]
              refine wpAnyH_take (i := 3) (v := ?v3k4) rfl (by kernel_rfl) (by kernel_rfl) (by kernel_rfl) (fun _ _ _ h => h) (Or.inl ⟨by rfl, ?y3k4⟩) (by assumption) ?r3k4
              case y3k4 => (intro w hSw; (try dsimp only at hSw); go_simp; try with_reducible rfl)
              change wpAnyH _ _ _ _ _ _ _ (Act.put _ (some 39) _) _; simp only [Act.put, List.setIfInBounds_toArray, List.set_cons_zero, List.set_cons_succ]
              refine wpAnyH_take (i := 4) (v := ?v4k4) rfl (by kernel_rfl) (by kernel_rfl) (by kernel_rfl) (fun _ _ _ h => h) (Or.inl ⟨by rfl, ?y4k4⟩) (by assumption) ?r4k4
              case y4k4 => (intro w hSw; (try dsimp only at hSw); go_simp; try with_reducible rfl)
              change wpAnyH _ _ _ _ _ _ _ (Act.put _ (some 40) _) _; simp only [Act.put, List.setIfInBounds_toArray, List.set_cons_zero, List.set_cons_succ]
              refine wpAnyH_ready (rs := [5]) (by kernel_rfl) (by simp) ?_
              refine AllReadyH.cons rfl (fun K hK => ?_) AllReadyH.nil
              go_simp
              go_at_call 3
              refine (HL1.out _ HBX.out.drew).mono ?_
              rintro e w6 ⟨rfl, hb6⟩
              have HBX := Lib.hid hb6
              clear hb6
              dsimp only
              refine hK.out _ _ ?_ (fun hHeld => ?_)
              · exact HJX.out _ HBX.out
              clear hK K
              refine wpAnyH_take (i := 6) (v := ?v6k4) rfl (by kernel_rfl) (by kernel_rfl) (by kernel_rfl) (fun _ _ _ h => h) (Or.inl ⟨by rfl, ?y6k4⟩) (by assumption) ?r6k4
              case y6k4 => (intro w hSw; (try dsimp only at hSw); go_simp; try with_reducible rfl)
              change wpAnyH _ _ _ _ _ _ _ (Act.put _ (some 42) _) _; simp only [Act.put, List.setIfInBounds_toArray, List.set_cons_zero, List.set_cons_succ]
              refine wpAnyH_take (i := 7) (v := ?v7k4) rfl (by kernel_rfl) (by kernel_rfl) (by kernel_rfl) (fun _ _ _ h => h) (Or.inl ⟨by rfl, ?y7k4⟩) (by assumption) ?r7k4
              case y7k4 => (intro w hSw; (try dsimp only at hSw); go_simp; try with_reducible rfl)
              change wpAnyH _ _ _ _ _ _ _ (Act.put _ (some 43) _) _; simp only [Act.put, List.setIfInBounds_toArray, List.set_cons_zero, List.set_cons_succ]
              refine wpAnyH_take (i := 8) (v := ?v8k4) rfl (by kernel_rfl) (by kernel_rfl) (by kernel_rfl) (fun _ _ _ h => h) (Or.inl ⟨by rfl, ?y8k4⟩) (by assumption) ?r8k4
              case y8k4 => (intro w hSw; (try dsimp only at hSw); go_simp; try with_reducible rfl)
              change wpAnyH _ _ _ _ _ _ _ (Act.put _ (some 44) _) _; simp only [Act.put, List.setIfInBounds_toArray, List.set_cons_zero, List.set_cons_succ]
              refine wpAnyH_take (i := 9) (v := ?v9k4) rfl (by kernel_rfl) (by kernel_rfl) (by kernel_rfl) (fun _ _ _ h => h) (Or.inl ⟨by rfl, ?y9k4⟩) (by assumption) ?r9k4
              case y9k4 => (intro w hSw; (try dsimp only at hSw); go_simp; try with_reducible rfl)
              change wpAnyH _ _ _ _ _ _ _ (Act.put _ (some 45) _) _; simp only [Act.put, List.setIfInBounds_toArray, List.set_cons_zero, List.set_cons_succ]
              refine wpAnyH_take (i := 10) (v := ?v10k4) rfl (by kernel_rfl) (by kernel_rfl) (by kernel_rfl) (fun _ _ _ h => h) (Or.inl ⟨by rfl, ?y10k4⟩) (by assumption) ?r10k4
              case y10k4 => (intro w hSw; (try dsimp only at hSw); go_simp; try with_reducible rfl)
              change wpAnyH _ _ _ _ _ _ _ (Act.put _ (some 46) _) _; simp only [Act.put, List.setIfInBounds_toArray, List.set_cons_zero, List.set_cons_succ]
              refine wpAnyH_take (i := 11) (v := ?v11k4) rfl (by kernel_rfl) (by kernel_rfl) (by kernel_rfl) (fun _ _ _ h => h) (Or.inl ⟨by rfl, ?y11k4⟩) (by assumption) ?r11k4
              case y11k4 => (intro w hSw; (try dsimp only at hSw); go_simp; try with_reducible rfl)
              change wpAnyH _ _ _ _ _ _ _ (Act.put _ (some 47) _) _; simp only [Act.put, List.setIfInBounds_toArray, List.set_cons_zero, List.set_cons_succ]
              refine wpAnyH_ready (rs := [12]) (by kernel_rfl) (by simp) ?_
              refine AllReadyH.cons rfl (fun K hK => ?_) AllReadyH.nil
              go_simp
              go_at_call 3
              refine (HL2.out _ HBX.out).mono ?_
              rintro e w6 ⟨rfl, hb6⟩
              have HBX := Lib.hid hb6
              clear hb6
              dsimp only
              refine hK.out _ _ ?_ (fun hHeld => ?_)
              · exact HJX.out _ HBX.out
              clear hK K
              refine wpAnyH_take (i := 13) (v := ?v13k4) rfl (by kernel_rfl) (by kernel_rfl) (by kernel_rfl) (fun _ _ _ h => h) (Or.inl ⟨by rfl, ?y13k4⟩) (by assumption) ?r13k4
              case y13k4 => (intro w hSw; (try dsimp only at hSw); go_simp; try with_reducible rfl)
              change wpAnyH _ _ _ _ _ _ _ (Act.put _ (some 49) _) _; simp only [Act.put, List.setIfInBounds_toArray, List.set_cons_zero, List.set_cons_succ]
              refine wpAnyH_take (i := 14) (v := ?v14k4) rfl (by kernel_rfl) (by kernel_rfl) (by kernel_rfl) (fun _ _ _ h => h) (Or.inl ⟨by rfl, ?y14k4⟩) (by assumption) ?r14k4
              case y14k4 => (intro w hSw; (try dsimp only at hSw); go_simp; try with_reducible rfl)
              change wpAnyH _ _ _ _ _ _ _ (Act.put _ (some 50) _) _; simp only [Act.put, List.setIfInBounds_toArray, List.set_cons_zero, List.set_cons_succ]
              refine wpAnyH_take (i := 15) (v := ?v15k4) rfl (by kernel_rfl) (by kernel_rfl) (by kernel_rfl) (fun _ _ _ h => h) (Or.inl ⟨by rfl, ?y15k4⟩) (by assumption) ?r15k4
              case y15k4 => (intro w hSw; (try dsimp only at hSw); go_simp; try with_reducible rfl)
              change wpAnyH _ _ _ _ _ _ _ (Act.put _ (some 51) _) _; simp only [Act.put, List.setIfInBounds_toArray, List.set_cons_zero, List.set_cons_succ]
              refine wpAnyH_take (i := 16) (v := ?v16k4) rfl (by kernel_rfl) (by kernel_rfl) (by kernel_rfl) (fun _ _ _ h => h) (Or.inl ⟨by rfl, ?y16k4⟩) (by assumption) ?r16k4
              case y16k4 => (intro w hSw; (try dsimp only at hSw); go_simp; try with_reducible rfl)
              change wpAnyH _ _ _ _ _ _ _ (Act.put _ (some 52) _) _; simp only [Act.put, List.setIfInBounds_toArray, List.set_cons_zero, List.set_cons_succ]
              refine wpAnyH_take (i := 17) (v := ?v17k4) rfl (by kernel_rfl) (by kernel_rfl) (by kernel_rfl) (fun _ _ _ h => h) (Or.inl ⟨by rfl, ?y17k4⟩) (by assumption) ?r17k4
              case y17k4 => (intro w hSw; (try dsimp only at hSw); go_simp; try with_reducible rfl)
              change wpAnyH _ _ _ _ _ _ _ (Act.put _ (some 53) _) _; simp only [Act.put, List.setIfInBounds_toArray, List.set_cons_zero, List.set_cons_succ]
              refine wpAnyH_take (i := 18) (v := ?v18k4) rfl (by kernel_rfl) (by kernel_rfl) (by kernel_rfl) (fun _ _ _ h => h) (Or.inl ⟨by rfl, ?y18k4⟩) (by assumption) ?r18k4
              case y18k4 => (intro w hSw; (try dsimp only at hSw); go_simp; try with_reducible rfl)
              change wpAnyH _ _ _ _ _ _ _ (Act.put _ (some 54) _) _; simp only [Act.put, List.setIfInBounds_toArray, List.set_cons_zero, List.set_cons_succ]
              refine wpAnyH_ready (rs := [19]) (by kernel_rfl) (by simp) ?_
              refine AllReadyH.cons rfl (fun K hK => ?_) AllReadyH.nil
              go_simp
              go_at_call 4
              refine (HL3.out _ HBX.out _).mono ?_
              rintro e w6 ⟨rfl, hb6⟩
              have HBX := Lib.hid hb6
              clear hb6
              dsimp only
              refine hK.out _ _ ?_ (fun hHeld => ?_)
              · exact HJX.out _ HBX.out
              clear hK K
              refine wpAnyH_take (i := 20) (v := ?v20k4) rfl (by kernel_rfl) (by kernel_rfl) (by kernel_rfl) (fun _ _ _ h => h) (Or.inl ⟨by rfl, ?y20k4⟩) (by assumption) ?r20k4
              case y20k4 => (intro w hSw; (try dsimp only at hSw); go_simp; try with_reducible rfl)
              change wpAnyH _ _ _ _ _ _ _ (Act.put _ (some 56) _) _; simp only [Act.put, List.setIfInBounds_toArray, List.set_cons_zero, List.set_cons_succ]
              refine wpAnyH_take (i := 21) (v := ?v21k4) rfl (by kernel_rfl) (by kernel_rfl) (by kernel_rfl) (fun _ _ _ h => h) (Or.inl ⟨by rfl, ?y21k4⟩) (by assumption) ?r21k4
              case y21k4 => (intro w hSw; (try dsimp only at hSw); go_simp; try with_reducible rfl)
              change wpAnyH _ _ _ _ _ _ _ (Act.put _ (some 57) _) _; simp only [Act.put, List.setIfInBounds_toArray, List.set_cons_zero, List.set_cons_succ]
              refine wpAnyH_take (i := 22) (v := ?v22k4) rfl (by kernel_rfl) (by kernel_rfl) (by kernel_rfl) (fun _ _ _ h => h) (Or.inl ⟨by rfl, ?y22k4⟩) (by assumption) ?r22k4
              case y22k4 => (intro w hSw; (try dsimp only at hSw); go_simp; try with_reducible rfl)
              change wpAnyH _ _ _ _ _ _ _ (Act.put _ (some 58) _) _; simp only [Act.put, List.setIfInBounds_toArray, List.set_cons_zero, List.set_cons_succ]
              refine wpAnyH_take (i := 23) (v := ?v23k4) rfl (by kernel_rfl) (by kernel_rfl) (by kernel_rfl) (fun _ _ _ h => h) (Or.inl ⟨by rfl, ?y23k4⟩) (by assumption) ?r23k4
              case y23k4 => (intro w hSw; (try dsimp only at hSw); go_simp; try with_reducible rfl)
              change wpAnyH _ _ _ _ _ _ _ (Act.put _ (some 59) _) _; simp only [Act.put, List.setIfInBounds_toArray, List.set_cons_zero, List.set_cons_succ]
              refine wpAnyH_take (i := 24) (v := ?v24k4) rfl (by kernel_rfl) (by kernel_rfl) (by kernel_rfl) (fun _ _ _ h => h) (Or.inl ⟨by rfl, ?y24k4⟩) (by assumption) ?r24k4
              case y24k4 => (intro w hSw; (try dsimp only at hSw); go_simp; try with_reducible rfl)
              change wpAnyH _ _ _ _ _ _ _ (Act.put _ (some 60) _) _; simp only [Act.put, List.setIfInBounds_toArray, List.set_cons_zero, List.set_cons_succ]
              refine wpAnyH_take (i := 25) (v := ?v25k4) rfl (by kernel_rfl) (by kernel_rfl) (by kernel_rfl) (fun _ _ _ h => h) (Or.inl ⟨by rfl, ?y25k4⟩) (by assumption) ?r25k4
              case y25k4 => (intro w hSw; (try dsimp only at hSw); go_simp; try with_reducible rfl)
              change wpAnyH _ _ _ _ _ _ _ (Act.put _ (some 61) _) _; simp only [Act.put, List.setIfInBounds_toArray, List.set_cons_zero, List.set_cons_succ]
              refine wpAnyH_ready (rs := [26]) (by kernel_rfl) (by simp) ?_
              refine AllReadyH.cons rfl (fun K hK => ?_) AllReadyH.nil
              go_simp
              go_at_call 4
              refine (HL3.out _ HBX.out _).mono ?_
              rintro e w6 ⟨rfl, hb6⟩
              have HBX := Lib.hid hb6
              clear hb6
              dsimp only
              refine hK.out _ _ ?_ (fun hHeld => ?_)
              · exact HJX.out _ HBX.out
              clear hK K
              refine wpAnyH_take (i := 27) (v := ?v27k4) rfl (by kernel_rfl) (by kernel_rfl) (by kernel_rfl) (fun _ _ _ h => h) (Or.inl ⟨by rfl, ?y27k4⟩) (by assumption) ?r27k4
              case y27k4 => (intro w hSw; (try dsimp only at hSw); go_simp; try with_reducible rfl)
              change wpAnyH _ _ _ _ _ _ _ (Act.put _ (some 63) _) _; simp only [Act.put, List.setIfInBounds_toArray, List.set_cons_zero, List.set_cons_succ]
              refine wpAnyH_take (i := 28) (v := ?v28k4) rfl (by kernel_rfl) (by kernel_rfl) (by kernel_rfl) (fun _ _ _ h => h) (Or.inl ⟨by rfl, ?y28k4⟩) (by assumption) ?r28k4
              case y28k4 => (intro w hSw; (try dsimp only at hSw); go_simp; try with_reducible rfl)
              change wpAnyH _ _ _ _ _ _ _ (Act.put _ (some 64) _) _; simp only [Act.put, List.setIfInBounds_toArray, List.set_cons_zero, List.set_cons_succ]
              refine wpAnyH_take (i := 29) (v := ?v29k4) rfl (by kernel_rfl) (by kernel_rfl) (by kernel_rfl) (fun _ _ _ h => h) (Or.inl ⟨by rfl, ?y29k4⟩) (by assumption) ?r29k4
              case y29k4 => (intro w hSw; (try dsimp only at hSw); go_simp; try with_reducible rfl)
              change wpAnyH _ _ _ _ _ _ _ (Act.put _ (some 65) _) _; simp only [Act.put, List.setIfInBounds_toArray, List.set_cons_zero, List.set_cons_succ]
              refine wpAnyH_take (i := 30) (v := ?v30k4) rfl (by kernel_rfl) (by kernel_rfl) (by kernel_rfl) (fun _ _ _ h => h) (Or.inl ⟨by rfl, ?y30k4⟩) (by assumption) ?r30k4
              case y30k4 => (intro w hSw; (try dsimp only at hSw); go_simp; try with_reducible rfl)
              change wpAnyH _ _ _ _ _ _ _ (Act.put _ (some 66) _) _; simp only [Act.put, List.setIfInBounds_toArray, List.set_cons_zero, List.set_cons_succ]
              refine wpAnyH_take (i := 31) (v := ?v31k4) rfl (by kernel_rfl) (by kernel_rfl) (by kernel_rfl) (fun _ _ _ h => h) (Or.inl ⟨by rfl, ?y31k4⟩) (by assumption) ?r31k4
              case y31k4 => (intro w hSw; (try dsimp only at hSw); go_simp; try with_reducible rfl)
              change wpAnyH _ _ _ _ _ _ _ (Act.put _ (some 67) _) _; simp only [Act.put, List.setIfInBounds_toArray, List.set_cons_zero, List.set_cons_succ]
              refine wpAnyH_take (i := 32) (v := ?v32k4) rfl (by kernel_rfl) (by kernel_rfl) (by kernel_rfl) (fun _ _ _ h => h) (Or.inl ⟨by rfl, ?y32k4⟩) (by assumption) ?r32k4
              case y32k4 => (intro w hSw; (try dsimp only at hSw); go_simp; try with_reducible rfl)
              change wpAnyH _ _ _ _ _ _ _ (Act.put _ (some 68) _) _; simp only [Act.put, List.setIfInBounds_toArray, List.set_cons_zero, List.set_cons_succ]
              refine wpAnyH_take (i := 33) (v := ?v33k4) rfl (by kernel_rfl) (by kernel_rfl) (by kernel_rfl) (fun _ _ _ h => h) (Or.inl ⟨by rfl, ?y33k4⟩) (by assumption) ?r33k4
              case y33k4 => (intro w hSw; (try dsimp only at hSw); go_simp; try with_reducible rfl)
              change wpAnyH _ _ _ _ _ _ _ (Act.put _ (some 69) _) _; simp only [Act.put, List.setIfInBounds_toArray, List.set_cons_zero, List.set_cons_succ]
              refine wpAnyH_take (i := 34) (v := ?v34k4) rfl (by kernel_rfl) (by kernel_rfl) (by kernel_rfl) (fun _ _ _ h => h) (Or.inl ⟨by rfl, ?y34k4⟩) (by assumption) ?r34k4
              case y34k4 => (intro w hSw; (try dsimp only at hSw); go_simp; try with_reducible rfl)
              change wpAnyH _ _ _ _ _ _ _ (Act.put _ (some 70) _) _; simp only [Act.put, List.setIfInBounds_toArray, List.set_cons_zero, List.set_cons_succ]
              refine wpAnyH_take (i := 35) (v := ?v35k4) rfl (by kernel_rfl) (by kernel_rfl) (by kernel_rfl) (fun _ _ _ h => h) (Or.inl ⟨by rfl, ?y35k4⟩) (by assumption) ?r35k4
              case y35k4 => (intro w hSw; (try dsimp only at hSw); go_simp; try with_reducible rfl)
              change wpAnyH _ _ _ _ _ _ _ (Act.put _ (some 71) _) _; simp only [Act.put, List.setIfInBounds_toArray, List.set_cons_zero, List.set_cons_succ]
              refine wpAnyH_take (i := 36) (v := ?v36k4) rfl (by kernel_rfl) (by kernel_rfl) (by kernel_rfl) (fun _ _ _ h => h) (Or.inl ⟨by rfl, ?y36k4⟩) (by assumption) ?r36k4
              case y36k4 => (intro w hSw; (try dsimp only at hSw); go_simp; try with_reducible rfl)
              change wpAnyH _ _ _ _ _ _ _ (Act.put _ (some 72) _) _; simp only [Act.put, List.setIfInBounds_toArray, List.set_cons_zero, List.set_cons_succ]
              refine wpAnyH_take (i := 37) (v := ?v37k4) rfl (by kernel_rfl) (by kernel_rfl) (by kernel_rfl) (fun _ _ _ h => h) (Or.inl ⟨by rfl, ?y37k4⟩) (by assumption) ?r37k4
              case y37k4 => (intro w hSw; (try dsimp only at hSw); go_simp; try with_reducible rfl)
              change wpAnyH _ _ _ _ _ _ _ (Act.put _ (some 73) _) _; simp only [Act.put, List.setIfInBounds_toArray, List.set_cons_zero, List.set_cons_succ]
              refine wpAnyH_take (i := 38) (v := ?v38k4) rfl (by kernel_rfl) (by kernel_rfl) (by kernel_rfl) (fun _ _ _ h => h) (Or.inl ⟨by rfl, ?y38k4⟩) (by assumption) ?r38k4
              case y38k4 => (intro w hSw; (try dsimp only at hSw); go_simp; try with_reducible rfl)
              change wpAnyH _ _ _ _ _ _ _ (Act.put _ (some 74) _) _; simp only [Act.put, List.setIfInBounds_toArray, List.set_cons_zero, List.set_cons_succ]
              refine wpAnyH_take (i := 40) (v := ?v40k4) rfl (by kernel_rfl) (by kernel_rfl) (by kernel_rfl) (fun _ _ _ h => h) (Or.inl ⟨by rfl, ?y40k4⟩) (by assumption) ?r40k4
              case y40k4 => (intro w hSw; (try dsimp only at hSw); go_simp; try with_reducible rfl)
              change wpAnyH _ _ _ _ _ _ _ (Act.put _ (some 76) _) _; simp only [Act.put, List.setIfInBounds_toArray, List.set_cons_zero, List.set_cons_succ]
              refine wpAnyH_ready (rs := [39, 41]) (by kernel_rfl) (by simp) ?_
              refine AllReadyH.cons rfl (fun K hK => ?_) (AllReadyH.cons rfl (fun K hK => ?_) AllReadyH.nil)
              · go_simp
                refine hK.out _ _ ?_ (fun hHeld => ?_)
                · exact HJX.out _ (below_al HBX.out rfl _)
                clear hK K
                refine wpAnyH_ready (rs := [41]) (by kernel_rfl) (by simp) ?_
                refine AllReadyH.cons rfl (fun K hK => ?_) AllReadyH.nil
                go_simp
                refine hK.out _ _ ?_ (fun hHeld => ?_)
                · exact HJX.out _ (below_al2 HBX.out rfl _ _)
                clear hK K
                refine wpAnyH_ready (rs := [42]) (by kernel_rfl) (by simp) ?_
                refine AllReadyH.cons rfl (fun K hK => ?_) AllReadyH.nil
                go_simp
                go_at_call 5
                refine (HL4.out _ HBX.out).mono ?_
                rintro e w6 ⟨rfl, hb6⟩
                have HBX := Lib.hid hb6
                clear hb6
                dsimp only
                refine hK.out _ _ ?_ (fun hHeld => ?_)
                · exact HJX.out _ HBX.out
                clear hK K
                refine wpAnyH_take (i := 43) (v := ?v43k4a) rfl (by kernel_rfl) (by kernel_rfl) (by kernel_rfl) (fun _ _ _ h => h) (Or.inl ⟨by rfl, ?y43k4a⟩) (by assumption) ?r43k4a
                case y43k4a => (intro w hSw; (try dsimp only at hSw); go_simp; try with_reducible rfl)
                change wpAnyH _ _ _ _ _ _ _ (Act.put _ (some 79) _) _; simp only [Act.put, List.setIfInBounds_toArray, List.set_cons_zero, List.set_cons_succ]
                refine wpAnyH_take (i := 44) (v := ?v44k4a) rfl (by kernel_rfl) (by kernel_rfl) (by kernel_rfl) (fun _ _ _ h => h) (Or.inl ⟨by rfl, ?y44k4a⟩) (by assumption) ?r44k4a
                case y44k4a => (intro w hSw; (try dsimp only at hSw); go_simp; try with_reducible rfl)
                change wpAnyH _ _ _ _ _ _ _ (Act.put _ (some 80) _) _; simp only [Act.put, List.setIfInBounds_toArray, List.set_cons_zero, List.set_cons_succ]
                refine wpAnyH_take (i := 45) (v := ?v45k4a) rfl (by kernel_rfl) (by kernel_rfl) (by kernel_rfl) (fun _ _ _ h => h) (Or.inl ⟨by rfl, ?y45k4a⟩) (by assumption) ?r45k4a
                case y45k4a => (intro w hSw; (try dsimp only at hSw); go_simp; try with_reducible rfl)
                change wpAnyH _ _ _ _ _ _ _ (Act.put _ (some 81) _) _; simp only [Act.put, List.setIfInBounds_toArray, List.set_cons_zero, List.set_cons_succ]
                refine wpAnyH_take (i := 46) (v := ?v46k4a) rfl (by kernel_rfl) (by kernel_rfl) (by kernel_rfl) (fun _ _ _ h => h) (Or.inl ⟨by rfl, ?y46k4a⟩) (by assumption) ?r46k4a
                case y46k4a => (intro w hSw; (try dsimp only at hSw); go_simp; try with_reducible rfl)
                change wpAnyH _ _ _ _ _ _ _ (Act.put _ (some 82) _) _; simp only [Act.put, List.setIfInBounds_toArray, List.set_cons_zero, List.set_cons_succ]
                refine wpAnyH_take (i := 47) (v := ?v47k4a) rfl (by kernel_rfl) (by kernel_rfl) (by kernel_rfl) (fun _ _ _ h => h) (Or.inl ⟨by rfl, ?y47k4a⟩) (by assumption) ?r47k4a
                case y47k4a => (intro w hSw; (try dsimp only at hSw); go_simp; try with_reducible rfl)
                change wpAnyH _ _ _ _ _ _ _ (Act.put _ (some 83) _) _; simp only [Act.put, List.setIfInBounds_toArray, List.set_cons_zero, List.set_cons_succ]
                refine wpAnyH_take (i := 48) (v := ?v48k4a) rfl (by kernel_rfl) (by kernel_rfl) (by kernel_rfl) (fun _ _ _ h => h) (Or.inl ⟨by rfl, ?y48k4a⟩) (by assumption) ?r48k4a
                case y48k4a => (intro w hSw; (try dsimp only at hSw); go_simp; try with_reducible rfl)
                change wpAnyH _ _ _ _ _ _ _ (Act.put _ (some 84) _) _; simp only [Act.put, List.setIfInBounds_toArray, List.set_cons_zero, List.set_cons_succ]
                refine wpAnyH_take (i := 49) (v := ?v49k4a) rfl (by kernel_rfl) (by kernel_rfl) (by kernel_rfl) (fun _ _ _ h => h) (Or.inl ⟨by rfl, ?y49k4a⟩) (by assumption) ?r49k4a
                case y49k4a => (intro w hSw; (try dsimp only at hSw); go_simp; try with_reducible rfl)
                change wpAnyH _ _ _ _ _ _ _ (Act.put _ (some 85) _) _; simp only [Act.put, List.setIfInBounds_toArray, List.set_cons_zero, List.set_cons_succ]
                refine wpAnyH_take (i := 50) (v := ?v50k4a) rfl (by kernel_rfl) (by kernel_rfl) (by kernel_rfl) (fun _ _ _ h => h) (Or.inl ⟨by rfl, ?y50k4a⟩) (by assumption) ?r50k4a
                case y50k4a => (intro w hSw; (try dsimp only at hSw); go_simp; try with_reducible rfl)
                change wpAnyH _ _ _ _ _ _ _ (Act.put _ (some 86) _) _; simp only [Act.put, List.setIfInBounds_toArray, List.set_cons_zero, List.set_cons_succ]
                refine wpAnyH_take (i := 51) (v := ?v51k4a) rfl (by kernel_rfl) (by kernel_rfl) (by kernel_rfl) (fun _ _ _ h => h) (Or.inl ⟨by rfl, ?y51k4a⟩) (by assumption) ?r51k4a
                case y51k4a => (intro w hSw; (try dsimp only at hSw); go_simp; try with_reducible rfl)
                change wpAnyH _ _ _ _ _ _ _ (Act.put _ (some 87) _) _; simp only [Act.put, List.setIfInBounds_toArray, List.set_cons_zero, List.set_cons_succ]
                refine wpAnyH_take (i := 52) (v := ?v52k4a) rfl (by kernel_rfl) (by kernel_rfl) (by kernel_rfl) (fun _ _ _ h => h) (Or.inl ⟨by rfl, ?y52k4a⟩) (by assumption) ?r52k4a
                case y52k4a => (intro w hSw; (try dsimp only at hSw); go_simp; try with_reducible rfl)
                change wpAnyH _ _ _ _ _ _ _ (Act.put _ (some 88) _) _; simp only [Act.put, List.setIfInBounds_toArray, List.set_cons_zero, List.set_cons_succ]
                refine wpAnyH_take (i := 53) (v := undef) rfl (by kernel_rfl) (by kernel_rfl) (by kernel_rfl) (fun _ _ _ h => h) (Or.inr ⟨by rfl, rfl⟩) (by assumption) ?_
                change wpAnyH _ _ _ _ _ _ _ (Act.put _ (some 89) _) _; simp only [Act.put, List.setIfInBounds_toArray, List.set_cons_zero, List.set_cons_succ]
                refine wpAnyH_take (i := 54) (v := undef) rfl (by kernel_rfl) (by kernel_rfl) (by kernel_rfl) (fun _ _ _ h => h) (Or.inr ⟨by rfl, rfl⟩) (by assumption) ?_
                change wpAnyH _ _ _ _ _ _ _ (Act.put _ (some 90) _) _; simp only [Act.put, List.setIfInBounds_toArray, List.set_cons_zero, List.set_cons_succ]
                refine wpAnyH_take (i := 55) (v := undef) rfl (by kernel_rfl) (by kernel_rfl) (by kernel_rfl) (fun _ _ _ h => h) (Or.inr ⟨by rfl, rfl⟩) (by assumption) ?_
                change wpAnyH _ _ _ _ _ _ _ (Act.put _ (some 91) _) _; simp only [Act.put, List.setIfInBounds_toArray, List.set_cons_zero, List.set_cons_succ]
                refine wpAnyH_take (i := 56) (v := undef) rfl (by kernel_rfl) (by kernel_rfl) (by kernel_rfl) (fun _ _ _ h => h) (Or.inr ⟨by rfl, rfl⟩) (by assumption) ?_
                change wpAnyH _ _ _ _ _ _ _ (Act.put _ (some 92) _) _; simp only [Act.put, List.setIfInBounds_toArray, List.set_cons_zero, List.set_cons_succ]
                refine wpAnyH_take (i := 57) (v := undef) rfl (by kernel_rfl) (by kernel_rfl) (by kernel_rfl) (fun _ _ _ h => h) (Or.inr ⟨by rfl, rfl⟩) (by assumption) ?_
                change wpAnyH _ _ _ _ _ _ _ (Act.put _ (some 93) _) _; simp only [Act.put, List.setIfInBounds_toArray, List.set_cons_zero, List.set_cons_succ]
                refine wpAnyH_take (i := 58) (v := undef) rfl (by kernel_rfl) (by kernel_rfl) (by kernel_rfl) (fun _ _ _ h => h) (Or.inr ⟨by rfl, rfl⟩) (by assumption) ?_
                change wpAnyH _ _ _ _ _ _ _ (Act.put _ (some 94) _) _; simp only [Act.put, List.setIfInBounds_toArray, List.set_cons_zero, List.set_cons_succ]
                refine wpAnyH_take (i := 59) (v := undef) rfl (by kernel_rfl) (by kernel_rfl) (by kernel_rfl) (fun _ _ _ h => h) (Or.inr ⟨by rfl, rfl⟩) (by assumption) ?_
                change wpAnyH _ _ _ _ _ _ _ (Act.put _ (some 95) _) _; simp only [Act.put, List.setIfInBounds_toArray, List.set_cons_zero, List.set_cons_succ]
                refine wpAnyH_take (i := 60) (v := undef) rfl (by kernel_rfl) (by kernel_rfl) (by kernel_rfl) (fun _ _ _ h => h) (Or.inr ⟨by rfl, rfl⟩) (by assumption) ?_
                change wpAnyH _ _ _ _ _ _ _ (Act.put _ (some 96) _) _; simp only [Act.put, List.setIfInBounds_toArray, List.set_cons_zero, List.set_cons_succ]
                refine wpAnyH_take (i := 61) (v := undef) rfl (by kernel_rfl) (by kernel_rfl) (by kernel_rfl) (fun _ _ _ h => h) (Or.inr ⟨by rfl, rfl⟩) (by assumption) ?_
                change wpAnyH _ _ _ _ _ _ _ (Act.put _ (some 97) _) _; simp only [Act.put, List.setIfInBounds_toArray, List.set_cons_zero, List.set_cons_succ]
                refine wpAnyH_take (i := 62) (v := undef) rfl (by kernel_rfl) (by kernel_rfl) (by kernel_rfl) (fun _ _ _ h => h) (Or.inr ⟨by rfl, rfl⟩) (by assumption) ?_
                change wpAnyH _ _ _ _ _ _ _ (Act.put _ (some 98) _) _; simp only [Act.put, List.setIfInBounds_toArray, List.set_cons_zero, List.set_cons_succ]
                refine wpAnyH_take (i := 63) (v := undef) rfl (by kernel_rfl) (by kernel_rfl) (by kernel_rfl) (fun _ _ _ h => h) (Or.inr ⟨by rfl, rfl⟩) (by assumption) ?_
                change wpAnyH _ _ _ _ _ _ _ (Act.put _ (some 99) _) _; simp only [Act.put, List.setIfInBounds_toArray, List.set_cons_zero, List.set_cons_succ]
                refine wpAnyH_take (i := 64) (v := ?v64k4a) rfl (by kernel_rfl) (by kernel_rfl) (by kernel_rfl) (fun _ _ _ h => h) (Or.inl ⟨by rfl, ?y64k4a⟩) (by assumption) ?r64k4a
                case y64k4a => (intro w hSw; (try dsimp only at hSw); go_simp; try with_reducible rfl)
                change wpAnyH _ _ _ _ _ _ _ (Act.put _ (some 100) _) _; simp only [Act.put, List.setIfInBounds_toArray, List.set_cons_zero, List.set_cons_succ]
                refine wpAnyH_take (i := 65) (v := ?v65k4a) rfl (by kernel_rfl) (by kernel_rfl) (by kernel_rfl) (fun _ _ _ h => h) (Or.inl ⟨by rfl, ?y65k4a⟩) (by assumption) ?r65k4a
                case y65k4a => (intro w hSw; (try dsimp only at hSw); go_simp; try with_reducible rfl)
                change wpAnyH _ _ _ _ _ _ _ (Act.put _ (some 101) _) _; simp only [Act.put, List.setIfInBounds_toArray, List.set_cons_zero, List.set_cons_succ]
                refine wpAnyH_done (by kernel_rfl) ?_ _
                refine NoPanic.normal ?_
                go_wp2
                go_roundg gi9
                case measure => omega
                case rel => exact ⟨i + 1, by go_num, by omega, up HB5.out HBX.out⟩
              · go_simp
                refine hK.out _ _ ?_ (fun hHeld => ?_)
                · exact HJX.out _ (below_al HBX.out rfl _)
                clear hK K
                refine wpAnyH_ready (rs := [39]) (by kernel_rfl) (by simp) ?_
                refine AllReadyH.cons rfl (fun K hK => ?_) AllReadyH.nil
                go_simp
                refine hK.out _ _ ?_ (fun hHeld => ?_)
                · exact HJX.out _ (below_al2 HBX.out rfl _ _)
                clear hK K
                refine wpAnyH_ready (rs := [42]) (by kernel_rfl) (by simp) ?_
                refine AllReadyH.cons rfl (fun K hK => ?_) AllReadyH.nil
                go_simp
                go_at_call 5
                refine (HL6.out _ HBX.out).mono ?_
                rintro e w6 ⟨rfl, hb6⟩
                have HBX := Lib.hid hb6
                clear hb6
                dsimp only
                refine hK.out _ _ ?_ (fun hHeld => ?_)
                · exact HJX.out _ HBX.out
                clear hK K
                refine wpAnyH_take (i := 43) (v := ?v43k4b) rfl (by kernel_rfl) (by kernel_rfl) (by kernel_rfl) (fun _ _ _ h => h) (Or.inl ⟨by rfl, ?y43k4b⟩) (by assumption) ?r43k4b
                case y43k4b => (intro w hSw; (try dsimp only at hSw); go_simp; try with_reducible rfl)
                change wpAnyH _ _ _ _ _ _ _ (Act.put _ (some 79) _) _; simp only [Act.put, List.setIfInBounds_toArray, List.set_cons_zero, List.set_cons_succ]
                refine wpAnyH_take (i := 44) (v := ?v44k4b) rfl (by kernel_rfl) (by kernel_rfl) (by kernel_rfl) (fun _ _ _ h => h) (Or.inl ⟨by rfl, ?y44k4b⟩) (by assumption) ?r44k4b
                case y44k4b => (intro w hSw; (try dsimp only at hSw); go_simp; try with_reducible rfl)
                change wpAnyH _ _ _ _ _ _ _ (Act.put _ (some 80) _) _; simp only [Act.put, List.setIfInBounds_toArray, List.set_cons_zero, List.set_cons_succ]
                refine wpAnyH_take (i := 45) (v := ?v45k4b) rfl (by kernel_rfl) (by kernel_rfl) (by kernel_rfl) (fun _ _ _ h => h) (Or.inl ⟨by rfl, ?y45k4b⟩) (by assumption) ?r45k4b
                case y45k4b => (intro w hSw; (try dsimp only at hSw); go_simp; try with_reducible rfl)
                change wpAnyH _ _ _ _ _ _ _ (Act.put _ (some 81) _) _; simp only [Act.put, List.setIfInBounds_toArray, List.set_cons_zero, List.set_cons_succ]
                refine wpAnyH_take (i := 46) (v := ?v46k4b) rfl (by kernel_rfl) (by kernel_rfl) (by kernel_rfl) (fun _ _ _ h => h) (Or.inl ⟨by rfl, ?y46k4b⟩) (by assumption) ?r46k4b
                case y46k4b => (intro w hSw; (try dsimp only at hSw); go_simp; try with_reducible rfl)
                change wpAnyH _ _ _ _ _ _ _ (Act.put _ (some 82) _) _; simp only [Act.put, List.setIfInBounds_toArray, List.set_cons_zero, List.set_cons_succ]
                refine wpAnyH_take (i := 47) (v := ?v47k4b) rfl (by kernel_rfl) (by kernel_rfl) (by kernel_rfl) (fun _ _ _ h => h) (Or.inl ⟨by rfl, ?y47k4b⟩) (by assumption) ?r47k4b
                case y47k4b => (intro w hSw; (try dsimp only at hSw); go_simp; try with_reducible rfl)
                change wpAnyH _ _ _ _ _ _ _ (Act.put _ (some 83) _) _; simp only [Act.put, List.setIfInBounds_toArray, List.set_cons_zero, List.set_cons_succ]
                refine wpAnyH_take (i := 48) (v := ?v48k4b) rfl (by kernel_rfl) (by kernel_rfl) (by kernel_rfl) (fun _ _ _ h => h) (Or.inl ⟨by rfl, ?y48k4b⟩) (by assumption) ?r48k4b
                case y48k4b => (intro w hSw; (try dsimp only at hSw); go_simp; try with_reducible rfl)
                change wpAnyH _ _ _ _ _ _ _ (Act.put _ (some 84) _) _; simp only [Act.put, List.setIfInBounds_toArray, List.set_cons_zero, List.set_cons_succ]
                refine wpAnyH_take (i := 49) (v := ?v49k4b) rfl (by kernel_rfl) (by kernel_rfl) (by kernel_rfl) (fun _ _ _ h => h) (Or.inl ⟨by rfl, ?y49k4b⟩) (by assumption) ?r49k4b
                case y49k4b => (intro w hSw; (try dsimp only at hSw); go_simp; try with_reducible rfl)
                change wpAnyH _ _ _ _ _ _ _ (Act.put _ (some 85) _) _; simp only [Act.put, List.setIfInBounds_toArray, List.set_cons_zero, List.set_cons_succ]
                refine wpAnyH_take (i := 50) (v := ?v50k4b) rfl (by kernel_rfl) (by kernel_rfl) (by kernel_rfl) (fun _ _ _ h => h) (Or.inl ⟨by rfl, ?y50k4b⟩) (by assumption) ?r50k4b
                case y50k4b => (intro w hSw; (try dsimp only at hSw); go_simp; try with_reducible rfl)
                change wpAnyH _ _ _ _ _ _ _ (Act.put _ (some 86) _) _; simp only [Act.put, List.setIfInBounds_toArray, List.set_cons_zero, List.set_cons_succ]
                refine wpAnyH_take (i := 51) (v := ?v51k4b) rfl (by kernel_rfl) (by kernel_rfl) (by kernel_rfl) (fun _ _ _ h => h) (Or.inl ⟨by rfl, ?y51k4b⟩) (by assumption) ?r51k4b
                case y51k4b => (intro w hSw; (try dsimp only at hSw); go_simp; try with_reducible rfl)
                change wpAnyH _ _ _ _ _ _ _ (Act.put _ (some 87) _) _; simp only [Act.put, List.setIfInBounds_toArray, List.set_cons_zero, List.set_cons_succ]
                refine wpAnyH_take (i := 52) (v := ?v52k4b) rfl (by kernel_rfl) (by kernel_rfl) (by kernel_rfl) (fun _ _ _ h => h) (Or.inl ⟨by rfl, ?y52k4b⟩) (by assumption) ?r52k4b
                case y52k4b => (intro w hSw; (try dsimp only at hSw); go_simp; try with_reducible rfl)
                change wpAnyH _ _ _ _ _ _ _ (Act.put _ (some 88) _) _; simp only [Act.put, List.setIfInBounds_toArray, List.set_cons_zero, List.set_cons_succ]
                refine wpAnyH_take (i := 53) (v := undef) rfl (by kernel_rfl) (by kernel_rfl) (by kernel_rfl) (fun _ _ _ h => h) (Or.inr ⟨by rfl, rfl⟩) (by assumption) ?_
                change wpAnyH _ _ _ _ _ _ _ (Act.put _ (some 89) _) _; simp only [Act.put, List.setIfInBounds_toArray, List.set_cons_zero, List.set_cons_succ]
                refine wpAnyH_take (i := 54) (v := undef) rfl (by kernel_rfl) (by kernel_rfl) (by kernel_rfl) (fun _ _ _ h => h) (Or.inr ⟨by rfl, rfl⟩) (by assumption) ?_
                change wpAnyH _ _ _ _ _ _ _ (Act.put _ (some 90) _) _; simp only [Act.put, List.setIfInBounds_toArray, List.set_cons_zero, List.set_cons_succ]
                refine wpAnyH_take (i := 55) (v := undef) rfl (by kernel_rfl) (by kernel_rfl) (by kernel_rfl) (fun _ _ _ h => h) (Or.inr ⟨by rfl, rfl⟩) (by assumption) ?_
                change wpAnyH _ _ _ _ _ _ _ (Act.put _ (some 91) _) _; simp only [Act.put, List.setIfInBounds_toArray, List.set_cons_zero, List.set_cons_succ]
                refine wpAnyH_take (i := 56) (v := undef) rfl (by kernel_rfl) (by kernel_rfl) (by kernel_rfl) (fun _ _ _ h => h) (Or.inr ⟨by rfl, rfl⟩) (by assumption) ?_
                change wpAnyH _ _ _ _ _ _ _ (Act.put _ (some 92) _) _; simp only [Act.put, List.setIfInBounds_toArray, List.set_cons_zero, List.set_cons_succ]
                refine wpAnyH_take (i := 57) (v := undef) rfl (by kernel_rfl) (by kernel_rfl) (by kernel_rfl) (fun _ _ _ h => h) (Or.inr ⟨by rfl, rfl⟩) (by assumption) ?_
                change wpAnyH _ _ _ _ _ _ _ (Act.put _ (some 93) _) _; simp only [Act.put, List.setIfInBounds_toArray, List.set_cons_zero, List.set_cons_succ]
                refine wpAnyH_take (i := 58) (v := undef) rfl (by kernel_rfl) (by kernel_rfl) (by kernel_rfl) (fun _ _ _ h => h) (Or.inr ⟨by rfl, rfl⟩) (by assumption) ?_
                change wpAnyH _ _ _ _ _ _ _ (Act.put _ (some 94) _) _; simp only [Act.put, List.setIfInBounds_toArray, List.set_cons_zero, List.set_cons_succ]
                refine wpAnyH_take (i := 59) (v := undef) rfl (by kernel_rfl) (by kernel_rfl) (by kernel_rfl) (fun _ _ _ h => h) (Or.inr ⟨by rfl, rfl⟩) (by assumption) ?_
                change wpAnyH _ _ _ _ _ _ _ (Act.put _ (some 95) _) _; simp only [Act.put, List.setIfInBounds_toArray, List.set_cons_zero, List.set_cons_succ]
                refine wpAnyH_take (i := 60) (v := undef) rfl (by kernel_rfl) (by kernel_rfl) (by kernel_rfl) (fun _ _ _ h => h) (Or.inr ⟨by rfl, rfl⟩) (by assumption) ?_
                change wpAnyH _ _ _ _ _ _ _ (Act.put _ (some 96) _) _; simp only [Act.put, List.setIfInBounds_toArray, List.set_cons_zero, List.set_cons_succ]
                refine wpAnyH_take (i := 61) (v := undef) rfl (by kernel_rfl) (by kernel_rfl) (by kernel_rfl) (fun _ _ _ h => h) (Or.inr ⟨by rfl, rfl⟩) (by assumption) ?_
                change wpAnyH _ _ _ _ _ _ _ (Act.put _ (some 97) _) _; simp only [Act.put, List.setIfInBounds_toArray, List.set_cons_zero, List.set_cons_succ]
                refine wpAnyH_take (i := 62) (v := undef) rfl (by kernel_rfl) (by kernel_rfl) (by kernel_rfl) (fun _ _ _ h => h) (Or.inr ⟨by rfl, rfl⟩) (by assumption) ?_
                change wpAnyH _ _ _ _ _ _ _ (Act.put _ (some 98) _) _; simp only [Act.put, List.setIfInBounds_toArray, List.set_cons_zero, List.set_cons_succ]
                refine wpAnyH_take (i := 63) (v := undef) rfl (by kernel_rfl) (by kernel_rfl) (by kernel_rfl) (fun _ _ _ h => h) (Or.inr ⟨by rfl, rfl⟩) (by assumption) ?_
                change wpAnyH _ _ _ _ _ _ _ (Act.put _ (some 99) _) _; simp only [Act.put, List.setIfInBounds_toArray, List.set_cons_zero, List.set_cons_succ]
                refine wpAnyH_take (i := 64) (v := ?v64k4b) rfl (by kernel_rfl) (by kernel_rfl) (by kernel_rfl) (fun _ _ _ h => h) (Or.inl ⟨by rfl, ?y64k4b⟩) (by assumption) ?r64k4b
                case y64k4b => (intro w hSw; (try dsimp only at hSw); go_simp; try with_reducible rfl)
                change wpAnyH _ _ _ _ _ _ _ (Act.put _ (some 100) _) _; simp only [Act.put, List.setIfInBounds_toArray, List.set_cons_zero, List.set_cons_succ]
                refine wpAnyH_take (i := 65) (v := ?v65k4b) rfl (by kernel_rfl) (by kernel_rfl) (by kernel_rfl) (fun _ _ _ h => h) (Or.inl ⟨by rfl, ?y65k4b⟩) (by assumption) ?r65k4b
                case y65k4b => (intro w hSw; (try dsimp only at hSw); go_simp; try with_reducible rfl)
                change wpAnyH _ _ _ _ _ _ _ (Act.put _ (some 101) _) _; simp only [Act.put, List.setIfInBounds_toArray, List.set_cons_zero, List.set_cons_succ]
                refine wpAnyH_done (by kernel_rfl) ?_ _
                refine NoPanic.normal ?_
                go_wp2
                go_roundg gi9
                case measure => omega
                case rel => exact ⟨i + 1, by go_num, by omega, up HB5.out HBX.out⟩
end Go.Proofs.Ytbmjmpojabbegaa
