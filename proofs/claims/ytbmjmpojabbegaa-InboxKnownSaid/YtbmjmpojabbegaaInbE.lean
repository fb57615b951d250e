/- The reference's Add: a row of messages, rising, with one more. -/
import Derived.Test.YtbmjmpojabbegaaInbB
import Derived.Test.YtbmjmpojabbegaaInbD
import Derived.Deep.RegionHeld3
import Derived.Deep.DrawnRows
import Derived.Deep.AppendLies
namespace Go.Proofs.Ytbmjmpojabbegaa
open Go.RowKit

/-- a row of messages, rising, each vertex once, with one more -/
def addL (k : Int) (l : List (Int × Int)) (m : Int × Int) : List (Int × Int) :=
  l.takeWhile (fun x => decide (x.1 < m.1)) ++ match l.dropWhile (fun x => decide (x.1 < m.1)) with
    | [] => [m]
    | x :: r => if x.1 = m.1 then (m.1, combD k x.2 m.2) :: r else m :: x :: r
theorem tw_split {α : Type} (p : α → Bool) (l : List α) : l.takeWhile p = l.take (l.takeWhile p).length ∧ l.dropWhile p = l.drop (l.takeWhile p).length := by
  have h := List.takeWhile_append_dropWhile (p := p) (l := l)
  generalize l.takeWhile p = a at *
  generalize l.dropWhile p = b at *
  subst h
  rw [List.take_left, List.drop_left]
  exact ⟨rfl, rfl⟩
theorem tw_lt {α : Type} {p : α → Bool} {l : List α} {i : Nat} (h : i < (l.takeWhile p).length) {x : α} (hx : l[i]? = some x) : p x = true := by
  have h1 := (tw_split p l).1
  have h2 : (l.takeWhile p)[i]? = some x := by rw [h1, List.getElem?_take, if_pos h]; exact hx
  have h3 := List.mem_of_getElem? h2
  exact List.all_eq_true.1 (List.all_takeWhile (p := p) (l := l)) x h3
theorem tw_ge {α : Type} {p : α → Bool} {l : List α} {x : α} (hx : l[(l.takeWhile p).length]? = some x) : p x = false := by
  have h1 := (tw_split p l).2
  have hlt := (List.getElem?_eq_some_iff.1 hx).1
  rw [List.drop_eq_getElem_cons hlt] at h1
  rw [List.getElem?_eq_getElem hlt] at hx
  injection hx with hx
  rw [hx] at h1
  have := List.head_dropWhile_not (p := p) (l := l) (by rw [h1]; simp)
  simpa [h1] using this
theorem addL_len (k : Int) (l : List (Int × Int)) (m : Int × Int) : (addL k l m).length ≤ l.length + 1 := by
  unfold addL
  have h := congrArg List.length (List.takeWhile_append_dropWhile (p := fun x : Int × Int => decide (x.1 < m.1)) (l := l))
  rw [List.length_append] at h
  rw [List.length_append]
  generalize l.dropWhile _ = d at *
  cases d with
  | nil => simp at h ⊢; omega
  | cons x r => simp only [List.length_cons] at h ⊢; split <;> simp only [List.length_cons] <;> omega
theorem infoM : (Try.prog.info? 29).map (fun i => (i.zero, i.size, i.bytes)) = some (some (.agg #[.int .i64 0, .int .i64 0]), 2, 16) := by kernel_rfl
theorem parts {P : Program} {e : TypeId} {z : Value} {s b : Nat} (h : (P.info? e).map (fun i => (i.zero, i.size, i.bytes)) = some (some z, s, b)) : ∃ i, P.info? e = some i ∧ i.zero = some z ∧ i.size = s ∧ i.bytes = b ∧ True := by
  rw [Option.map_eq_some_iff] at h
  obtain ⟨i, hi, he⟩ := h
  simp only [Prod.mk.injEq] at he
  exact ⟨i, hi, he.1, he.2.1, he.2.2, trivial⟩
theorem msgC_one (l : List (Int × Int)) : ∀ u ∈ rcs msgC l, u.oneCell' = true := by
  intro u hu
  obtain ⟨m, _, hu⟩ := List.mem_flatMap.1 hu
  simp only [msgC, List.mem_cons, List.not_mem_nil, or_false] at hu
  rcases hu with rfl | rfl <;> rfl
/-- the boxes of a job and of a message, and a row of messages -/
structure AddSt (w wr : World) (k s o d e' : Int) (m : Int × Int) (A : Option Addr) (l : List (Int × Int)) : Prop where
  below : Below w.heap.size w wr
  job : Blk wr w.heap.size 23 #[.int .u8 k, .int .i64 s, .int .i64 o, .int .i64 d, .int .i64 e']
  msg : Blk wr (w.heap.size + 1) 29 #[.int .i64 m.1, .int .i64 m.2]
  row : Rs msgC 2 wr A l
  size : w.heap.size + 2 ≤ wr.heap.size
section
variable {w wr w' : World} {k s o d e' : Int} {m : Int × Int} {A : Option Addr} {l : List (Int × Int)}
theorem AddSt.start (h : Rs msgC 2 w A l) : AddSt w ((w.alloc (.cells #[.int .u8 k, .int .i64 s, .int .i64 o, .int .i64 d, .int .i64 e'] 23)).alloc (.cells #[.int .i64 m.1, .int .i64 m.2] 29)) k s o d e' m A l := by
  have kM0 := Blk.new (w.alloc (.cells #[.int .u8 k, .int .i64 s, .int .i64 o, .int .i64 d, .int .i64 e'] 23)) 29 #[.int .i64 m.1, .int .i64 m.2]
  rw [show (w.alloc (.cells #[.int .u8 k, .int .i64 s, .int .i64 o, .int .i64 d, .int .i64 e'] 23)).heap.size = w.heap.size + 1 from by simp] at kM0
  exact ⟨((Below.refl _ _).alloc (Nat.le_refl _) _).alloc (by simp) _, (Blk.new w 23 #[.int .u8 k, .int .i64 s, .int .i64 o, .int .i64 d, .int .i64 e']).alloc _, kM0, (h.alloc _).alloc _, by simp⟩
theorem AddSt.drewN (h : AddSt w wr k s o d e' m A l) (q : Nat) : AddSt w (wr.drewN q) k s o d e' m A l := ⟨below_drewN h.below q, h.job, h.msg, h.row, h.size⟩
theorem AddSt.step (h : AddSt w wr k s o d e' m A l) (hb : Below (w.heap.size + 2) wr w') (hr : Rs msgC 2 w A l) : AddSt w w' k s o d e' m A l := by
  have hb2 : Below w.heap.size w w' := h.below.trans (hb.mono (by omega))
  exact ⟨hb2, h.job.below hb (by omega), h.msg.below hb (by omega), hr.below hb2, Nat.le_trans h.size hb.size⟩
theorem AddSt.cells (h : AddSt w wr k s o d e' m A l) : wr.cell? ⟨w.heap.size + 1, 0, none⟩ = some (.int .i64 m.1) ∧ wr.cell? ⟨w.heap.size + 1, 1, none⟩ = some (.int .i64 m.2) := ⟨h.msg.cell 0, h.msg.cell 1⟩
theorem AddSt.jobs (h : AddSt w wr k s o d e' m A l) : wr.cell? ⟨w.heap.size, 0, none⟩ = some (.int .u8 k) ∧ wr.cell? ⟨w.heap.size, 1, none⟩ = some (.int .i64 s) ∧ wr.cell? ⟨w.heap.size, 2, none⟩ = some (.int .i64 o) ∧ wr.cell? ⟨w.heap.size, 3, none⟩ = some (.int .i64 d) ∧ wr.cell? ⟨w.heap.size, 4, none⟩ = some (.int .i64 e') :=
  ⟨h.job.cell 0, h.job.cell 1, h.job.cell 2, h.job.cell 3, h.job.cell 4⟩
end
theorem addL_end {k : Int} {l : List (Int × Int)} {m : Int × Int} {n : Nat} (hn : (l.takeWhile (fun x => decide (x.1 < m.1))).length = n) (h : n = l.length) : addL k l m = l.take n ++ [m] ++ l.drop n := by
  obtain ⟨h1, h2⟩ := tw_split (fun x : Int × Int => decide (x.1 < m.1)) l
  rw [hn] at h1 h2
  unfold addL
  rw [h1, h2, h, List.drop_length]; simp
theorem addL_new {k : Int} {l : List (Int × Int)} {m : Int × Int} {n : Nat} (hn : (l.takeWhile (fun x => decide (x.1 < m.1))).length = n) {x : Int × Int} (h : l[n]? = some x) (hx : x.1 ≠ m.1) : addL k l m = l.take n ++ [m] ++ l.drop n := by
  obtain ⟨h1, h2⟩ := tw_split (fun x : Int × Int => decide (x.1 < m.1)) l
  rw [hn] at h1 h2
  have hlt := (List.getElem?_eq_some_iff.1 h).1
  have hd : l.drop n = x :: l.drop (n + 1) := by
    rw [List.drop_eq_getElem_cons hlt]
    rw [List.getElem?_eq_getElem hlt] at h; injection h with h; rw [h]
  unfold addL
  rw [h1, h2, hd]
  simp [hx]
theorem addL_old {k : Int} {l : List (Int × Int)} {m : Int × Int} {n : Nat} (hn : (l.takeWhile (fun x => decide (x.1 < m.1))).length = n) {x : Int × Int} (h : l[n]? = some x) (hx : x.1 = m.1) : addL k l m = l.take n ++ [(m.1, combD k x.2 m.2)] ++ l.drop (n + 1) := by
  obtain ⟨h1, h2⟩ := tw_split (fun x : Int × Int => decide (x.1 < m.1)) l
  rw [hn] at h1 h2
  have hlt := (List.getElem?_eq_some_iff.1 h).1
  have hd : l.drop n = x :: l.drop (n + 1) := by
    rw [List.drop_eq_getElem_cons hlt]
    rw [List.getElem?_eq_getElem hlt] at h; injection h with h; rw [h]
  unfold addL
  rw [h1, h2, hd]
  simp [hx]

attribute [local go_sem ↓] Go.wp_at_zero Go.wp_at_succ
set_option maxRecDepth 100000 in
set_option maxHeartbeats 4000000 in
theorem refAdd_end (w : World) (k s o d e' : Int) (A : Option Addr) (c : Nat) (l : List (Int × Int)) (m : Int × Int) (h : Rs msgC 2 w A l) (hc : l.length ≤ c) (hl : l.length ≤ 1000000000) (n : Nat) (hn : (l.takeWhile (fun x => decide (x.1 < m.1))).length = n) (hcase : n = l.length) :
    Calls Try.prog 23 #[.agg #[.int .u8 k, .int .i64 s, .int .i64 o, .int .i64 d, .int .i64 e'], .slice A l.length c, .agg #[.int .i64 m.1, .int .i64 m.2]] w fun e w' => ∃ v, e = .returned v ∧ w'.ownsRow w.heap.size 29 2 v (addL k l m).length (rcs msgC (addL k l m)) ∧ Below w.heap.size w w' := by
  obtain ⟨i0, hi0, hz0, hz1, hz2, -⟩ := parts infoM
  have HC := Lib.hid hcase
  have hnI : ¬ (n : Int) < (l.length : Int) := by omega
  have hnd : decide (n < l.length) = false := by simp; omega
  have hnl : n ≤ l.length := by omega
  clear hcase
  have h0 := AddSt.start (k := k) (s := s) (o := o) (d := d) (e' := e') (m := m) h
  have hS1l : (l.take n).length = n := by rw [List.length_take]; omega
  have hl1 : (rcs msgC (l.take n)).length = n * 2 := by rw [rcs_length msgC_len, hS1l]
  have H0 := Lib.hid h0; have HN := Lib.hid hn; have HI0 := Lib.hid hi0; have HZ0 := Lib.hid hz0; have HR := Lib.hid h; have HS1 := Lib.hid hS1l; have HL1 := Lib.hid hl1
  clear h0 hn hi0 hz0 h hS1l hl1
  go_enter Try.func23, Try.ntmps23
  go_wp2
  go_loopg [7] n (fun gf vi wr => ∃ i : Nat, vi = .int .i64 i ∧ i + gf = n ∧ AddSt w wr k s o d e' m A l)
  case atStart => exact ⟨0, rfl, by omega, H0.out⟩
  case round =>
    clear H0
    obtain ⟨i, rfl, hi, hst⟩ := hrel
    obtain ⟨q1, q2⟩ := hst.cells
    have HST := Lib.hid hst
    cases gk with
    | succ gf =>
      have hiI : (i : Int) < (l.length : Int) := by omega
      obtain ⟨b, oo, x, rfl, _, hx, x1, x2⟩ := msg_at hst.row (i := i) (by omega)
      have hp := tw_lt (p := fun x : Int × Int => decide (x.1 < m.1)) (l := l) (i := i) (by rw [HN.out]; omega) hx
      have hp1 : x.1 < m.1 := of_decide_eq_true hp
      clear hx hp hst
      go_wp2_with fail
      go_quiet (fail)
      go_wp2
      go_roundg gf
      case measure => omega
      case rel => exact ⟨i + 1, by go_num, by omega, HST.out.drewN _⟩
    | zero =>
      obtain rfl : i = n := by omega
      go_wp2_with fail
      go_quiet (fail)
      have hs0 := HST.out.drewN nq
      have hr1 := hs0.row.take msgC_len i
      have hr1b : Hid (Sl (wr.drewN nq) 2 A i (rcs msgC (l.take i))) := by have h1 := hr1; unfold Rs at h1; rw [HS1.out] at h1; exact Lib.hid h1
      have hown : Hid ((wr.drewN nq).ownsRow (w.heap.size + 2) 29 2 (.slice none 0 0) 0 []) := Lib.hid (World.ownsRow_nil _ _ _ _)
      have hsz0 := hs0.size
      have HS0 := Lib.hid hs0
      clear hs0 hr1 hst
      go_wp2_with (first | (refine wpList_upto (o := ⟨some 28, _, _, _, _, _⟩) rfl 24 29 (.tmp 26) (.tmp 27) rfl i0 Try.underlying24 HI0.out A l.length c i rfl rfl (by omega) ?_) | (at_builtin; refine wpList_cat _ rfl (.tmp 25) (.tmp 28) 24 rfl (w.heap.size + 2) 29 i0 (.agg #[.int .i64 0, .int .i64 0]) 2 16 Try.underlying24 HI0.out HZ0.out hz1 hz2 rfl (by decide) (by decide) _ 0 _ rfl hown _ i _ (rcs msgC (l.take i)) rfl hr1b (msgC_one _) (by omega) (by omega) ?_; intro v1 w1 h2 h3 h4; have HO1 := Lib.hid h2.out; have HB1 := Lib.hid h4.out; clear h2 h3 h4))
      have hs1 := HS0.out.step HB1.out HR.out
      obtain ⟨p1, p2⟩ := hs1.cells
      have hown1 : w1.ownsRow (w.heap.size + 2) 29 2 v1 i (rcs msgC (l.take i)) := by have h1 := HO1.out; rw [Nat.zero_add, List.nil_append] at h1; exact h1
      have hsz1 := hs1.size
      have HS1b := Lib.hid hs1; have HO1b := Lib.hid hown1
      clear hs1 hown1 q1 q2
      go_wp2_with fail
      go_quiet (fail)
      have hown2 : Hid ((w1.drewN nq).ownsRow (w.heap.size + 2) 29 2 v1 i (rcs msgC (l.take i))) := Lib.hid HO1b.out
      have hsz2 : w.heap.size + 2 ≤ (w1.drewN nq).heap.size := hsz1
      go_wp2_with (first | (at_builtin; refine wpList_app _ (w1.drewN nq) rfl (.tmp 65) (.tmp 67) 24 rfl (w.heap.size + 2) 29 i0 (.agg #[.int .i64 0, .int .i64 0]) 2 16 Try.underlying24 HI0.out HZ0.out hz1 hz2 rfl (by decide) (by decide) _ i _ rfl hown2 [.int .i64 m.1, .int .i64 m.2] rfl rfl rfl _ rfl rfl (by omega) hsz2 ?_; intro v2 w2 h2 h3 h4; have HO2 := Lib.hid h2.out; have HB2 := Lib.hid h4.out; have hcu2 := Lib.hid (Rs.cut (c := c) (i := i) msgC_len (HS1b.out.drewN nq |>.step h4.out HR.out).row hc); have hsz3 := Nat.le_trans hsz2 h4.out.size; clear h2 h3 h4) | (refine wpList_from (o := ⟨some 72, _, _, _, _, _⟩) rfl 24 29 (.tmp 70) (.tmp 71) rfl i0 Try.underlying24 HI0.out A l.length c i 2 hz1 rfl rfl (by omega) ?_) | (at_builtin; refine wpList_cat _ rfl (.tmp 69) (.tmp 72) 24 rfl (w.heap.size + 2) 29 i0 (.agg #[.int .i64 0, .int .i64 0]) 2 16 Try.underlying24 HI0.out HZ0.out hz1 hz2 rfl (by decide) (by decide) _ (i + 1) _ rfl HO2 _ (l.length - i) _ (rcs msgC (l.drop i)) rfl (by have h1 := hcu2.out; unfold Rs at h1; rw [List.length_drop] at h1; exact Lib.hid h1) (msgC_one _) (by omega) hsz3 ?_; intro v3 w3 h2 h3 h4; have HO3 := Lib.hid h2.out; have HB3 := Lib.hid h4.out; clear h2 h3 h4))
      go_ret
      have hb := HB3.out
      have h1 := (HS1b.out.drewN nq |>.step HB2.out HR.out).step HB3.out HR.out
      refine ⟨v3, rfl, ?_, h1.below⟩
      rw [addL_end HN.out HC.out]
      have h3 := own_mono HO3.out (show w.heap.size ≤ w.heap.size + 2 by omega)
      have e1 : msgC m = [.int .i64 m.1, .int .i64 m.2] := rfl
      rw [rcs_append, rcs_append, rcs_one, e1, show (l.take i ++ [m] ++ l.drop i).length = i + 1 + (l.length - i) from by rw [List.length_append, List.length_append, List.length_take, List.length_drop, List.length_singleton]; omega]
      exact h3

attribute [local go_sem ↓] Go.wp_at_zero Go.wp_at_succ
set_option maxRecDepth 100000 in
set_option maxHeartbeats 4000000 in
theorem refAdd_new (w : World) (k s o d e' : Int) (A : Option Addr) (c : Nat) (l : List (Int × Int)) (m : Int × Int) (h : Rs msgC 2 w A l) (hc : l.length ≤ c) (hl : l.length ≤ 1000000000) (n : Nat) (hn : (l.takeWhile (fun x => decide (x.1 < m.1))).length = n) (x : Int × Int) (hx : l[n]? = some x) (hxm : x.1 ≠ m.1) :
    Calls Try.prog 23 #[.agg #[.int .u8 k, .int .i64 s, .int .i64 o, .int .i64 d, .int .i64 e'], .slice A l.length c, .agg #[.int .i64 m.1, .int .i64 m.2]] w fun e w' => ∃ v, e = .returned v ∧ w'.ownsRow w.heap.size 29 2 v (addL k l m).length (rcs msgC (addL k l m)) ∧ Below w.heap.size w w' := by
  obtain ⟨i0, hi0, hz0, hz1, hz2, -⟩ := parts infoM
  have hnlen : n < l.length := (List.getElem?_eq_some_iff.1 hx).1
  have hnlI : (n : Int) < (l.length : Int) := by omega
  have hge := tw_ge (p := fun x : Int × Int => decide (x.1 < m.1)) (l := l) (x := x) (by rw [hn]; exact hx)
  have hnlt : ¬ x.1 < m.1 := of_decide_eq_false hge
  have heq : (x.1 == m.1) = false := by simp [hxm]
  have hnl : n ≤ l.length := by omega
  have HX := Lib.hid hx; have HXM := Lib.hid hxm
  clear hx hge hxm
  have h0 := AddSt.start (k := k) (s := s) (o := o) (d := d) (e' := e') (m := m) h
  have hS1l : (l.take n).length = n := by rw [List.length_take]; omega
  have hl1 : (rcs msgC (l.take n)).length = n * 2 := by rw [rcs_length msgC_len, hS1l]
  have H0 := Lib.hid h0; have HN := Lib.hid hn; have HI0 := Lib.hid hi0; have HZ0 := Lib.hid hz0; have HR := Lib.hid h; have HS1 := Lib.hid hS1l; have HL1 := Lib.hid hl1
  clear h0 hn hi0 hz0 h hS1l hl1
  go_enter Try.func23, Try.ntmps23
  go_wp2
  go_loopg [7] n (fun gf vi wr => ∃ i : Nat, vi = .int .i64 i ∧ i + gf = n ∧ AddSt w wr k s o d e' m A l)
  case atStart => exact ⟨0, rfl, by omega, H0.out⟩
  case round =>
    clear H0
    obtain ⟨i, rfl, hi, hst⟩ := hrel
    obtain ⟨q1, q2⟩ := hst.cells
    have HST := Lib.hid hst
    cases gk with
    | succ gf =>
      have hiI : (i : Int) < (l.length : Int) := by omega
      obtain ⟨b, oo, x, rfl, _, hx, x1, x2⟩ := msg_at hst.row (i := i) (by omega)
      have hp := tw_lt (p := fun x : Int × Int => decide (x.1 < m.1)) (l := l) (i := i) (by rw [HN.out]; omega) hx
      have hp1 : x.1 < m.1 := of_decide_eq_true hp
      clear hx hp hst
      go_wp2_with fail
      go_quiet (fail)
      go_wp2
      go_roundg gf
      case measure => omega
      case rel => exact ⟨i + 1, by go_num, by omega, HST.out.drewN _⟩
    | zero =>
      obtain rfl : i = n := by omega
      obtain ⟨b, oo, x0, hA, _, hx0, x1, x2⟩ := msg_at hst.row (i := i) (by omega)
      obtain rfl : x0 = x := Option.some.inj (hx0.symm.trans HX.out)
      subst hA
      clear hx0
      go_wp2_with fail
      go_quiet (fail)
      have hs0 := HST.out.drewN nq
      have hr1 := hs0.row.take msgC_len i
      have hr1b : Hid (Sl (wr.drewN nq) 2 (some ⟨b, oo, none⟩) i (rcs msgC (l.take i))) := by have h1 := hr1; unfold Rs at h1; rw [HS1.out] at h1; exact Lib.hid h1
      have hown : Hid ((wr.drewN nq).ownsRow (w.heap.size + 2) 29 2 (.slice none 0 0) 0 []) := Lib.hid (World.ownsRow_nil _ _ _ _)
      have hsz0 := hs0.size
      have HS0 := Lib.hid hs0
      clear hs0 hr1 hst
      go_wp2_with (first | (refine wpList_upto (o := ⟨some 28, _, _, _, _, _⟩) rfl 24 29 (.tmp 26) (.tmp 27) rfl i0 Try.underlying24 HI0.out (some ⟨b, oo, none⟩) l.length c i rfl rfl (by omega) ?_) | (at_builtin; refine wpList_cat _ rfl (.tmp 25) (.tmp 28) 24 rfl (w.heap.size + 2) 29 i0 (.agg #[.int .i64 0, .int .i64 0]) 2 16 Try.underlying24 HI0.out HZ0.out hz1 hz2 rfl (by decide) (by decide) _ 0 _ rfl hown _ i _ (rcs msgC (l.take i)) rfl hr1b (msgC_one _) (by omega) (by omega) ?_; intro v1 w1 h2 h3 h4; have HO1 := Lib.hid h2.out; have HB1 := Lib.hid h4.out; clear h2 h3 h4))
      have hs1 := HS0.out.step HB1.out HR.out
      obtain ⟨p1, p2⟩ := hs1.cells
      have hown1 : w1.ownsRow (w.heap.size + 2) 29 2 v1 i (rcs msgC (l.take i)) := by have h1 := HO1.out; rw [Nat.zero_add, List.nil_append] at h1; exact h1
      have hsz1 := hs1.size
      have HS1b := Lib.hid hs1; have HO1b := Lib.hid hown1
      clear hs1 hown1 q1 q2
      obtain ⟨b2, oo2, y0, hA2, ltb, hy0, y1, y2⟩ := msg_at HS1b.out.row (i := i) (by omega)
      obtain rfl : y0 = x0 := Option.some.inj (hy0.symm.trans HX.out)
      simp only [Option.some.injEq, Addr.mk.injEq, and_true] at hA2
      obtain ⟨rfl, rfl⟩ := hA2
      clear hy0 x1 x2
      go_wp2_with fail
      go_quiet (fail)
      have hown2 : Hid ((w1.drewN nq).ownsRow (w.heap.size + 2) 29 2 v1 i (rcs msgC (l.take i))) := Lib.hid HO1b.out
      have hsz2 : w.heap.size + 2 ≤ (w1.drewN nq).heap.size := hsz1
      go_wp2_with (first | (at_builtin; refine wpList_app _ (w1.drewN nq) rfl (.tmp 65) (.tmp 67) 24 rfl (w.heap.size + 2) 29 i0 (.agg #[.int .i64 0, .int .i64 0]) 2 16 Try.underlying24 HI0.out HZ0.out hz1 hz2 rfl (by decide) (by decide) _ i _ rfl hown2 [.int .i64 m.1, .int .i64 m.2] rfl rfl rfl _ rfl rfl (by omega) hsz2 ?_; intro v2 w2 h2 h3 h4; have HO2 := Lib.hid h2.out; have HB2 := Lib.hid h4.out; have hcu2 := Lib.hid (Rs.cut (c := c) (i := i) msgC_len (HS1b.out.drewN nq |>.step h4.out HR.out).row hc); have hsz3 := Nat.le_trans hsz2 h4.out.size; clear h2 h3 h4) | (refine wpList_from (o := ⟨some 72, _, _, _, _, _⟩) rfl 24 29 (.tmp 70) (.tmp 71) rfl i0 Try.underlying24 HI0.out (some ⟨b, oo, none⟩) l.length c i 2 hz1 rfl rfl (by omega) ?_) | (at_builtin; refine wpList_cat _ rfl (.tmp 69) (.tmp 72) 24 rfl (w.heap.size + 2) 29 i0 (.agg #[.int .i64 0, .int .i64 0]) 2 16 Try.underlying24 HI0.out HZ0.out hz1 hz2 rfl (by decide) (by decide) _ (i + 1) _ rfl HO2 _ (l.length - i) _ (rcs msgC (l.drop i)) rfl (by have h1 := hcu2.out; unfold Rs at h1; rw [List.length_drop] at h1; exact Lib.hid h1) (msgC_one _) (by omega) hsz3 ?_; intro v3 w3 h2 h3 h4; have HO3 := Lib.hid h2.out; have HB3 := Lib.hid h4.out; clear h2 h3 h4))
      go_ret
      have hb := HB3.out
      have h1 := (HS1b.out.drewN nq |>.step HB2.out HR.out).step HB3.out HR.out
      refine ⟨v3, rfl, ?_, h1.below⟩
      rw [addL_new HN.out HX.out HXM.out]
      have h3 := own_mono HO3.out (show w.heap.size ≤ w.heap.size + 2 by omega)
      have e1 : msgC m = [.int .i64 m.1, .int .i64 m.2] := rfl
      rw [rcs_append, rcs_append, rcs_one, e1, show (l.take i ++ [m] ++ l.drop i).length = i + 1 + (l.length - i) from by rw [List.length_append, List.length_append, List.length_take, List.length_drop, List.length_singleton]; omega]
      exact h3

attribute [local go_sem ↓] Go.wp_at_zero Go.wp_at_succ
set_option maxRecDepth 100000 in
set_option maxHeartbeats 4000000 in
theorem refAdd_old (w : World) (k s o d e' : Int) (A : Option Addr) (c : Nat) (l : List (Int × Int)) (m : Int × Int) (h : Rs msgC 2 w A l) (hc : l.length ≤ c) (hl : l.length ≤ 1000000000) (n : Nat) (hn : (l.takeWhile (fun x => decide (x.1 < m.1))).length = n) (x : Int × Int) (hx : l[n]? = some x) (hxm : x.1 = m.1) :
    Calls Try.prog 23 #[.agg #[.int .u8 k, .int .i64 s, .int .i64 o, .int .i64 d, .int .i64 e'], .slice A l.length c, .agg #[.int .i64 m.1, .int .i64 m.2]] w fun e w' => ∃ v, e = .returned v ∧ w'.ownsRow w.heap.size 29 2 v (addL k l m).length (rcs msgC (addL k l m)) ∧ Below w.heap.size w w' := by
  obtain ⟨i0, hi0, hz0, hz1, hz2, -⟩ := parts infoM
  have hnlen : n < l.length := (List.getElem?_eq_some_iff.1 hx).1
  have hnlI : (n : Int) < (l.length : Int) := by omega
  have hge := tw_ge (p := fun x : Int × Int => decide (x.1 < m.1)) (l := l) (x := x) (by rw [hn]; exact hx)
  have hnlt : ¬ x.1 < m.1 := of_decide_eq_false hge
  have heq : (x.1 == m.1) = true := by simp [hxm]
  have hnl : n ≤ l.length := by omega
  have HX := Lib.hid hx; have HXM := Lib.hid hxm
  clear hx hge hxm
  have h0 := AddSt.start (k := k) (s := s) (o := o) (d := d) (e' := e') (m := m) h
  have hS1l : (l.take n).length = n := by rw [List.length_take]; omega
  have hl1 : (rcs msgC (l.take n)).length = n * 2 := by rw [rcs_length msgC_len, hS1l]
  have H0 := Lib.hid h0; have HN := Lib.hid hn; have HI0 := Lib.hid hi0; have HZ0 := Lib.hid hz0; have HR := Lib.hid h; have HS1 := Lib.hid hS1l; have HL1 := Lib.hid hl1
  clear h0 hn hi0 hz0 h hS1l hl1
  go_enter Try.func23, Try.ntmps23
  go_wp2
  go_loopg [7] n (fun gf vi wr => ∃ i : Nat, vi = .int .i64 i ∧ i + gf = n ∧ AddSt w wr k s o d e' m A l)
  case atStart => exact ⟨0, rfl, by omega, H0.out⟩
  case round =>
    clear H0
    obtain ⟨i, rfl, hi, hst⟩ := hrel
    obtain ⟨q1, q2⟩ := hst.cells
    have HST := Lib.hid hst
    cases gk with
    | succ gf =>
      have hiI : (i : Int) < (l.length : Int) := by omega
      obtain ⟨b, oo, x, rfl, _, hx, x1, x2⟩ := msg_at hst.row (i := i) (by omega)
      have hp := tw_lt (p := fun x : Int × Int => decide (x.1 < m.1)) (l := l) (i := i) (by rw [HN.out]; omega) hx
      have hp1 : x.1 < m.1 := of_decide_eq_true hp
      clear hx hp hst
      go_wp2_with fail
      go_quiet (fail)
      go_wp2
      go_roundg gf
      case measure => omega
      case rel => exact ⟨i + 1, by go_num, by omega, HST.out.drewN _⟩
    | zero =>
      obtain rfl : i = n := by omega
      obtain ⟨b, oo, x0, hA, _, hx0, x1, x2⟩ := msg_at hst.row (i := i) (by omega)
      obtain rfl : x0 = x := Option.some.inj (hx0.symm.trans HX.out)
      subst hA
      clear hx0
      go_wp2_with fail
      go_quiet (fail)
      have hs0 := HST.out.drewN nq
      have hr1 := hs0.row.take msgC_len i
      have hr1b : Hid (Sl (wr.drewN nq) 2 (some ⟨b, oo, none⟩) i (rcs msgC (l.take i))) := by have h1 := hr1; unfold Rs at h1; rw [HS1.out] at h1; exact Lib.hid h1
      have hown : Hid ((wr.drewN nq).ownsRow (w.heap.size + 2) 29 2 (.slice none 0 0) 0 []) := Lib.hid (World.ownsRow_nil _ _ _ _)
      have hsz0 := hs0.size
      have HS0 := Lib.hid hs0
      clear hs0 hr1 hst
      go_wp2_with (first | (refine wpList_upto (o := ⟨some 28, _, _, _, _, _⟩) rfl 24 29 (.tmp 26) (.tmp 27) rfl i0 Try.underlying24 HI0.out (some ⟨b, oo, none⟩) l.length c i rfl rfl (by omega) ?_) | (at_builtin; refine wpList_cat _ rfl (.tmp 25) (.tmp 28) 24 rfl (w.heap.size + 2) 29 i0 (.agg #[.int .i64 0, .int .i64 0]) 2 16 Try.underlying24 HI0.out HZ0.out hz1 hz2 rfl (by decide) (by decide) _ 0 _ rfl hown _ i _ (rcs msgC (l.take i)) rfl hr1b (msgC_one _) (by omega) (by omega) ?_; intro v1 w1 h2 h3 h4; have HO1 := Lib.hid h2.out; have HB1 := Lib.hid h4.out; clear h2 h3 h4))
      have hs1 := HS0.out.step HB1.out HR.out
      obtain ⟨p1, p2⟩ := hs1.cells
      obtain ⟨j0, j1, j2, j3, j4⟩ := hs1.jobs
      have hown1 : w1.ownsRow (w.heap.size + 2) 29 2 v1 i (rcs msgC (l.take i)) := by have h1 := HO1.out; rw [Nat.zero_add, List.nil_append] at h1; exact h1
      have hsz1 := hs1.size
      have HS1b := Lib.hid hs1; have HO1b := Lib.hid hown1
      clear hs1 hown1 q1 q2
      obtain ⟨b2, oo2, y0, hA2, ltb, hy0, y1, y2⟩ := msg_at HS1b.out.row (i := i) (by omega)
      obtain rfl : y0 = x0 := Option.some.inj (hy0.symm.trans HX.out)
      simp only [Option.some.injEq, Addr.mk.injEq, and_true] at hA2
      obtain ⟨rfl, rfl⟩ := hA2
      clear hy0 x1 x2
      go_wp2_with fail
      go_quiet (fail)
      go_wp2_with fail
      have lt0 : w.heap.size < w1.heap.size := by omega
      have lt1 : w.heap.size + 1 < w1.heap.size := by omega
      obtain ⟨_, _, _, hA3, ltc, _⟩ := msg_at HR.out (i := i) (by omega)
      simp only [Option.some.injEq, Addr.mk.injEq, and_true] at hA3
      obtain ⟨rfl, rfl⟩ := hA3
      have lt2 : b < w.heap.size + 2 := by omega
      have lt3 : w.heap.size + 1 < w.heap.size + 2 := by omega
      have lt4 : w.heap.size < w.heap.size + 2 := by omega
      go_region_held3 (fun w' => w'.cell? ⟨w.heap.size + 1, 0, none⟩ = some (.int .i64 m.1) ∧ w'.cell? ⟨w.heap.size + 1, 1, none⟩ = some (.int .i64 m.2) ∧ w'.cell? ⟨w.heap.size, 0, none⟩ = some (.int .u8 k) ∧ w'.cell? ⟨w.heap.size, 1, none⟩ = some (.int .i64 s) ∧ w'.cell? ⟨w.heap.size, 2, none⟩ = some (.int .i64 o) ∧ w'.cell? ⟨w.heap.size, 3, none⟩ = some (.int .i64 d) ∧ w'.cell? ⟨w.heap.size, 4, none⟩ = some (.int .i64 e') ∧ w'.cell? ⟨b, oo + i * 2 + 1, none⟩ = some (.int .i64 y0.2)) (go_keep) (first | (go_at_call 33; (with_reducible refine (refComb_any _ _ _ _ _ _ _ _).mono ?_); rintro e w2 ⟨rfl, hb2⟩; have hcb : ∀ bb o2, bb < w1.heap.size → w2.cell? ⟨bb, o2, none⟩ = w1.cell? ⟨bb, o2, none⟩ := (fun bb o2 h => hb2.cell (p := ⟨bb, o2, none⟩) h); have HB2 := Lib.hid hb2; have HOX := Lib.hid ((own_below (by exact HO1b.out) hb2).alloc (.cells #[.int .i64 m.1, .int .i64 (combD k y0.2 m.2)] 29)); have HRX := Lib.hid (Sl.new w2 [.int .i64 m.1, .int .i64 (combD k y0.2 m.2)] 29 2 1 rfl w2.heap.size rfl).rd; have hsx := Nat.le_trans hsz1 hb2.size; clear hb2) | (refine step_append_any _ rfl (.tmp 44) (.tmp 57) 24 rfl (w.heap.size + 2) 29 i0 (.agg #[.int .i64 0, .int .i64 0]) 2 16 Try.underlying24 HI0.out HZ0.out hz1 hz2 rfl (by decide) v1 i (rcs msgC (l.take i)) (by simp [Act.eval]) HOX.out _ (some ⟨w2.heap.size, 0, none⟩) 1 1 [.int .i64 m.1, .int .i64 (combD k y0.2 m.2)] (by simp [Act.eval]) HRX.out (by simp [Value.oneCell']) (by unfold maxLen; omega) (by omega) (by simp; omega) ?_; intro v3 w3 h2 h3 h4; have hb3 := ((Below.refl (w.heap.size + 2) w2).alloc hsx (.cells #[.int .i64 m.1, .int .i64 (combD k y0.2 m.2)] 29)).grown ⟨h3.os, h3.tape, h3.output, h3.size, h3.block⟩ (by simp; omega) (fun k hk => (HOX.out.lt k hk).1); have hcc : ∀ bb o2, bb < w.heap.size + 2 → w3.cell? ⟨bb, o2, none⟩ = w2.cell? ⟨bb, o2, none⟩ := (fun bb o2 h => hb3.cell (p := ⟨bb, o2, none⟩) h); have HO3 := Lib.hid h2; have HB3 := Lib.hid hb3; clear h2 h3 h4 hb3))
      have hbw2 : Below w.heap.size w w2 := Below.trans (by exact below_eta HS1b.out.below rfl rfl rfl rfl) (HB2.out.mono (B' := w.heap.size) (by show _ ≤ w1.heap.size; omega))
      have hbw3 : Below w.heap.size w w3 := hbw2.trans (HB3.out.mono (by omega))
      have hsz3 := Nat.le_trans hsx HB3.out.size
      have hcu := Rs.cut (c := c) (i := i + 1) msgC_len (HR.out.below hbw3) hc
      have hcu2 : Hid (Sl w3 2 (cutA (some ⟨b, oo, none⟩) c (i + 1) 2) (l.length - (i + 1)) (rcs msgC (l.drop (i + 1)))) := by have h1 := hcu; unfold Rs at h1; rw [List.length_drop] at h1; exact Lib.hid h1
      have hO3 : Hid (w3.ownsRow (w.heap.size + 2) 29 2 v3 (i + 1) (rcs msgC (l.take i) ++ [.int .i64 m.1, .int .i64 (combD k y0.2 m.2)])) := Lib.hid HO3.out
      have HBW3 := Lib.hid hbw3
      clear hcc hcu hbw3 hbw2 p1 p2 j0 j1 j2 j3 j4 y1 y2
      go_wp2_with (first | (refine wpList_from (o := ⟨some 63, _, _, _, _, _⟩) rfl 24 29 (.tmp 60) (.tmp 62) rfl i0 Try.underlying24 HI0.out (some ⟨b, oo, none⟩) l.length c (i + 1) 2 hz1 rfl rfl (by omega) ?_) | (at_builtin; refine wpList_cat _ rfl (.tmp 59) (.tmp 63) 24 rfl (w.heap.size + 2) 29 i0 (.agg #[.int .i64 0, .int .i64 0]) 2 16 Try.underlying24 HI0.out HZ0.out hz1 hz2 rfl (by decide) (by decide) _ (i + 1) _ rfl hO3 _ (l.length - (i + 1)) _ (rcs msgC (l.drop (i + 1))) rfl hcu2 (msgC_one _) (by omega) hsz3 ?_; intro v4 w4 h2 h3 h4; have HO4 := Lib.hid h2.out; have HB4 := Lib.hid h4.out; clear h2 h3 h4))
      go_ret
      have h3 := own_mono HO4.out (show w.heap.size ≤ w.heap.size + 2 by omega)
      refine ⟨v4, rfl, ?_, HBW3.out.trans (HB4.out.mono (by omega))⟩
      rw [addL_old HN.out HX.out HXM.out]
      have e1 : msgC (m.1, combD k y0.2 m.2) = [.int .i64 m.1, .int .i64 (combD k y0.2 m.2)] := rfl
      rw [rcs_append, rcs_append, rcs_one, e1, show (l.take i ++ [(m.1, combD k y0.2 m.2)] ++ l.drop (i + 1)).length = i + 1 + (l.length - (i + 1)) from by rw [List.length_append, List.length_append, List.length_take, List.length_drop, List.length_singleton]; omega]
      exact h3

theorem refAddMsg_any (w : World) (k s o d e' : Int) (A : Option Addr) (c : Nat) (l : List (Int × Int)) (m : Int × Int) (h : Rs msgC 2 w A l) (hc : l.length ≤ c) (hl : l.length ≤ 1000000000) :
    Calls Try.prog 23 #[.agg #[.int .u8 k, .int .i64 s, .int .i64 o, .int .i64 d, .int .i64 e'], .slice A l.length c, .agg #[.int .i64 m.1, .int .i64 m.2]] w fun e w' => ∃ v, e = .returned v ∧ w'.ownsRow w.heap.size 29 2 v (addL k l m).length (rcs msgC (addL k l m)) ∧ Below w.heap.size w w' := by
  obtain ⟨n, hn⟩ : ∃ n, (l.takeWhile (fun x => decide (x.1 < m.1))).length = n := ⟨_, rfl⟩
  have hnl : n ≤ l.length := by rw [← hn]; exact (List.takeWhile_sublist _).length_le
  rcases Nat.lt_or_ge n l.length with hlt | hge
  · have hx : l[n]? = some l[n] := List.getElem?_eq_getElem hlt
    by_cases hxm : l[n].1 = m.1
    · exact refAdd_old w k s o d e' A c l m h hc hl n hn _ hx hxm
    · exact refAdd_new w k s o d e' A c l m h hc hl n hn _ hx hxm
  · exact refAdd_end w k s o d e' A c l m h hc hl n hn (by omega)

end Go.Proofs.Ytbmjmpojabbegaa
