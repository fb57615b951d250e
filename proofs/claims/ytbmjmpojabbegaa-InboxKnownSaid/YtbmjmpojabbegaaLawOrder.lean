/- The law InboxOrder: it answers true. -/
import Derived.Test.YtbmjmpojabbegaaOrdL
import Derived.Test.YtbmjmpojabbegaaLawFold
import Derived.Deep.DeepCutAuto
namespace Go.Proofs.Ytbmjmpojabbegaa
open Go.RowKit

theorem RsRs.lit1 {w : World} {A : Option Addr} {l : List (Int × Int)} {c : Nat} (h : Rs msgC 2 w A l) (hc : l.length ≤ c) (t : TypeId) : RsRs (w.alloc (.cells #[.slice A l.length c] t)) (some ⟨w.heap.size, 0, none⟩) [l] := by
  refine ⟨_, Sl.new w [.slice A l.length c] t 1 1 rfl _ rfl, fun i m hm => ?_⟩
  match i with
  | 0 => injection hm with hm; subst hm; exact ⟨_, _, rfl, hc, h.alloc _⟩
  | i + 1 => simp at hm
theorem RsRs.lit2 {w : World} {A B : Option Addr} {l m : List (Int × Int)} {c d : Nat} (h : Rs msgC 2 w A l) (hc : l.length ≤ c) (h' : Rs msgC 2 w B m) (hd : m.length ≤ d) (t : TypeId) : RsRs (w.alloc (.cells #[.slice A l.length c, .slice B m.length d] t)) (some ⟨w.heap.size, 0, none⟩) [l, m] := by
  refine ⟨_, Sl.new w [.slice A l.length c, .slice B m.length d] t 1 2 rfl _ rfl, fun i p hp => ?_⟩
  match i with
  | 0 => injection hp with hp; subst hp; exact ⟨_, _, rfl, hc, h.alloc _⟩
  | 1 => injection hp with hp; subst hp; exact ⟨_, _, rfl, hd, h'.alloc _⟩
  | i + 2 => simp at hp
theorem RsRs.lit3 {w : World} {A B : Option Addr} {l m : List (Int × Int)} {c d : Nat} (h : Rs msgC 2 w A l) (hc : l.length ≤ c) (h' : Rs msgC 2 w B m) (hd : m.length ≤ d) (t : TypeId) : RsRs (w.alloc (.cells #[.slice A l.length c, .slice none 0 0, .slice B m.length d] t)) (some ⟨w.heap.size, 0, none⟩) [l, [], m] := by
  refine ⟨_, Sl.new w [.slice A l.length c, .slice none 0 0, .slice B m.length d] t 1 3 rfl _ rfl, fun i p hp => ?_⟩
  match i with
  | 0 => injection hp with hp; subst hp; exact ⟨_, _, rfl, hc, h.alloc _⟩
  | 1 => injection hp with hp; subst hp; exact ⟨_, _, rfl, Nat.le_refl _, Rs.nil' _⟩
  | 2 => injection hp with hp; subst hp; exact ⟨_, _, rfl, hd, h'.alloc _⟩
  | i + 3 => simp at hp
theorem pick_nat (i : Int) (n : Nat) (hn : n ≤ 1000000) : ∃ m : Nat, m ≤ n ∧ ∀ w, Calls Try.prog 18 #[.int .i64 i, .int .i64 ((n : Int) + 1)] w fun e w' => e = .returned (.int .i64 (m : Int)) ∧ w' = w := by
  have hb := pickD_bd i ((n : Int) + 1) (by omega)
  refine ⟨(pickD i ((n : Int) + 1)).toNat, by omega, fun w => ?_⟩
  rw [Int.toNat_of_nonneg hb.1]
  exact pick_any i _ w (by omega) (by omega)
/-- merged to what is wanted -/
theorem merge_ord (w5 wr : World) (k s o d e' : Int) (A A' : Option Addr) (c c' : Nat) (own : List Int) (L : List (List (Int × Int))) (want : List (Bool × Int)) (n2 : Nat) (h1 : Rs intC 1 w5 A own) (hL : RsRs wr A' L) (l1 : own.length ≤ 60) (hn2 : L.length = n2) (h8 : n2 ≤ 64)
    (hm : mergeL k own L = want) (hwo : ∀ v ∈ own, (Lit.int .i64 v).wf = true) (hsub : ∀ m ∈ L, m.length ≤ 100 ∧ ∀ x ∈ m, (Lit.int .i64 x.1).wf = true) (hb : Below w5.heap.size w5 wr) :
    Calls Try.prog 14 #[.agg #[.int .u8 k, .int .i64 s, .int .i64 o, .int .i64 d, .int .i64 e'], .slice A own.length c, .slice A' n2 c'] wr fun e w' => ∃ g, e = .returned (.slice (some ⟨g, 0, none⟩) want.length own.length) ∧ Rs mailC 2 w' (some ⟨g, 0, none⟩) want ∧ Below w5.heap.size w5 w' := by
  subst hn2 hm
  refine (c_merge wr k s o d e' A A' c c' own L (h1.below hb) hL (by omega) (by omega) ?_ hwo (fun l hl => (hsub l hl).2)).mono ?_
  · have := flat_len fun l hl => (hsub l hl).1
    omega
  · rintro e w' ⟨g, rfl, hr, hb'⟩
    exact ⟨g, rfl, hr, hb.trans (hb'.mono hb.size)⟩
theorem same_ord (w5 wr : World) (g2 g n : Nat) (want : List (Bool × Int)) (hwl : want.length ≤ 60) (h1 : Rs mailC 2 w5 (some ⟨g2, 0, none⟩) want) (h2 : Rs mailC 2 wr (some ⟨g, 0, none⟩) want) (hb : Below w5.heap.size w5 wr) :
    Calls Try.prog 17 #[.slice (some ⟨g2, 0, none⟩) want.length n, .slice (some ⟨g, 0, none⟩) want.length n] wr fun e w' => e = .returned (.bool true) ∧ Below w5.heap.size w5 w' := by
  refine (same_any wr _ _ n n want want (h1.below hb) h2 (by omega)).mono ?_
  rintro e w' ⟨rfl, hb'⟩
  rw [sameL_refl]
  exact ⟨rfl, hb.trans (hb'.mono hb.size)⟩
theorem below_al {B : Nat} {a w : World} (h : Below B a w) (hB : B = a.heap.size) (o : Obj) : Below B a (w.alloc o) := h.alloc (by rw [hB]; exact h.size) o
/-- folded -/
theorem fold_ord (w5 wr : World) (k s o d e' : Int) (A : Option Addr) (c n : Nat) (m f : List (Int × Int)) (hn : m.length = n) (hl : n ≤ 100) (hf : f = foldL k m) (h : Rs msgC 2 wr A m) (hwm : ∀ x ∈ m, (Lit.int .i64 x.1).wf = true) (hb : Below w5.heap.size w5 wr) :
    Calls Try.prog 9 #[.agg #[.int .u8 k, .int .i64 s, .int .i64 o, .int .i64 d, .int .i64 e'], .slice A n c] wr fun e w' => ∃ A' c', e = .returned (.slice A' f.length c') ∧ f.length ≤ c' ∧ Rs msgC 2 w' A' f ∧ Below w5.heap.size w5 w' ∧ Below wr.heap.size wr w' := by
  subst hn hf
  refine (c_fold wr k s o d e' A c m h (by omega) hwm).mono ?_
  rintro e w' ⟨A', c', rfl, hr, ho, hb'⟩
  obtain ⟨_, _, e, hc⟩ := own_parts ho
  injection e with _ _ e
  subst e
  exact ⟨A', _, rfl, hc, hr, hb.trans (hb'.mono hb.size), hb'⟩
theorem fold_keys {k : Int} {l : List (Int × Int)} : ∀ x ∈ foldL k l, ∃ y, y ∈ l ∧ y.1 = x.1 := fun x hx => by
  have := ((foldL_is k l).2 x.1 x.2).1 hx
  obtain ⟨y, hy, e⟩ := mailL_mem (k := k) (v := x.1) (p := l) (by rw [this])
  exact ⟨y, hy, e⟩
section
variable {wr : World} (w5 : World) (k s o d e' : Int) (A : Option Addr) (c : Nat) (own : List Int)
theorem ord_n1 (m : List (Int × Int)) (want : List (Bool × Int)) (r1 : Rs intC 1 w5 A own) (l1 : own.length ≤ 60) (l2 : m.length ≤ 100) (hw : want = mergeL k own [m]) (hwo : ∀ v ∈ own, (Lit.int .i64 v).wf = true) (hwm : ∀ x ∈ m, (Lit.int .i64 x.1).wf = true) (hb : Below w5.heap.size w5 wr) (A2 : Option Addr) (c2 : Nat) (r2 : Rs msgC 2 wr A2 m) (hc2 : m.length ≤ c2) (wx : World) (hx' : wx = wr.alloc (.cells #[.slice A2 m.length c2] 24) ∨ wx = (wr.alloc (.cells #[.slice A2 m.length c2] 24)).drew) :
    Calls Try.prog 14 #[.agg #[.int .u8 k, .int .i64 s, .int .i64 o, .int .i64 d, .int .i64 e'], .slice A own.length c, .slice (some ⟨wr.heap.size, 0, none⟩) 1 1] wx fun e w' => ∃ g, e = .returned (.slice (some ⟨g, 0, none⟩) want.length own.length) ∧ Rs mailC 2 w' (some ⟨g, 0, none⟩) want ∧ Below w5.heap.size w5 w' := by
  have h := RsRs.lit1 r2 hc2 24
  rcases hx' with rfl | rfl <;> exact merge_ord w5 _ k s o d e' A _ c 1 own [m] want 1 r1 (by exact h) l1 rfl (by omega) hw.symm hwo (by
    simp only [List.mem_cons, List.not_mem_nil, or_false, forall_eq]
    exact ⟨l2, hwm⟩) (by first | exact below_al hb rfl _ | exact (below_al hb rfl _).drew)
theorem ord_n2 (m m' : List (Int × Int)) (want : List (Bool × Int)) (r1 : Rs intC 1 w5 A own) (l1 : own.length ≤ 60) (l2 : m.length ≤ 100) (l3 : m'.length ≤ 100) (hw : want = mergeL k own [m, m']) (hwo : ∀ v ∈ own, (Lit.int .i64 v).wf = true) (hwm : ∀ x ∈ m, (Lit.int .i64 x.1).wf = true) (hwm' : ∀ x ∈ m', (Lit.int .i64 x.1).wf = true) (hb : Below w5.heap.size w5 wr) (A2 A3 : Option Addr) (c2 c3 : Nat) (r2 : Rs msgC 2 wr A2 m) (hc2 : m.length ≤ c2) (r3 : Rs msgC 2 wr A3 m') (hc3 : m'.length ≤ c3) (wx : World) (hx' : wx = wr.alloc (.cells #[.slice A2 m.length c2, .slice A3 m'.length c3] 24) ∨ wx = (wr.alloc (.cells #[.slice A2 m.length c2, .slice A3 m'.length c3] 24)).drew) :
    Calls Try.prog 14 #[.agg #[.int .u8 k, .int .i64 s, .int .i64 o, .int .i64 d, .int .i64 e'], .slice A own.length c, .slice (some ⟨wr.heap.size, 0, none⟩) 2 2] wx fun e w' => ∃ g, e = .returned (.slice (some ⟨g, 0, none⟩) want.length own.length) ∧ Rs mailC 2 w' (some ⟨g, 0, none⟩) want ∧ Below w5.heap.size w5 w' := by
  have h := RsRs.lit2 r2 hc2 r3 hc3 24
  rcases hx' with rfl | rfl <;> exact merge_ord w5 _ k s o d e' A _ c 2 own [m, m'] want 2 r1 (by exact h) l1 rfl (by omega) hw.symm hwo (by
    simp only [List.mem_cons, List.not_mem_nil, or_false, forall_eq_or_imp, forall_eq]
    exact ⟨⟨l2, hwm⟩, l3, hwm'⟩) (by first | exact below_al hb rfl _ | exact (below_al hb rfl _).drew)
end
section
variable {wr : World} (w5 : World) (k s o d e' : Int) (A A2 : Option Addr) (c c2 : Nat) (own : List Int) (l : List (Int × Int))
theorem ord_m2 (want : List (Bool × Int)) (kc : Nat) (r1 : Rs intC 1 w5 A own) (r2 : Rs msgC 2 w5 A2 l) (hc2 : l.length ≤ c2) (hkc : kc ≤ l.length) (l1 : own.length ≤ 60) (l2 : l.length ≤ 100) (hw : want = mergeL k own [l]) (hwo : ∀ v ∈ own, (Lit.int .i64 v).wf = true) (hwm : ∀ x ∈ l, (Lit.int .i64 x.1).wf = true) (hb : Below w5.heap.size w5 wr) (wx : World) (hx' : wx = wr.alloc (.cells #[.slice A2 kc c2, .slice (cutA A2 c2 kc 2) (l.length - kc) (c2 - kc)] 24) ∨ wx = (wr.alloc (.cells #[.slice A2 kc c2, .slice (cutA A2 c2 kc 2) (l.length - kc) (c2 - kc)] 24)).drew) :
    Calls Try.prog 14 #[.agg #[.int .u8 k, .int .i64 s, .int .i64 o, .int .i64 d, .int .i64 e'], .slice A own.length c, .slice (some ⟨wr.heap.size, 0, none⟩) 2 2] wx fun e w' => ∃ g, e = .returned (.slice (some ⟨g, 0, none⟩) want.length own.length) ∧ Rs mailC 2 w' (some ⟨g, 0, none⟩) want ∧ Below w5.heap.size w5 w' := by
  have hr := r2.below hb
  have h := RsRs.lit2 (Rs.take msgC_len hr kc) (c := c2) (by rw [List.length_take]; omega) (Rs.cut msgC_len hr (c := c2) (i := kc) hc2) (d := c2 - kc) (by rw [List.length_drop]; omega) 24
  have hs1 : (l.take kc).length ≤ 100 ∧ ∀ x ∈ l.take kc, (Lit.int .i64 x.1).wf = true := ⟨by rw [List.length_take]; omega, fun x hx => hwm x (List.mem_of_mem_take hx)⟩
  have hs2 : (l.drop kc).length ≤ 100 ∧ ∀ x ∈ l.drop kc, (Lit.int .i64 x.1).wf = true := ⟨by rw [List.length_drop]; omega, fun x hx => hwm x (List.mem_of_mem_drop hx)⟩
  rw [List.length_take, List.length_drop, Nat.min_eq_left hkc] at h
  rcases hx' with rfl | rfl <;> exact merge_ord w5 _ k s o d e' A _ c 2 own [l.take kc, l.drop kc] want 2 r1 (by exact h) l1 rfl (by omega) ((ord_two kc).trans hw.symm) hwo (by simp only [List.mem_cons, List.not_mem_nil, or_false, forall_eq_or_imp, forall_eq]; exact ⟨hs1, hs2⟩) (by first | exact below_al hb rfl _ | exact (below_al hb rfl _).drew)
theorem ord_m3 (want : List (Bool × Int)) (kc : Nat) (r1 : Rs intC 1 w5 A own) (r2 : Rs msgC 2 w5 A2 l) (hc2 : l.length ≤ c2) (hkc : kc ≤ l.length) (l1 : own.length ≤ 60) (l2 : l.length ≤ 100) (hw : want = mergeL k own [l]) (hwo : ∀ v ∈ own, (Lit.int .i64 v).wf = true) (hwm : ∀ x ∈ l, (Lit.int .i64 x.1).wf = true) (hb : Below w5.heap.size w5 wr) (wx : World) (hx' : wx = wr.alloc (.cells #[.slice (cutA A2 c2 kc 2) (l.length - kc) (c2 - kc), .slice none 0 0, .slice A2 kc c2] 24) ∨ wx = (wr.alloc (.cells #[.slice (cutA A2 c2 kc 2) (l.length - kc) (c2 - kc), .slice none 0 0, .slice A2 kc c2] 24)).drew) :
    Calls Try.prog 14 #[.agg #[.int .u8 k, .int .i64 s, .int .i64 o, .int .i64 d, .int .i64 e'], .slice A own.length c, .slice (some ⟨wr.heap.size, 0, none⟩) 3 3] wx fun e w' => ∃ g, e = .returned (.slice (some ⟨g, 0, none⟩) want.length own.length) ∧ Rs mailC 2 w' (some ⟨g, 0, none⟩) want ∧ Below w5.heap.size w5 w' := by
  have hr := r2.below hb
  have h := RsRs.lit3 (Rs.cut msgC_len hr (c := c2) (i := kc) hc2) (c := c2 - kc) (by rw [List.length_drop]; omega) (Rs.take msgC_len hr kc) (d := c2) (by rw [List.length_take]; omega) 24
  have hs1 : (l.take kc).length ≤ 100 ∧ ∀ x ∈ l.take kc, (Lit.int .i64 x.1).wf = true := ⟨by rw [List.length_take]; omega, fun x hx => hwm x (List.mem_of_mem_take hx)⟩
  have hs2 : (l.drop kc).length ≤ 100 ∧ ∀ x ∈ l.drop kc, (Lit.int .i64 x.1).wf = true := ⟨by rw [List.length_drop]; omega, fun x hx => hwm x (List.mem_of_mem_drop hx)⟩
  rw [List.length_take, List.length_drop, Nat.min_eq_left hkc] at h
  rcases hx' with rfl | rfl <;> exact merge_ord w5 _ k s o d e' A _ c 3 own [l.drop kc, [], l.take kc] want 3 r1 (by exact h) l1 rfl (by omega) ((ord_three kc).trans hw.symm) hwo (by simp only [List.mem_cons, List.not_mem_nil, or_false, forall_eq_or_imp, forall_eq]; exact ⟨hs2, ⟨by simp, by simp⟩, hs1⟩) (by first | exact below_al hb rfl _ | exact (below_al hb rfl _).drew)
/-- one row, m, of vertices that l has -/
theorem ord_m1 (m : List (Int × Int)) (want : List (Bool × Int)) (n : Nat) (r1 : Rs intC 1 w5 A own) (r2 : Rs msgC 2 w5 A2 m) (hn : m.length = n) (hc2 : n ≤ c2) (l1 : own.length ≤ 60) (l2 : n ≤ 100) (hw : want = mergeL k own [m]) (hwo : ∀ v ∈ own, (Lit.int .i64 v).wf = true) (hwm : ∀ x ∈ l, (Lit.int .i64 x.1).wf = true) (hx : ∀ x ∈ m, ∃ y, y ∈ l ∧ y.1 = x.1) (hb : Below w5.heap.size w5 wr) (wx : World) (hx' : wx = wr.alloc (.cells #[.slice A2 n c2] 24) ∨ wx = (wr.alloc (.cells #[.slice A2 n c2] 24)).drew) :
    Calls Try.prog 14 #[.agg #[.int .u8 k, .int .i64 s, .int .i64 o, .int .i64 d, .int .i64 e'], .slice A own.length c, .slice (some ⟨wr.heap.size, 0, none⟩) 1 1] wx fun e w' => ∃ g, e = .returned (.slice (some ⟨g, 0, none⟩) want.length own.length) ∧ Rs mailC 2 w' (some ⟨g, 0, none⟩) want ∧ Below w5.heap.size w5 w' := by
  subst hn
  have h := RsRs.lit1 (r2.below hb) hc2 24
  rcases hx' with rfl | rfl <;> exact merge_ord w5 _ k s o d e' A _ c 1 own [m] want 1 r1 (by exact h) l1 rfl (by omega) hw.symm hwo (by
    simp only [List.mem_cons, List.not_mem_nil, or_false, forall_eq]
    refine ⟨l2, fun x hx' => ?_⟩
    obtain ⟨y, hy, e⟩ := hx x hx'
    rw [← e]
    exact hwm y hy) (by first | exact below_al hb rfl _ | exact (below_al hb rfl _).drew)
end
theorem same_two (wr : World) (g g' n : Nat) (want : List (Bool × Int)) (hwl : want.length ≤ 1000000000) (h1 : Rs mailC 2 wr (some ⟨g, 0, none⟩) want) (h2 : Rs mailC 2 wr (some ⟨g', 0, none⟩) want) :
    Calls Try.prog 17 #[.slice (some ⟨g, 0, none⟩) want.length n, .slice (some ⟨g', 0, none⟩) want.length n] wr fun e w' => e = .returned (.bool true) ∧ Below wr.heap.size wr w' := by
  refine (same_any wr _ _ n n want want h1 h2 hwl).mono ?_
  rintro e w' ⟨rfl, hb'⟩
  rw [sameL_refl]
  exact ⟨rfl, hb'⟩
theorem merge_rows (w9 wr : World) (k s o d e' : Int) (A A' : Option Addr) (c c' : Nat) (own : List Int) (l : List (Int × Int)) (want : List (Bool × Int)) (nn : Nat) (h1 : Rs intC 1 w9 A own) (hL : RsRs w9 A' (splitL l nn)) (l1 : own.length ≤ 60) (l2 : l.length ≤ 100) (hn1 : 1 ≤ nn) (h8 : nn ≤ 64)
    (hw : want = mergeL k own [someL l]) (hwo : ∀ v ∈ own, (Lit.int .i64 v).wf = true) (hwm : ∀ x ∈ l, (Lit.int .i64 x.1).wf = true) (hb : Below w9.heap.size w9 wr) :
    Calls Try.prog 14 #[.agg #[.int .u8 k, .int .i64 s, .int .i64 o, .int .i64 d, .int .i64 e'], .slice A own.length c, .slice A' (splitL l nn).length c'] wr fun e w' => ∃ g, e = .returned (.slice (some ⟨g, 0, none⟩) want.length own.length) ∧ Rs mailC 2 w' (some ⟨g, 0, none⟩) want ∧ Below w9.heap.size w9 w' ∧ Below wr.heap.size wr w' := by
  have hs : ∀ m ∈ splitL l nn, m.length ≤ 100 ∧ ∀ x ∈ m, (Lit.int .i64 x.1).wf = true := by
    intro m hm
    unfold splitL at hm
    simp only [List.mem_map] at hm
    obtain ⟨u, _, rfl⟩ := hm
    exact ⟨Nat.le_trans (rowL_len _ _ _) l2, fun x hx => hwm x (List.mem_filter.1 hx).1⟩
  have he : mergeL k own (splitL l nn) = want := by rw [ord_split hn1 h8, hw]
  subst he
  refine (c_merge wr k s o d e' A A' c c' own _ (h1.below hb) (hL.below hb) (by omega) (by rw [splitL_len]; omega) ?_ hwo (fun m hm => (hs m hm).2)).mono ?_
  · have := flat_len fun m hm => (hs m hm).1
    rw [splitL_len] at this
    omega
  · rintro e w' ⟨g, rfl, hr, hb'⟩
    exact ⟨g, rfl, hr, hb.trans (hb'.mono hb.size), hb'⟩
theorem someL_snoc {l : List (Int × Int)} {i : Nat} {x : Int × Int} (h : l[i]? = some x) : someL (l.take (i + 1)) = if 0 ≤ x.1 ∧ x.1 < 512 then someL (l.take i) ++ [x] else someL (l.take i) := by
  unfold someL
  rw [take_snoc_ h, List.filter_append]
  by_cases hx : 0 ≤ x.1 ∧ x.1 < 512
  · rw [if_pos hx]
    simp [hx]
  · rw [if_neg hx]
    have e : (decide (0 ≤ x.1) && decide (x.1 < 512)) = false := by
      by_cases h1 : 0 ≤ x.1
      · have h2 : ¬ x.1 < 512 := fun h => hx ⟨h1, h⟩
        rw [decide_eq_false h2, Bool.and_false]
      · rw [decide_eq_false h1, Bool.false_and]
    simp [e]
theorem someL_len (l : List (Int × Int)) : (someL l).length ≤ l.length := List.length_filter_le _ _
attribute [local go_sem ↓] Go.wp_at_zero Go.wp_at_succ
set_option maxRecDepth 100000 in
set_option maxHeartbeats 4000000 in
theorem orderBig_any (w : World) (k s o d e' cut turn n : Int) (A A2 : Option Addr) (m1 m2 c c2 : Nat) (h : ¬ (m1 ≤ 60 ∧ m2 ≤ 100)) :
    Calls Try.prog 6 #[.agg #[.int .u8 k, .int .i64 s, .int .i64 o, .int .i64 d, .int .i64 e'], .slice A m1 c, .slice A2 m2 c2, .int .i64 cut, .int .i64 turn, .int .u8 n] w fun e w' => e = .returned (.bool true) ∧ Below w.heap.size w w' := by
  by_cases l1 : (60 : Int) < (m1 : Int)
  · clear h
    go_enter Try.func6, Try.ntmps6
    go_wp2_with fail
    refine (works_any _).mono ?_
    rintro e w1 ⟨rfl, hb⟩
    have HB := Lib.hid ((job_below w _ _).trans (hb.mono (job_below w _ _).size))
    clear hb
    go_wp2
    go_ret
    exact ⟨rfl, HB.out⟩
  · have l3 : (100 : Int) < (m2 : Int) := by omega
    clear h
    go_enter Try.func6, Try.ntmps6
    go_wp2_with fail
    refine (works_any _).mono ?_
    rintro e w1 ⟨rfl, hb⟩
    have HB := Lib.hid ((job_below w _ _).trans (hb.mono (job_below w _ _).size))
    clear hb
    go_wp2
    go_ret
    exact ⟨rfl, HB.out⟩
set_option maxRecDepth 100000 in
set_option maxHeartbeats 8000000 in
theorem lawOrder_any (w : World) (k s o d e' cut turn n : Int) (A A2 : Option Addr) (c c2 : Nat) (own : List Int) (l : List (Int × Int)) (h1 : Rs intC 1 w A own) (h2 : Rs msgC 2 w A2 l) (hc2 : l.length ≤ c2)
    (hwo : ∀ v ∈ own, (Lit.int .i64 v).wf = true) (hwm : ∀ x ∈ l, (Lit.int .i64 x.1).wf = true) (hn : 0 ≤ n ∧ n ≤ 255) :
    Calls Try.prog 6 #[.agg #[.int .u8 k, .int .i64 s, .int .i64 o, .int .i64 d, .int .i64 e'], .slice A own.length c, .slice A2 l.length c2, .int .i64 cut, .int .i64 turn, .int .u8 n] w fun e w' => e = .returned (.bool true) ∧ Below w.heap.size w w' := by
  by_cases hl : own.length ≤ 60 ∧ l.length ≤ 100
  · obtain ⟨l1, l2⟩ := hl
    have l1I : ¬ (60 : Int) < (own.length : Int) := by omega
    have l2I : ¬ (100 : Int) < (l.length : Int) := by omega
    obtain ⟨j0, hj0, hy0, hy1, hy2, -⟩ := parts infoM
    obtain ⟨kc, hkc, hpc⟩ := pick_nat cut l.length (by omega)
    obtain ⟨kt, hkt, hpt⟩ := pick_nat turn l.length (by omega)
    have hb := job_below w 23 #[.int .u8 k, .int .i64 s, .int .i64 o, .int .i64 d, .int .i64 e']
    have hj := JobAt.made w 23 k s o d e'
    have H1 := Lib.hid (h1.below hb); have H2 := Lib.hid (h2.below hb); have HW := Lib.hid (And.intro hwo hwm)
    have HJ0 := Lib.hid hj0; have HY0 := Lib.hid hy0; have HPC := Lib.hid hpc; have HPT := Lib.hid hpt
    clear hj0 hy0 hpc hpt hwo hwm h1 h2
    go_enter Try.func6, Try.ntmps6
    go_wp2
    obtain ⟨w1, hw1⟩ : ∃ w1, w1 = w.alloc (.cells #[.int .u8 k, .int .i64 s, .int .i64 o, .int .i64 d, .int .i64 e'] 23) := ⟨_, rfl⟩
    have hz : w1.heap.size = w.heap.size + 1 := by rw [hw1]; simp
    rw [← hw1] at hb hj H1 H2 ⊢
    have HB := Lib.hid hb; have HJ := Lib.hid hj; have HZ := Lib.hid hz
    clear hw1 hb hj hz
    go_loopg [13] l.length (fun gf vi wr => ∃ i : Nat, vi = .int .i64 i ∧ i + gf = l.length ∧ wr = w1)
    case atStart => exact ⟨0, rfl, by omega, rfl⟩
    case round =>
      obtain ⟨i, rfl, hi, rfl⟩ := hrel
      cases gk with
      | zero =>
        obtain rfl : i = l.length := by omega
        obtain ⟨j0', j1, j2, j3, j4⟩ := HJ.out
        obtain ⟨want, hwant⟩ : ∃ want, want = mergeL k own [l] := ⟨_, rfl⟩
        have hc := c_merge _ k s o d e' A _ c 1 own [l] (H1.out.alloc _) (RsRs.lit1 H2.out hc2 24) (by omega) (by simp) (by simp; omega) HW.out.1 (by simpa using HW.out.2)
        rw [← hwant] at hc
        have hwl : want.length ≤ 60 := by rw [hwant, mergeL_len]; exact l1
        have HC := Lib.hid hc; have HWA := Lib.hid hwant
        clear hc hwant
        go_wp2_with fail
        refine HC.out.mono ?_
        clear HC
        rintro e w2 ⟨g2, rfl, hr2, hb2⟩
        have ha1 := (Below.refl wr.heap.size wr).alloc (Nat.le_refl _) (.cells #[.slice A2 l.length c2] 24)
        have hb2' := ha1.trans (hb2.mono ha1.size)
        have H1a := Lib.hid (H1.out.below hb2'); have H2a := Lib.hid (H2.out.below hb2'); have HJa := Lib.hid (HJ.out.below hb2' (by rw [HZ.out]; omega)); have HBa := Lib.hid (HB.out.trans (hb2'.mono HB.out.size)); have HRa := Lib.hid hr2
        have hz2 : w.heap.size < w2.heap.size := by have := hb2'.size; rw [HZ.out] at this; omega
        clear hb2 hb2' ha1 hr2 H1 H2 HJ HB HZ j0' j1 j2 j3 j4
        go_wp2_with fail
        refine (HPC.out _).mono ?_
        clear HPC
        rintro e w2 ⟨rfl, rfl⟩
        go_wp2_with fail
        refine (HPT.out _).mono ?_
        clear HPT
        rintro e w2 ⟨rfl, rfl⟩
        have hdr : Sl w2 2 (cutA A2 c2 kt 2) (l.length - kt) (rcs msgC (l.drop kt)) := by
          have h1 := Rs.cut (c := c2) (i := kt) msgC_len H2a.out hc2
          unfold Rs at h1
          rwa [List.length_drop] at h1
        have htk : Sl w2 2 A2 kt (rcs msgC (l.take kt)) := by
          have h1 := Rs.take msgC_len H2a.out kt
          unfold Rs at h1
          rwa [List.length_take, Nat.min_eq_left hkt] at h1
        have HDR := Lib.hid hdr
        have HTK := Lib.hid (fun w3 (hb : Below w2.heap.size w2 w3) => Lib.hid (htk.below hb))
        have hown := Lib.hid (World.ownsRow_nil w2 w2.heap.size 29 2)
        have hzz := Nat.le_refl w2.heap.size
        clear hdr htk
        go_upto_region 13 with (first | (refine wpList_from (o := ⟨some 63, _, _, _, _, _⟩) rfl 24 29 (.tmp 61) (.tmp 62) rfl j0 Try.underlying24 HJ0.out A2 l.length c2 kt 2 hy1 rfl rfl hkt ?_) | (at_builtin; refine wpList_cat _ rfl (.tmp 60) (.tmp 63) 24 rfl w2.heap.size 29 j0 (.agg #[.int .i64 0, .int .i64 0]) 2 16 Try.underlying24 HJ0.out HY0.out hy1 hy2 rfl (by decide) (by decide) _ 0 _ rfl hown _ (l.length - kt) _ (rcs msgC (l.drop kt)) rfl HDR (msgC_one _) (by omega) hzz ?_; intro v3 w3 h2 h3 h4; have HO3 := Lib.hid h2.out; have HB3 := Lib.hid h4.out; have HTK3 := HTK.out w3 h4.out; have hz3 := h4.out.size; clear h2 h3 h4))
        go_upto_region 14 with (first | (refine wpList_upto (o := ⟨some 68, _, _, _, _, _⟩) rfl 24 29 (.tmp 66) (.tmp 67) rfl j0 Try.underlying24 HJ0.out A2 l.length c2 kt rfl rfl (by omega) ?_) | (at_builtin; refine wpList_cat _ rfl (.tmp 65) (.tmp 68) 24 rfl w2.heap.size 29 j0 (.agg #[.int .i64 0, .int .i64 0]) 2 16 Try.underlying24 HJ0.out HY0.out hy1 hy2 rfl (by decide) (by decide) _ (0 + (l.length - kt)) _ rfl HO3 A2 kt c2 (rcs msgC (l.take kt)) rfl HTK3 (msgC_one _) (by omega) hz3 ?_; intro v4 w4 h2 h3 h4; have HO4 := Lib.hid h2.out; have HB4 := Lib.hid h4.out; clear h2 h3 h4))
        have ho4 : w4.ownsRow w2.heap.size 29 2 v4 l.length (rcs msgC (l.drop kt ++ l.take kt)) := by
          have h := HO4.out
          rwa [show 0 + (l.length - kt) + kt = l.length by omega, List.nil_append, ← rcs_append] at h
        obtain ⟨A4, c4, rfl, hc4⟩ := own_parts ho4
        have hlt : (l.drop kt ++ l.take kt).length = l.length := by rw [List.length_append, List.length_drop, List.length_take]; omega
        have hb4 := HB3.out.trans HB4.out
        have rt4 : Rs msgC 2 w4 A4 (l.drop kt ++ l.take kt) := Rs.of_own (by rw [hlt]; exact ho4)
        have H1b := Lib.hid (H1a.out.below hb4); have H2b := Lib.hid (H2a.out.below hb4); have HJb := Lib.hid (HJa.out.below hb4 hz2); have HBb := Lib.hid (HBa.out.trans (hb4.mono HBa.out.size)); have HRb := Lib.hid (HRa.out.below hb4)
        have HT := Lib.hid rt4; have HLT := Lib.hid hlt
        have hz4 : w.heap.size < w4.heap.size := Nat.lt_of_lt_of_le hz2 hb4.size
        clear ho4 hb4 rt4 hlt H1a H2a HJa HBa HRa HO3 HB3 HTK3 hz3 HO4 HB4 HTK HDR hown hzz hz2
        go_wp2
        go_loopg [18, 19] l.length (fun gf vo vi wr => vi = .int .i64 ((gf : Int) - 1) ∧ gf ≤ l.length ∧ Below w4.heap.size w4 wr ∧ wr.ownsRow w4.heap.size 29 2 vo (l.length - gf) (rcs msgC (l.drop gf).reverse))
        case atStart =>
          refine ⟨by go_num, by omega, Below.refl _ _, ?_⟩
          rw [Nat.sub_self, List.drop_length]
          exact World.ownsRow_nil _ _ _ _
        case round =>
          obtain ⟨rfl, hgk, hB5, hO5⟩ := hrel
          cases gk with
          | zero =>
            rw [List.drop_zero, Nat.sub_zero] at hO5
            obtain ⟨A5, c5, rfl, hc5⟩ := own_parts hO5
            obtain ⟨w5, rfl⟩ : ∃ w5 : World, w5 = wr := ⟨_, rfl⟩
            have rb5 : Rs msgC 2 w5 A5 l.reverse := Rs.of_own (by rw [List.length_reverse]; exact hO5)
            have r1 := H1b.out.below hB5
            have r2 := H2b.out.below hB5
            have rt := HT.out.below hB5
            have hlt := HLT.out
            have hsm := fun (wr : World) (g : Nat) (hb : Below w5.heap.size w5 wr) (hr : Rs mailC 2 wr (some ⟨g, 0, none⟩) want) => same_ord w5 wr g2 g own.length want hwl ((HRb.out.below hB5)) hr hb
            have hjk : ∀ wr, Below w5.heap.size w5 wr → JobAt wr w.heap.size k s o d e' := fun wr hb => (HJb.out.below hB5 hz4).below hb (Nat.lt_of_lt_of_le hz4 hB5.size)
            have HSM := Lib.hid hsm; have HJX := Lib.hid hjk
            have HB5 := Lib.hid (HBb.out.trans (hB5.mono HBb.out.size)); have R1 := Lib.hid r1; have R2 := Lib.hid r2; have RT := Lib.hid rt; have RB := Lib.hid rb5
            clear hsm hjk hB5 hO5 H1b H2b HT HRb HJb HBb
            have hu1 : ∀ w, (Instr.sliceAt 24 (.slice A2 l.length c2) none (some (.int .i64 (kc : Int))) none).run Try.prog w = .ok (.slice A2 kc c2) w := fun w => (run_sliceAt_slice w _ _ _ _ _ (by rw [show Try.prog.elem 24 = 29 by kernel_rfl]; exact Try.underlying24)).trans (run_upto Try.underlying24 HJ0.out A2 l.length c2 kc (by omega) w)
            have hu2 : ∀ w, (Instr.sliceAt 24 (.slice A2 l.length c2) (some (.int .i64 (kc : Int))) none none).run Try.prog w = .ok (.slice (cutA A2 c2 kc 2) (l.length - kc) (c2 - kc)) w := fun w => (run_sliceAt_slice w _ _ _ _ _ (by rw [show Try.prog.elem 24 = 29 by kernel_rfl]; exact Try.underlying24)).trans (run_from Try.underlying24 HJ0.out A2 l.length c2 kc 2 hy1 (by omega) w)
            have HM2 := Lib.hid (fun wr hb => ord_m2 (wr := wr) w5 k s o d e' A A2 c c2 own l want kc r1 r2 hc2 hkc l1 l2 HWA.out HW.out.1 HW.out.2 hb)
            have HM3 := Lib.hid (fun wr hb => ord_m3 (wr := wr) w5 k s o d e' A A2 c c2 own l want kc r1 r2 hc2 hkc l1 l2 HWA.out HW.out.1 HW.out.2 hb)
            have HM4 := Lib.hid (fun wr hb => ord_m1 (wr := wr) w5 k s o d e' A A4 c c4 own l _ want l.length r1 rt hlt hc4 l1 l2 (HWA.out.trans (ord_turned kt).symm) HW.out.1 HW.out.2 (fun x hx => ⟨x, by rcases List.mem_append.1 hx with h | h; exact List.mem_of_mem_drop h; exact List.mem_of_mem_take h, rfl⟩) hb)
            have HM5 := Lib.hid (fun wr hb => ord_m1 (wr := wr) w5 k s o d e' A A5 c c5 own l _ want l.length r1 rb5 (List.length_reverse ..) hc5 l1 l2 (HWA.out.trans ord_back.symm) HW.out.1 HW.out.2 (fun x hx => ⟨x, List.mem_reverse.1 hx, rfl⟩) hb)
            clear r1 r2 rt rb5
            have HBX := Lib.hid (Below.refl w5.heap.size w5)
            go_upto_region 18 with (fail)
            go_cut [131] (fun s131 wx => s131 = .bool false ∧ Below w5.heap.size w5 wx)
            case first =>
              go_region_held3 (fun w' => w'.cell? ⟨w.heap.size, 0, none⟩ = some (.int .u8 k) ∧ w'.cell? ⟨w.heap.size, 1, none⟩ = some (.int .i64 s) ∧ w'.cell? ⟨w.heap.size, 2, none⟩ = some (.int .i64 o) ∧ w'.cell? ⟨w.heap.size, 3, none⟩ = some (.int .i64 d) ∧ w'.cell? ⟨w.heap.size, 4, none⟩ = some (.int .i64 e')) (first | exact HJX.out _ HBX.out | exact HJX.out _ HBX.out.drew | exact HJX.out _ (below_al HBX.out rfl _) | exact HJX.out _ (below_al HBX.out.drew rfl _)) (first | (go_at_call 14; (with_reducible refine (HM2.out _ (by first | exact HBX.out | exact HBX.out.drew | exact below_drewN HBX.out _) _ (by first | exact .inl rfl | exact .inr rfl)).mono ?_); rintro e w6 ⟨g6, rfl, hr6, hb6⟩; have HBX := Lib.hid hb6; have HRX := Lib.hid hr6; clear hb6 hr6) | (go_at_call 14; (with_reducible refine (HM3.out _ (by first | exact HBX.out | exact HBX.out.drew | exact below_drewN HBX.out _) _ (by first | exact .inl rfl | exact .inr rfl)).mono ?_); rintro e w6 ⟨g6, rfl, hr6, hb6⟩; have HBX := Lib.hid hb6; have HRX := Lib.hid hr6; clear hb6 hr6) | (go_at_call 14; (with_reducible refine (HM4.out _ (by first | exact HBX.out | exact HBX.out.drew | exact below_drewN HBX.out _) _ (by first | exact .inl rfl | exact .inr rfl)).mono ?_); rintro e w6 ⟨g6, rfl, hr6, hb6⟩; have HBX := Lib.hid hb6; have HRX := Lib.hid hr6; clear hb6 hr6) | (go_at_call 14; (with_reducible refine (HM5.out _ (by first | exact HBX.out | exact HBX.out.drew | exact below_drewN HBX.out _) _ (by first | exact .inl rfl | exact .inr rfl)).mono ?_); rintro e w6 ⟨g6, rfl, hr6, hb6⟩; have HBX := Lib.hid hb6; have HRX := Lib.hid hr6; clear hb6 hr6) | (go_at_call 17; (with_reducible refine (HSM.out _ _ (by first | exact HBX.out | exact HBX.out.drew | exact below_drewN HBX.out _) (by first | exact HRX.out | exact HRX.out.drew | exact HRX.out.drewN _)).mono ?_); rintro e w7 ⟨rfl, hb7⟩; have HBX := Lib.hid hb7; clear hb7))
              go_wp2
              go_meet
              exact ⟨rfl, by first | exact HBX.out | exact HBX.out.drew⟩
            case rest =>
              obtain ⟨rfl, hbx⟩ := hcut
              have HBX := Lib.hid hbx
              clear hbx hu1 hu2
              have hv1 : ∀ w, (Instr.sliceAt 24 (.slice A5 l.length c5) none (some (.int .i64 (kc : Int))) none).run Try.prog w = .ok (.slice A5 kc c5) w := fun w => (run_sliceAt_slice w _ _ _ _ _ (by rw [show Try.prog.elem 24 = 29 by kernel_rfl]; exact Try.underlying24)).trans (run_upto Try.underlying24 HJ0.out A5 l.length c5 kc (by omega) w)
              have hv2 : ∀ w, (Instr.sliceAt 24 (.slice A5 l.length c5) (some (.int .i64 (kc : Int))) none none).run Try.prog w = .ok (.slice (cutA A5 c5 kc 2) (l.length - kc) (c5 - kc)) w := fun w => (run_sliceAt_slice w _ _ _ _ _ (by rw [show Try.prog.elem 24 = 29 by kernel_rfl]; exact Try.underlying24)).trans (run_from Try.underlying24 HJ0.out A5 l.length c5 kc 2 hy1 (by omega) w)
              obtain ⟨f1, hf1⟩ : ∃ f, f = foldL k l := ⟨_, rfl⟩
              obtain ⟨f2, hf2⟩ : ∃ f, f = foldL k (l.reverse.take kc) := ⟨_, rfl⟩
              obtain ⟨f3, hf3⟩ : ∃ f, f = foldL k (l.reverse.drop kc) := ⟨_, rfl⟩
              have ht2 : (l.reverse.take kc).length = kc := by rw [List.length_take, List.length_reverse]; omega
              have ht3 : (l.reverse.drop kc).length = l.length - kc := by rw [List.length_drop, List.length_reverse]
              have hn1 : f1.length ≤ 100 := by have := foldL_len k l; rw [hf1]; omega
              have hn2 : f2.length ≤ 100 := by have := foldL_len k (l.reverse.take kc); rw [hf2]; omega
              have hn3 : f3.length ≤ 100 := by have := foldL_len k (l.reverse.drop kc); rw [hf3]; omega
              have hwm := HW.out.2
              have hr2 : ∀ x ∈ l.reverse.take kc, (Lit.int .i64 x.1).wf = true := fun x hx => hwm x (List.mem_reverse.1 (List.mem_of_mem_take hx))
              have hr3 : ∀ x ∈ l.reverse.drop kc, (Lit.int .i64 x.1).wf = true := fun x hx => hwm x (List.mem_reverse.1 (List.mem_of_mem_drop hx))
              have hg1 : ∀ x ∈ f1, (Lit.int .i64 x.1).wf = true := fun x hx => by rw [hf1] at hx; obtain ⟨y, hy, e⟩ := fold_keys x hx; rw [← e]; exact hwm y hy
              have hg2 : ∀ x ∈ f2, (Lit.int .i64 x.1).wf = true := fun x hx => by rw [hf2] at hx; obtain ⟨y, hy, e⟩ := fold_keys x hx; rw [← e]; exact hr2 y hy
              have hg3 : ∀ x ∈ f3, (Lit.int .i64 x.1).wf = true := fun x hx => by rw [hf3] at hx; obtain ⟨y, hy, e⟩ := fold_keys x hx; rw [← e]; exact hr3 y hy
              have HF1 := Lib.hid (fun wr (hb : Below w5.heap.size w5 wr) => fold_ord w5 wr k s o d e' A2 c2 l.length l f1 rfl l2 hf1 (R2.out.below hb) hwm hb)
              have HF2 := Lib.hid (fun wr (hb : Below w5.heap.size w5 wr) => fold_ord w5 wr k s o d e' A5 c5 kc _ f2 ht2 (by omega) hf2 (Rs.take msgC_len (RB.out.below hb) kc) hr2 hb)
              have HF3 := Lib.hid (fun wr (hb : Below w5.heap.size w5 wr) => fold_ord w5 wr k s o d e' (cutA A5 c5 kc 2) (c5 - kc) (l.length - kc) _ f3 ht3 (by omega) hf3 (Rs.cut msgC_len (RB.out.below hb) (by rw [List.length_reverse]; exact hc5)) hr3 hb)
              have HN1 := Lib.hid (fun wr (hb : Below w5.heap.size w5 wr) => ord_n1 (wr := wr) w5 k s o d e' A c own f1 want R1.out l1 hn1 (HWA.out.trans (by rw [hf1]; exact ord_fold.symm)) HW.out.1 hg1 hb)
              have HN2 := Lib.hid (fun wr (hb : Below w5.heap.size w5 wr) => ord_n2 (wr := wr) w5 k s o d e' A c own f2 f3 want R1.out l1 hn2 hn3 (HWA.out.trans (by rw [hf2, hf3]; exact (ord_folds kc).symm)) HW.out.1 hg2 hg3 hb)
              clear hf1 hf2 hf3 ht2 ht3 hn1 hn2 hn3 hwm hr2 hr3 hg1 hg2 hg3
              go_upto_region 20 with (fail)
              go_cut [160] (fun s160 wx => s160 = .bool false ∧ Below w5.heap.size w5 wx)
              case first =>
                go_region_held3 (fun w' => w'.cell? ⟨w.heap.size, 0, none⟩ = some (.int .u8 k) ∧ w'.cell? ⟨w.heap.size, 1, none⟩ = some (.int .i64 s) ∧ w'.cell? ⟨w.heap.size, 2, none⟩ = some (.int .i64 o) ∧ w'.cell? ⟨w.heap.size, 3, none⟩ = some (.int .i64 d) ∧ w'.cell? ⟨w.heap.size, 4, none⟩ = some (.int .i64 e')) (first | exact HJX.out _ HBX.out | exact HJX.out _ HBX.out.drew | exact HJX.out _ (below_al HBX.out rfl _) | exact HJX.out _ (below_al HBX.out.drew rfl _)) (first | (go_at_call 9; (with_reducible refine (HF1.out _ (by first | exact HBX.out | exact HBX.out.drew | exact below_drewN HBX.out _)).mono ?_); rintro e w6 ⟨A6_1, c6_1, rfl, hc6, hr6, hb6, hb6x⟩; have HBX := Lib.hid hb6;  have HRF1 := Lib.hid hr6; have HCF1 := Lib.hid hc6; clear hb6 hr6 hc6 hb6x) | (go_at_call 9; (with_reducible refine (HF2.out _ (by first | exact HBX.out | exact HBX.out.drew | exact below_drewN HBX.out _)).mono ?_); rintro e w6 ⟨A6_2, c6_2, rfl, hc6, hr6, hb6, hb6x⟩; have HBX := Lib.hid hb6;  have HRF2 := Lib.hid hr6; have HCF2 := Lib.hid hc6; clear hb6 hr6 hc6 hb6x) | (go_at_call 9; (with_reducible refine (HF3.out _ (by first | exact HBX.out | exact HBX.out.drew | exact below_drewN HBX.out _)).mono ?_); rintro e w6 ⟨A6_3, c6_3, rfl, hc6, hr6, hb6, hb6x⟩; have HBX := Lib.hid hb6; have HRF2 := Lib.hid (HRF2.out.below hb6x); have HRF3 := Lib.hid hr6; have HCF3 := Lib.hid hc6; clear hb6 hr6 hc6 hb6x) | (go_at_call 14; (with_reducible refine (HN1.out _ (by first | exact HBX.out | exact HBX.out.drew | exact below_drewN HBX.out _) _ _ (by first | exact HRF1.out | exact HRF1.out.drew | exact HRF1.out.drewN _) HCF1.out _ (by first | exact .inl rfl | exact .inr rfl)).mono ?_); rintro e w8 ⟨g8, rfl, hr8, hb8⟩; have HBX := Lib.hid hb8; have HRX := Lib.hid hr8; clear hb8 hr8) | (go_at_call 14; (with_reducible refine (HN2.out _ (by first | exact HBX.out | exact HBX.out.drew | exact below_drewN HBX.out _) _ _ _ _ (by first | exact HRF2.out | exact HRF2.out.drew | exact HRF2.out.drewN _) HCF2.out (by first | exact HRF3.out | exact HRF3.out.drew | exact HRF3.out.drewN _) HCF3.out _ (by first | exact .inl rfl | exact .inr rfl)).mono ?_); rintro e w8 ⟨g8, rfl, hr8, hb8⟩; have HBX := Lib.hid hb8; have HRX := Lib.hid hr8; clear hb8 hr8) | (go_at_call 17; (with_reducible refine (HSM.out _ _ (by first | exact HBX.out | exact HBX.out.drew | exact below_drewN HBX.out _) (by first | exact HRX.out | exact HRX.out.drew | exact HRX.out.drewN _)).mono ?_); rintro e w7 ⟨rfl, hb7⟩; have HBX := Lib.hid hb7; clear hb7))
                go_wp2
                go_meet
                exact ⟨rfl, by first | exact HBX.out | exact HBX.out.drew⟩
              case rest =>
                obtain ⟨rfl, hbx⟩ := hcut
                have HBX := Lib.hid hbx
                clear hbx hv1 hv2 HF1 HF2 HF3 HN1 HN2
                go_wp2
                go_loopg [20, 21] l.length (fun gf vo vi wr => ∃ i : Nat, vi = .int .i64 i ∧ i + gf = l.length ∧ Below wc.heap.size wc wr ∧ wr.ownsRow wc.heap.size 29 2 vo (someL (l.take i)).length (rcs msgC (someL (l.take i))))
                case atStart => exact ⟨0, rfl, by omega, Below.refl _ _, World.ownsRow_nil _ _ _ _⟩
                case round =>
                  obtain ⟨i, rfl, hi, hB6, hO6⟩ := hrel
                  cases gk with
                  | zero =>
                    obtain rfl : i = l.length := by omega
                    rw [List.take_length] at hO6
                    obtain ⟨A6, c6, rfl, hc6⟩ := own_parts hO6
                    have hslen := someL_len l
                    obtain ⟨nn, hnn⟩ : ∃ nn : Nat, 1 + n % 64 = (nn : Int) := ⟨(1 + n % 64).toNat, by omega⟩
                    have hnn1 : 1 ≤ nn := by omega
                    have hnn2 : nn ≤ 64 := by omega
                    have hb6 := HBX.out.trans (hB6.mono HBX.out.size)
                    have hc := c_split wr A2 c2 nn l (R2.out.below hb6) (by omega) hnn1 hnn2
                    have HC := Lib.hid hc; have HO6 := Lib.hid (Rs.of_own hO6); have HB6 := Lib.hid hb6; have HC6 := Lib.hid hc6
                    clear hc hO6 hB6 hb6 hc6
                    go_wp2_with fail
                    refine HC.out.mono ?_
                    clear HC
                    rintro e w9 ⟨g9, rfl, hr9, hb9⟩
                    have hb59 := HB6.out.trans (hb9.mono HB6.out.size)
                    obtain ⟨want2, hwant2⟩ : ∃ want2, want2 = mergeL k own [someL l] := ⟨_, rfl⟩
                    have hwl2 : want2.length ≤ 1000000000 := by rw [hwant2, mergeL_len]; omega
                    have hjy : ∀ wr, Below w9.heap.size w9 wr → JobAt wr w.heap.size k s o d e' := fun wr hb => HJX.out wr (hb59.trans (hb.mono hb59.size))
                    have hp1 := fun (wr : World) (hb : Below w9.heap.size w9 wr) => ord_m1 (wr := wr) w9 k s o d e' A A6 c c6 own l (someL l) want2 (someL l).length (R1.out.below hb59) (HO6.out.below hb9) rfl HC6.out l1 (by omega) hwant2 HW.out.1 HW.out.2 (fun x hx => ⟨x, (List.mem_filter.1 hx).1, rfl⟩) hb
                    have hp2 := fun (wr : World) (hb : Below w9.heap.size w9 wr) => merge_rows w9 wr k s o d e' A _ c nn own l want2 nn (R1.out.below hb59) hr9 l1 l2 hnn1 hnn2 hwant2 HW.out.1 HW.out.2 hb
                    have HP1 := Lib.hid hp1; have HP2 := Lib.hid hp2; have HJY := Lib.hid hjy; have HB9 := Lib.hid (HB5.out.trans (hb59.mono HB5.out.size))
                    have HBX := Lib.hid (Below.refl w9.heap.size w9)
                    clear hp1 hp2 hjy hb59 hb9 hr9 HB6 hwant2 hnn HO6 HC6 HSM HM2 HM3 HM4 HM5
                    go_upto_region 29 with (fail)
                    go_region_held3 (fun w' => w'.cell? ⟨w.heap.size, 0, none⟩ = some (.int .u8 k) ∧ w'.cell? ⟨w.heap.size, 1, none⟩ = some (.int .i64 s) ∧ w'.cell? ⟨w.heap.size, 2, none⟩ = some (.int .i64 o) ∧ w'.cell? ⟨w.heap.size, 3, none⟩ = some (.int .i64 d) ∧ w'.cell? ⟨w.heap.size, 4, none⟩ = some (.int .i64 e')) (first | exact HJY.out _ HBX.out | exact HJY.out _ HBX.out.drew | exact HJY.out _ (below_al HBX.out rfl _) | exact HJY.out _ (below_al HBX.out.drew rfl _)) (first | (go_at_call 14; (with_reducible refine (HP1.out _ (by first | exact HBX.out | exact HBX.out.drew | exact below_drewN HBX.out _) _ (by first | exact .inl rfl | exact .inr rfl)).mono ?_); rintro e w10 ⟨g10, rfl, hr10, hb10⟩; have HBX := Lib.hid hb10; have HRX1 := Lib.hid hr10; clear hb10 hr10) | (go_at_call 14; (with_reducible refine (HP2.out _ (by first | exact HBX.out | exact HBX.out.drew | exact below_drewN HBX.out _)).mono ?_); rintro e w11 ⟨g11, rfl, hr11, hb11, hb11x⟩; have HRX1 := Lib.hid (HRX1.out.below hb11x); have HBX := Lib.hid hb11; have HRX2 := Lib.hid hr11; clear hb11 hr11 hb11x) | (go_at_call 17; (with_reducible refine (same_two _ _ _ _ _ hwl2 (by first | exact HRX1.out | exact HRX1.out.drew | exact HRX1.out.drewN _) (by first | exact HRX2.out | exact HRX2.out.drew | exact HRX2.out.drewN _)).mono ?_); rintro e w12 ⟨rfl, hb12⟩; have HBX := Lib.hid (HBX.out.trans (hb12.mono HBX.out.size)); clear hb12) | (go_at_call 8; (with_reducible refine (works_any _).mono ?_); rintro e w13 ⟨rfl, hb13⟩; have HBX := Lib.hid (HBX.out.trans (hb13.mono HBX.out.size)); clear hb13))
                    go_wp2
                    go_ret
                    exact ⟨rfl, by first | exact HB9.out.trans (HBX.out.mono HB9.out.size) | exact (HB9.out.trans (HBX.out.mono HB9.out.size)).drew⟩
                  | succ gf =>
                    have hiI : (i : Int) < (l.length : Int) := by omega
                    obtain ⟨A6, c6, rfl, hc6⟩ := own_parts hO6
                    obtain ⟨b, oo, x, rfl, _, hx, x1, x2⟩ := msg_at (R2.out.below (HBX.out.trans (hB6.mono HBX.out.size))) (i := i) (by omega)
                    have hs := someL_snoc hx
                    have hsl := Nat.le_trans (someL_len (l.take i)) (by rw [List.length_take]; exact Nat.min_le_left _ _)
                    have hsz6 := hB6.size
                    have HB6 := Lib.hid hB6; have HO6 := Lib.hid hO6; have HS := Lib.hid hs
                    clear hB6 hO6 hx hs
                    by_cases h0 : 0 ≤ x.1
                    · by_cases h5 : x.1 < 512
                      · go_wp2_with (at_builtin; refine wpList_app _ wr rfl (.tmp 181) (.tmp 186) 24 rfl wc.heap.size 29 j0 (.agg #[.int .i64 0, .int .i64 0]) 2 16 Try.underlying24 HJ0.out HY0.out hy1 hy2 rfl (by decide) (by decide) _ (someL (l.take i)).length _ rfl HO6 [.int .i64 x.1, .int .i64 x.2] rfl rfl rfl _ rfl rfl (by omega) hsz6 ?_; intro v7 w7 h2 h3 h4; have HO7 := Lib.hid h2.out; have HB7 := Lib.hid h4.out; clear h2 h3 h4)
                        go_roundg gf
                        case measure => omega
                        case rel =>
                          refine ⟨i + 1, by go_num, by omega, HB6.out.trans HB7.out, ?_⟩
                          rw [HS.out, if_pos ⟨h0, h5⟩, List.length_append, rcs_append, rcs_one]
                          exact HO7.out
                      · go_wp2
                        go_roundg gf
                        case measure => omega
                        case rel =>
                          refine ⟨i + 1, by go_num, by omega, HB6.out, ?_⟩
                          rw [HS.out, if_neg (by omega)]
                          exact HO6.out
                    · go_wp2
                      go_roundg gf
                      case measure => omega
                      case rel =>
                        refine ⟨i + 1, by go_num, by omega, HB6.out, ?_⟩
                        rw [HS.out, if_neg (by omega)]
                        exact HO6.out
          | succ jx =>
            have hjI : (jx : Int) < (l.length : Int) := by omega
            rw [show ((jx + 1 : Nat) : Int) - 1 = (jx : Int) by omega]
            obtain ⟨b, oo, x, rfl, _, hx, x1, x2⟩ := msg_at (H2b.out.below hB5) (i := jx) (by omega)
            have hdx : (l.drop jx).reverse = (l.drop (jx + 1)).reverse ++ [x] := by
              rw [List.drop_eq_getElem_cons (by omega), List.reverse_cons]
              rw [List.getElem?_eq_getElem (by omega)] at hx
              injection hx with hx
              rw [hx]
            have hsz5 := hB5.size
            have HB5 := Lib.hid hB5; have HO5 := Lib.hid hO5; have HX := Lib.hid hx; have HD := Lib.hid hdx
            clear hB5 hO5 hx hdx
            go_wp2_with (at_builtin; refine wpList_app _ wr rfl (.tmp 77) (.tmp 82) 24 rfl w4.heap.size 29 j0 (.agg #[.int .i64 0, .int .i64 0]) 2 16 Try.underlying24 HJ0.out HY0.out hy1 hy2 rfl (by decide) (by decide) _ (l.length - (jx + 1)) _ rfl HO5 [.int .i64 x.1, .int .i64 x.2] rfl rfl rfl _ rfl rfl (by omega) hsz5 ?_; intro v6 w6 h2 h3 h4; have HO6 := Lib.hid h2.out; have HB6 := Lib.hid h4.out; clear h2 h3 h4)
            go_roundg jx
            case measure => omega
            case rel =>
              refine ⟨by go_num, by omega, HB5.out.trans HB6.out, ?_⟩
              have h := HO6.out
              rw [HD.out, rcs_append, rcs_one]
              rwa [show l.length - (jx + 1) + 1 = l.length - jx by omega] at h
      | succ gf =>
        have hiI : (i : Int) < (l.length : Int) := by omega
        obtain ⟨b, oo, x, rfl, _, _, x1, x2⟩ := msg_at H2.out (i := i) (by omega)
        by_cases h60 : x.2 < 0
        · go_wp2_with fail
          refine (works_any _).mono ?_
          rintro e w6 ⟨rfl, hb6⟩
          have HB6 := Lib.hid (HB.out.trans (hb6.mono HB.out.size))
          clear hb6
          go_wp2
          go_ret
          exact ⟨rfl, HB6.out⟩
        · go_wp2
          go_roundg gf
          case measure => omega
          case rel => exact ⟨i + 1, by go_num, by omega, rfl⟩
  · clear h1 h2 hwo hwm
    exact orderBig_any w k s o d e' cut turn n A A2 _ _ c c2 hl
end Go.Proofs.Ytbmjmpojabbegaa
