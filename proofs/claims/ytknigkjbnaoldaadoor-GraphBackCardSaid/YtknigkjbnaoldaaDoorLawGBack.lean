/- GraphBack: what is printed is read as it was; what is read may be, and printed and read again it is the same; turned twice it is what it was. -/
import Derived.Test.YtknigkjbnaoldaaDoorGrBq
namespace Go.Proofs.YtknigkjbnaoldaaDoor
open Go.RowKit

theorem digs_len19 (n : Nat) : (digs 19 n).length ≤ 19 := digs_length 19 n
theorem numD_len (n : Int) : (numD n).length ≤ 19 := by
  unfold numD
  have h : ∀ ds : List Nat, (∀ d ∈ ds, d < 10) → (ds.flatMap (ek 0)).length = ds.length := by
    intro ds
    induction ds with
    | nil => intro _; rfl
    | cons d ds ih =>
      intro h
      rw [List.flatMap_cons, List.length_append, ih fun x hx => h x (List.mem_cons_of_mem _ hx), ek_bytes 0 (.inl rfl) d (h d (by simp)), if_pos rfl, List.length_cons, List.length_cons, List.length_nil]
      omega
  rw [h _ (digs_lt 19 n.toNat)]
  exact digs_len19 _
theorem size_bag (l : List UInt8) : (ba l).size = l.length := by simp [ba, ByteArray.size]
theorem print_len {n : Int} {l : List Edg} (hn : 0 ≤ n) (h : ∀ e ∈ l, 0 ≤ e.1 ∧ 0 ≤ e.2.1 ∧ 0 ≤ e.2.2) : (printG (n, l)).size ≤ 30 + 65 * l.length := by
  unfold printG
  rw [vL_line hn, edgesT_ba _ l h, size_bag, List.length_append]
  have h1 : ∀ m : List Edg, ((m.map eL).flatMap fun g => g ++ [10]).length ≤ 65 * m.length := by
    intro m
    induction m with
    | nil => simp
    | cons e m ih =>
      rw [List.map_cons, List.flatMap_cons, List.length_append, List.length_cons]
      have a1 := numD_len e.1; have a2 := numD_len e.2.1; have a3 := numD_len e.2.2
      have a4 : eW.length = 4 := rfl
      have a5 : (eL e ++ [10]).length = eW.length + 1 + (numD e.1).length + 1 + (numD e.2.1).length + 1 + (numD e.2.2).length + 1 := by unfold eL; simp; omega
      omega
  have h2 := h1 l
  have h3 := numD_len n
  have h4 : vW.length = 8 := rfl
  have h5 : (vL n ++ [10]).length = vW.length + 1 + (numD n).length + 1 := by unfold vL; simp; omega
  omega
theorem fits_pos {e : Edg} {n : Int} (h : fitsE e n = true) : 0 ≤ e.1 ∧ 0 ≤ e.2.1 ∧ 0 ≤ e.2.2 := by
  unfold fitsE at h
  have := of_decide_eq_true h
  omega
theorem edgeP_two {n : Int} {l : List Edg} {both : Bool} {e : Edg} {g : Gr} (h : edgeP n l both e = some g) : g.2.length ≤ l.length + 2 := by
  unfold edgeP at h
  cases h1 : addP n l e with
  | none => rw [h1] at h; cases h
  | some l1 =>
    rw [h1] at h
    dsimp only at h
    obtain ⟨_, rfl⟩ := addP_fitq h1
    split at h
    · cases h2 : addP n (l ++ [e]) (e.2.1, e.1, e.2.2) with
      | none => rw [h2] at h; cases h
      | some l2 =>
        rw [h2] at h
        simp only [Option.map_some, Option.some.injEq] at h
        subst h
        obtain ⟨_, rfl⟩ := addP_fitq h2
        simp
    · simp only [Option.some.injEq] at h
      subst h
      simp
theorem lineP_two {g g' : Gr} {ws : List ByteArray} (h : lineP numW g ws = some g') : g'.2.length ≤ g.2.length + 2 := by
  unfold lineP at h
  split at h
  · split at h
    · split at h
      · simp only [Option.some.injEq] at h; rw [← h]; simp
      · cases h
    · cases h
  · split at h
    all_goals first
      | (split at h
         · exact edgeP_two h
         · cases h)
      | cases h
theorem goL_two : ∀ (ls : List ByteArray) (i : Nat) (g g' : Gr), goL wordsP (lineP numW) i g ls = .inr g' → g'.2.length ≤ g.2.length + 2 * ls.length := by
  intro ls
  induction ls with
  | nil => intro i g g' h; injection h with h; rw [← h]; simp
  | cons s ls ih =>
    intro i g g' h
    unfold goL at h
    rw [List.length_cons]
    cases hw : wordsP s with
    | none => rw [hw] at h; cases h
    | some w =>
      rw [hw] at h
      cases w with
      | nil => have := ih _ _ _ h; omega
      | cons x w =>
        dsimp only at h
        cases hl : lineP numW g (x :: w) with
        | none => rw [hl] at h; cases h
        | some g2 => rw [hl] at h; have := ih _ _ _ h; have := lineP_two hl; omega
theorem lines_count (s : ByteArray) : (linesP s).length ≤ s.size + 1 := by
  have h4 := lin_size s.data.toList []
  rw [linesP_eq, List.length_map]
  have h7 : ∀ l : List (List UInt8), l.length ≤ (l.map fun g => g.length + 1).sum := by
    intro l
    induction l with
    | nil => simp
    | cons a l ih => simp at ih ⊢; omega
  have := h7 (lin s.data.toList [])
  have h6 : s.data.toList.length = s.size := by simp
  simp at h4
  omega
theorem doc_small {s : ByteArray} (hs : s.size ≤ 1500) : (docG s).1.2.length ≤ 3002 := by
  have h2 := (text_rel numW wordsP (linesP s)).2
  have h3 := h2.perm.length_eq
  have h4 : (textL wordsP (lineP numW) (linesP s)).1.2.length ≤ 3002 := by
    unfold textL
    cases hgo : goL wordsP (lineP numW) 0 (0, []) (linesP s) with
    | inl i => simp
    | inr g =>
      dsimp only
      have h5 := goL_two _ _ _ _ hgo
      have h6 := lines_count s
      split
      · simp
      · simp at h5 ⊢; omega
  unfold docG
  omega
/-- a graph in a box, and its edges -/
structure Bx (wr : World) (g : Nat) (n : Int) (A : Option Addr) (c : Nat) (l : List Edg) : Prop where
  blk : Blk wr g 25 #[.int .i64 n, .slice A l.length c]
  rs : Rs edgC 3 wr A l
theorem Bx.step {wr w' : World} {g : Nat} {n : Int} {A : Option Addr} {c : Nat} {l : List Edg} (h : Bx wr g n A c l) (hb : Below wr.heap.size wr w') : Bx w' g n A c l := ⟨h.blk.below hb h.blk.lt, h.rs.below hb⟩
theorem Bx.alloc {wr : World} {g : Nat} {n : Int} {A : Option Addr} {c : Nat} {l : List Edg} (h : Bx wr g n A c l) (o : Obj) : Bx (wr.alloc o) g n A c l := ⟨h.blk.alloc o, h.rs.alloc o⟩
theorem Bx.new {wr : World} {A : Option Addr} {l : List Edg} (n : Int) (c : Nat) (h : Rs edgC 3 wr A l) : Bx (wr.alloc (.cells #[.int .i64 n, .slice A l.length c] 25)) wr.heap.size n A c l := ⟨Blk.new wr _ _, h.alloc _⟩
theorem Bx.cells {wr : World} {g : Nat} {n : Int} {A : Option Addr} {c : Nat} {l : List Edg} (h : Bx wr g n A c l) : wr.cell? ⟨g, 0, none⟩ = some (.int .i64 n) ∧ wr.cell? ⟨g, 1, none⟩ = some (.slice A l.length c) := ⟨h.blk.cell 0, h.blk.cell 1⟩
theorem light_at (n : Int) (A : Option Addr) (k c : Nat) (top : Int) (b : Bool) (w : World) (h : decide ((k : Int) ≤ top) = b) : Calls Tryd.prog 13 #[.agg #[.int .i64 n, .slice A k c], .int .i64 top] w fun r w' => r = .returned (.bool b) ∧ Below w.heap.size w w' := by
  have := light_any n A k c top w
  rwa [h] at this
theorem psame_true (w : World) (n : Int) (A B : Option Addr) (c d : Nat) (xs : List Edg) (ha : Rs edgC 3 w A xs) (hb : Rs edgC 3 w B xs) (hn : xs.length ≤ 1000000000) :
    Calls Tryd.prog 20 #[.agg #[.int .i64 n, .slice A xs.length c], .agg #[.int .i64 n, .slice B xs.length d]] w fun e w' => e = .returned (.bool true) ∧ Below w.heap.size w w' := by
  have := same_any w n n A B c d xs xs ha hb hn
  rwa [decide_eq_true (show n = n ∧ xs = xs from ⟨rfl, rfl⟩)] at this
theorem print_good (w : World) (n : Int) (A : Option Addr) (c : Nat) (l : List Edg) (t : ByteArray) (h : Rs edgC 3 w A l) (hF : Firsts w) (hk : checkL (n, l) = 0) (ht : printG (n, l) = t) :
    Calls Tryd.prog 21 #[.agg #[.int .i64 n, .slice A l.length c]] w fun R w' => R = .returned (.tuple #[.string t, .int .i64 0]) ∧ Below w.heap.size w w' :=
  print_at' w n A c l t 0 h hF (by unfold printE; rw [if_pos hk, ht]) hk
theorem parse_good (w : World) (n : Int) (l : List Edg) (t : ByteArray) (hF : Firsts w) (hk : checkL (n, l) = 0) (ht : printG (n, l) = t) (hs : t.size ≤ 262144) :
    Calls Tryd.prog 10 #[.string t] w fun R w' => ∃ A c, R = .returned (.tuple #[.agg #[.int .i64 n, .slice A l.length c], .int .i64 0, .int .i64 0]) ∧ Rs edgC 3 w' A l ∧ Below w.heap.size w w' :=
  parse_at t n l 0 0 w hs hF (by rw [← ht]; exact doc_print hk)
theorem turn_at (w : World) (n : Int) (A : Option Addr) (c : Nat) (l l' : List Edg) (h : Rs edgC 3 w A l) (hk : checkL (n, l) = 0) (ht : turnG (n, l) = (n, l')) :
    Calls Tryd.prog 23 #[.agg #[.int .i64 n, .slice A l.length c]] w fun R w' => ∃ A' c', R = .returned (.tuple #[.agg #[.int .i64 n, .slice A' l'.length c'], .int .i64 0]) ∧ Rs edgC 3 w' A' l' ∧ Below w.heap.size w w' := by
  refine (turn_any w n A c l h).mono ?_
  rintro R w' ⟨hb, A', c', hR, hr⟩
  rw [ht] at hR hr
  rw [hk] at hR
  exact ⟨A', c', hR, hr, hb⟩
theorem check_good0 (w : World) (n : Int) (A : Option Addr) (c : Nat) (l : List Edg) (h : Rs edgC 3 w A l) (hk : checkL (n, l) = 0) : Calls Tryd.prog 19 #[.agg #[.int .i64 n, .slice A l.length c]] w fun e w' => e = .returned (.int .i64 0) ∧ Below w.heap.size w w' := by
  have := check_any w n A c l h
  rwa [hk] at this
set_option maxRecDepth 100000 in
set_option maxHeartbeats 8000000 in
theorem lawBack_any (w : World) (n : Int) (A : Option Addr) (c : Nat) (l : List Edg) (s : ByteArray) (ha : Rs edgC 3 w A l) (hF : Firsts w) :
    Calls Tryd.prog 7 #[.agg #[.int .i64 n, .slice A l.length c], .string s] w fun e w' => e = .returned (.bool true) ∧ Below w.heap.size w w' := by
  have hz := firsts_lt hF
  have hB := (Below.refl w.heap.size w).alloc (Nat.le_refl _) (.cells #[.int .i64 n, .slice A l.length c] 25)
  have hX := Bx.new n c ha
  by_cases h1 : (l.length : Int) ≤ 300
  · have hs1 := fun W => light_at n A l.length c 300 true W (decide_eq_true h1)
    by_cases h2 : 1500 < s.size
    · have HX := Lib.hid hX; have H1 := Lib.hid hs1; have HF := Lib.hid hF; have HB := Lib.hid hB
      clear hX hs1 ha hF h1 hB
      go_enter Tryd.func7, Tryd.ntmps7
      go_wp2_with fail
      refine (H1.out _).mono ?_
      rintro e x1 ⟨rfl, hb1⟩
      have HB1 := Lib.hid (HB.out.trans (hb1.mono HB.out.size))
      clear hb1
      go_wp2_with fail
      refine (works_any _ (firsts_below HF.out HB1.out hz)).mono ?_
      rintro e x2 ⟨rfl, hb2⟩
      have HB2 := Lib.hid (HB1.out.trans (hb2.mono HB1.out.size))
      clear hb2
      go_wp2
      go_ret
      exact ⟨rfl, HB2.out⟩
    · obtain ⟨n2, k2, er, l2, hdoc, hk2, hl8, hp, _⟩ := reads2 s (by omega)
      have hsm := doc_small (s := s) (by omega)
      have hgood := doc_good (s := s)
      rw [hdoc] at hsm hgood
      dsimp only at hsm hgood
      have hs2 : s.size ≤ 1500 := by omega
      by_cases hk : checkL (n, l) = 0
      · obtain ⟨N, rfl⟩ : ∃ N : Nat, n = (N : Int) := ⟨n.toNat, by have h1 : 1 ≤ n := (check_ok hk).1; omega⟩
        obtain ⟨t1, t2, t3⟩ := turn_good hk
        have t4 : turnG ((N : Int), turnR l N) = ((N : Int), l) := by
          have := (turn_good t2).1
          rw [t3] at this
          exact this
        have hpl := print_len (n := (N : Int)) (l := l) (by omega) fun e he => fits_pos ((check_ok hk).2.2.2.1 e he)
        have hm8 : (turnR l N).length ≤ 8192 := (check_ok t2).2.2.1
        obtain ⟨m, hm⟩ : ∃ m, turnR l N = m := ⟨_, rfl⟩
        rw [hm] at t1 t2 t4 hm8
        obtain ⟨T, hT⟩ : ∃ T, printG ((N : Int), l) = T := ⟨_, rfl⟩
        have hTz : T.size ≤ 262144 := by rw [hT] at hpl; omega
        have HX := Lib.hid hX; have H1 := Lib.hid hs1; have HF := Lib.hid hF; have HB := Lib.hid hB; have HP := Lib.hid hp; have HT := Lib.hid hT; have HK := Lib.hid hk; have HT1 := Lib.hid t1; have HT2 := Lib.hid t2; have HT4 := Lib.hid t4; have HG := Lib.hid hgood; have HN := Lib.hid h1
        clear hX hs1 ha hF h1 hB hp hT hk t1 t2 t3 t4 hm hpl hgood hdoc
        go_enter Tryd.func7, Tryd.ntmps7
        go_wp2_with fail
        refine (H1.out _).mono ?_
        rintro e x1 ⟨rfl, hb1⟩
        have HB1 := Lib.hid (HB.out.trans (hb1.mono HB.out.size)); have HX1 := Lib.hid (HX.out.step hb1)
        clear hb1 HB HX
        obtain ⟨g0, g1⟩ := HX1.out.cells
        go_wp2_with fail
        refine (print_good _ _ _ _ _ T HX1.out.rs (firsts_below HF.out HB1.out hz) HK.out HT.out).mono ?_
        clear g0 g1
        rintro e x2 ⟨rfl, hb2⟩
        have HB2 := Lib.hid (HB1.out.trans (hb2.mono HB1.out.size)); have HX2 := Lib.hid (HX1.out.step hb2)
        clear hb2 HB1 HX1
        go_wp2_with fail
        refine (parse_good _ (N : Int) l T (firsts_below HF.out HB2.out hz) HK.out HT.out hTz).mono ?_
        rintro e x3 ⟨A3, c3, rfl, hr3, hb3⟩
        have HB3 := Lib.hid ((HB2.out.trans (hb3.mono HB2.out.size)).alloc (HB2.out.trans (hb3.mono HB2.out.size)).size (.cells #[.int .i64 (N : Int), .slice A3 l.length c3] 25))
        have HX3 := Lib.hid ((HX2.out.step hb3).alloc (.cells #[.int .i64 (N : Int), .slice A3 l.length c3] 25)); have HY3 := Lib.hid (Bx.new (N : Int) c3 hr3)
        clear hb3 hr3 HB2 HX2
        obtain ⟨g0, g1⟩ := HX3.out.cells
        go_wp2_with fail
        refine (turn_at _ _ _ _ _ m HX3.out.rs HK.out HT1.out).mono ?_
        clear g0 g1
        rintro e x4 ⟨A4, c4, rfl, hr4, hb4⟩
        have HB4 := Lib.hid ((HB3.out.trans (hb4.mono HB3.out.size)).alloc (HB3.out.trans (hb4.mono HB3.out.size)).size (.cells #[.int .i64 (N : Int), .slice A4 m.length c4] 25))
        have HX4 := Lib.hid ((HX3.out.step hb4).alloc (.cells #[.int .i64 (N : Int), .slice A4 m.length c4] 25)); have HY4 := Lib.hid ((HY3.out.step hb4).alloc (.cells #[.int .i64 (N : Int), .slice A4 m.length c4] 25)); have HZ4 := Lib.hid (Bx.new (N : Int) c4 hr4)
        clear hb4 hr4 HB3 HX3 HY3
        obtain ⟨g0, g1⟩ := HZ4.out.cells
        go_wp2_with fail
        refine (turn_at _ _ _ _ _ l HZ4.out.rs HT2.out HT4.out).mono ?_
        clear g0 g1
        rintro e x5 ⟨A5, c5, rfl, hr5, hb5⟩
        have HB5 := Lib.hid ((HB4.out.trans (hb5.mono HB4.out.size)).alloc (HB4.out.trans (hb5.mono HB4.out.size)).size (.cells #[.int .i64 (N : Int), .slice A5 l.length c5] 25))
        have HX5 := Lib.hid ((HX4.out.step hb5).alloc (.cells #[.int .i64 (N : Int), .slice A5 l.length c5] 25)); have HY5 := Lib.hid ((HY4.out.step hb5).alloc (.cells #[.int .i64 (N : Int), .slice A5 l.length c5] 25)); have HZ5 := Lib.hid (Bx.new (N : Int) c5 hr5)
        clear hb5 hr5 HB4 HX4 HY4 HZ4
        obtain ⟨g0, g1⟩ := HX5.out.cells
        obtain ⟨y0, y1⟩ := HY5.out.cells
        go_wp2_with fail
        refine (psame_true _ _ _ _ _ _ l HY5.out.rs HX5.out.rs (by have := HN.out; omega)).mono ?_
        clear g0 g1 y0 y1
        rintro e x6 ⟨rfl, hb6⟩
        have HB6 := Lib.hid (HB5.out.trans (hb6.mono HB5.out.size)); have HX6 := Lib.hid (HX5.out.step hb6); have HZ6 := Lib.hid (HZ5.out.step hb6)
        clear hb6 HB5 HX5 HY5 HZ5
        obtain ⟨g0, g1⟩ := HX6.out.cells
        obtain ⟨y0, y1⟩ := HZ6.out.cells
        go_wp2_with fail
        refine (psame_true _ _ _ _ _ _ l HZ6.out.rs HX6.out.rs (by have := HN.out; omega)).mono ?_
        clear g0 g1 y0 y1
        rintro e x7 ⟨rfl, hb7⟩
        have HBQ := Lib.hid (HB6.out.trans (hb7.mono HB6.out.size))
        clear hb7 HB6 HX6 HZ6
        by_cases her : er = 0
        · subst her
          have hk2 : checkL (n2, l2) = 0 := HG.out rfl
          have hpl := print_len (n := n2) (l := l2) (by have h : 1 ≤ n2 := (check_ok hk2).1; omega) fun e he => fits_pos ((check_ok hk2).2.2.2.1 e he)
          obtain ⟨U, hU⟩ : ∃ U, printG (n2, l2) = U := ⟨_, rfl⟩
          have hUz : U.size ≤ 262144 := by rw [hU] at hpl; omega
          have HK2 := Lib.hid hk2; have HU := Lib.hid hU
          clear hk2 hU hpl
          go_wp2_with fail
          refine (HP.out _ (firsts_below HF.out HBQ.out hz)).mono ?_
          clear HP
          rintro e z1 ⟨B1, d1, rfl, hr1, hc1⟩
          have HC1 := Lib.hid ((HBQ.out.trans (hc1.mono HBQ.out.size)).alloc (HBQ.out.trans (hc1.mono HBQ.out.size)).size (.cells #[.int .i64 n2, .slice B1 l2.length d1] 25))
          have HU1 := Lib.hid (Bx.new n2 d1 hr1)
          clear hr1 hc1 HBQ
          obtain ⟨g0, g1⟩ := HU1.out.cells
          go_wp2_with fail
          refine (print_good _ _ _ _ _ U HU1.out.rs (firsts_below HF.out HC1.out hz) HK2.out HU.out).mono ?_
          clear g0 g1
          rintro e z2 ⟨rfl, hc2⟩
          have HC2 := Lib.hid (HC1.out.trans (hc2.mono HC1.out.size)); have HU2 := Lib.hid (HU1.out.step hc2)
          clear hc2 HC1 HU1
          go_wp2_with fail
          refine (parse_good _ n2 l2 U (firsts_below HF.out HC2.out hz) HK2.out HU.out hUz).mono ?_
          rintro e z3 ⟨B3, d3, rfl, hr3, hc3⟩
          have HC3 := Lib.hid ((HC2.out.trans (hc3.mono HC2.out.size)).alloc (HC2.out.trans (hc3.mono HC2.out.size)).size (.cells #[.int .i64 n2, .slice B3 l2.length d3] 25))
          have HU3 := Lib.hid ((HU2.out.step hc3).alloc (.cells #[.int .i64 n2, .slice B3 l2.length d3] 25)); have HV3 := Lib.hid (Bx.new n2 d3 hr3)
          clear hr3 hc3 HC2 HU2
          obtain ⟨g0, g1⟩ := HU3.out.cells
          go_wp2_with fail
          refine (check_good0 _ _ _ _ _ HU3.out.rs HK2.out).mono ?_
          clear g0 g1
          rintro e z4 ⟨rfl, hc4⟩
          have HC4 := Lib.hid (HC3.out.trans (hc4.mono HC3.out.size)); have HU4 := Lib.hid (HU3.out.step hc4); have HV4 := Lib.hid (HV3.out.step hc4)
          clear hc4 HC3 HU3 HV3
          obtain ⟨g0, g1⟩ := HU4.out.cells
          obtain ⟨y0, y1⟩ := HV4.out.cells
          go_wp2_with fail
          refine (psame_true _ _ _ _ _ _ l2 HU4.out.rs HV4.out.rs (by omega)).mono ?_
          clear g0 g1 y0 y1
          rintro e z5 ⟨rfl, hc5⟩
          have HC5 := Lib.hid (HC4.out.trans (hc5.mono HC4.out.size))
          clear hc5 HC4 HU4 HV4
          go_wp2_with fail
          refine (works_any _ (firsts_below HF.out HC5.out hz)).mono ?_
          rintro e z6 ⟨rfl, hc6⟩
          have HC6 := Lib.hid (HC5.out.trans (hc6.mono HC5.out.size))
          clear hc6
          go_wp2
          go_ret
          exact ⟨rfl, HC6.out⟩
        · have herb : (er != 0) = true := by simp [her]
          clear her
          go_wp2_with fail
          refine (HP.out _ (firsts_below HF.out HBQ.out hz)).mono ?_
          clear HP
          rintro e z1 ⟨B1, d1, rfl, hr1, hc1⟩
          have HC1 := Lib.hid ((HBQ.out.trans (hc1.mono HBQ.out.size)).alloc (HBQ.out.trans (hc1.mono HBQ.out.size)).size (.cells #[.int .i64 n2, .slice B1 l2.length d1] 25))
          clear hr1 hc1 HBQ
          go_wp2_with fail
          refine (works_any _ (firsts_below HF.out HC1.out hz)).mono ?_
          rintro e z2 ⟨rfl, hc2⟩
          have HC2 := Lib.hid (HC1.out.trans (hc2.mono HC1.out.size))
          clear hc2
          go_wp2
          go_ret
          exact ⟨rfl, HC2.out⟩
      · have hkb : (checkL (n, l) == 0) = false := by simp [hk]
        obtain ⟨K, hK⟩ : ∃ K, checkL (n, l) = K := ⟨_, rfl⟩
        have hPP := fun W (hW : Below w.heap.size w W) => pPrint_any W n A c l (ha.below hW) (firsts_below hF hW hz)
        unfold PrintP at hPP
        rw [hK] at hPP hkb
        generalize printE (n, l) = T at hPP
        have HX := Lib.hid hX; have H1 := Lib.hid hs1; have HF := Lib.hid hF; have HB := Lib.hid hB; have HP := Lib.hid hp; have HPP := Lib.hid hPP; have HG := Lib.hid hgood
        clear hX hs1 ha hF h1 hB hp hPP hK hk hgood hdoc
        go_enter Tryd.func7, Tryd.ntmps7
        go_wp2_with fail
        refine (H1.out _).mono ?_
        rintro e x1 ⟨rfl, hb1⟩
        have HB1 := Lib.hid (HB.out.trans (hb1.mono HB.out.size)); have HX1 := Lib.hid (HX.out.step hb1)
        clear hb1 HB HX
        obtain ⟨g0, g1⟩ := HX1.out.cells
        go_wp2_with fail
        refine (HPP.out _ HB1.out).mono ?_
        clear g0 g1
        rintro e x2 ⟨rfl, hb2⟩
        have HBQ := Lib.hid (HB1.out.trans (hb2.mono HB1.out.size))
        clear hb2 HB1 HX1
        by_cases her : er = 0
        · subst her
          have hk2 : checkL (n2, l2) = 0 := HG.out rfl
          have hpl := print_len (n := n2) (l := l2) (by have h : 1 ≤ n2 := (check_ok hk2).1; omega) fun e he => fits_pos ((check_ok hk2).2.2.2.1 e he)
          obtain ⟨U, hU⟩ : ∃ U, printG (n2, l2) = U := ⟨_, rfl⟩
          have hUz : U.size ≤ 262144 := by rw [hU] at hpl; omega
          have HK2 := Lib.hid hk2; have HU := Lib.hid hU
          clear hk2 hU hpl
          go_wp2_with fail
          refine (HP.out _ (firsts_below HF.out HBQ.out hz)).mono ?_
          clear HP
          rintro e z1 ⟨B1, d1, rfl, hr1, hc1⟩
          have HC1 := Lib.hid ((HBQ.out.trans (hc1.mono HBQ.out.size)).alloc (HBQ.out.trans (hc1.mono HBQ.out.size)).size (.cells #[.int .i64 n2, .slice B1 l2.length d1] 25))
          have HU1 := Lib.hid (Bx.new n2 d1 hr1)
          clear hr1 hc1 HBQ
          obtain ⟨g0, g1⟩ := HU1.out.cells
          go_wp2_with fail
          refine (print_good _ _ _ _ _ U HU1.out.rs (firsts_below HF.out HC1.out hz) HK2.out HU.out).mono ?_
          clear g0 g1
          rintro e z2 ⟨rfl, hc2⟩
          have HC2 := Lib.hid (HC1.out.trans (hc2.mono HC1.out.size)); have HU2 := Lib.hid (HU1.out.step hc2)
          clear hc2 HC1 HU1
          go_wp2_with fail
          refine (parse_good _ n2 l2 U (firsts_below HF.out HC2.out hz) HK2.out HU.out hUz).mono ?_
          rintro e z3 ⟨B3, d3, rfl, hr3, hc3⟩
          have HC3 := Lib.hid ((HC2.out.trans (hc3.mono HC2.out.size)).alloc (HC2.out.trans (hc3.mono HC2.out.size)).size (.cells #[.int .i64 n2, .slice B3 l2.length d3] 25))
          have HU3 := Lib.hid ((HU2.out.step hc3).alloc (.cells #[.int .i64 n2, .slice B3 l2.length d3] 25)); have HV3 := Lib.hid (Bx.new n2 d3 hr3)
          clear hr3 hc3 HC2 HU2
          obtain ⟨g0, g1⟩ := HU3.out.cells
          go_wp2_with fail
          refine (check_good0 _ _ _ _ _ HU3.out.rs HK2.out).mono ?_
          clear g0 g1
          rintro e z4 ⟨rfl, hc4⟩
          have HC4 := Lib.hid (HC3.out.trans (hc4.mono HC3.out.size)); have HU4 := Lib.hid (HU3.out.step hc4); have HV4 := Lib.hid (HV3.out.step hc4)
          clear hc4 HC3 HU3 HV3
          obtain ⟨g0, g1⟩ := HU4.out.cells
          obtain ⟨y0, y1⟩ := HV4.out.cells
          go_wp2_with fail
          refine (psame_true _ _ _ _ _ _ l2 HU4.out.rs HV4.out.rs (by omega)).mono ?_
          clear g0 g1 y0 y1
          rintro e z5 ⟨rfl, hc5⟩
          have HC5 := Lib.hid (HC4.out.trans (hc5.mono HC4.out.size))
          clear hc5 HC4 HU4 HV4
          go_wp2_with fail
          refine (works_any _ (firsts_below HF.out HC5.out hz)).mono ?_
          rintro e z6 ⟨rfl, hc6⟩
          have HC6 := Lib.hid (HC5.out.trans (hc6.mono HC5.out.size))
          clear hc6
          go_wp2
          go_ret
          exact ⟨rfl, HC6.out⟩
        · have herb : (er != 0) = true := by simp [her]
          clear her
          go_wp2_with fail
          refine (HP.out _ (firsts_below HF.out HBQ.out hz)).mono ?_
          clear HP
          rintro e z1 ⟨B1, d1, rfl, hr1, hc1⟩
          have HC1 := Lib.hid ((HBQ.out.trans (hc1.mono HBQ.out.size)).alloc (HBQ.out.trans (hc1.mono HBQ.out.size)).size (.cells #[.int .i64 n2, .slice B1 l2.length d1] 25))
          clear hr1 hc1 HBQ
          go_wp2_with fail
          refine (works_any _ (firsts_below HF.out HC1.out hz)).mono ?_
          rintro e z2 ⟨rfl, hc2⟩
          have HC2 := Lib.hid (HC1.out.trans (hc2.mono HC1.out.size))
          clear hc2
          go_wp2
          go_ret
          exact ⟨rfl, HC2.out⟩
  · have hs1 := fun W => light_at n A l.length c 300 false W (decide_eq_false h1)
    have H1 := Lib.hid hs1; have HF := Lib.hid hF; have HB := Lib.hid hB
    clear hX hs1 ha hF h1 hB
    go_enter Tryd.func7, Tryd.ntmps7
    go_wp2_with fail
    refine (H1.out _).mono ?_
    rintro e x1 ⟨rfl, hb1⟩
    have HB1 := Lib.hid (HB.out.trans (hb1.mono HB.out.size))
    clear hb1
    go_wp2_with fail
    refine (works_any _ (firsts_below HF.out HB1.out hz)).mono ?_
    rintro e x2 ⟨rfl, hb2⟩
    have HB2 := Lib.hid (HB1.out.trans (hb2.mono HB1.out.size))
    clear hb2
    go_wp2
    go_ret
    exact ⟨rfl, HB2.out⟩
end Go.Proofs.YtknigkjbnaoldaaDoor
