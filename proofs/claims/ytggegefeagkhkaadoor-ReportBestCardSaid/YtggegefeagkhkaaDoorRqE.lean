/- The reference's Best: the best of those that are left, again and again. -/
import Derived.Test.YtggegefeagkhkaaDoorRqD
import Derived.Test.YtggegefeagkhkaaDoorRpW
namespace Go.Proofs.YtggegefeagkhkaaDoor
open Go.RowKit

/-- which are taken, its cells -/
def tkC (N : Nat) (T : List Nat) : Array Value := ((List.range N).map fun v : Nat => Value.bool (decide (v ∈ T))).toArray
theorem tkC_at {N v : Nat} {T : List Nat} (h : v < N) : (tkC N T)[v]? = some (.bool (decide (v ∈ T))) := by unfold tkC; simp [h]
theorem tkC_nil (N : Nat) : (List.replicate N (Value.bool false)).toArray = tkC N [] := by
  unfold tkC
  congr 1
  have h : (List.range N).map (fun _ : Nat => Value.bool false) = List.replicate N (Value.bool false) := by rw [List.map_const']; simp
  simpa using h.symm
theorem tkC_set {N b : Nat} (T : List Nat) (h : b < N) : (tkC N T).setIfInBounds b (.bool true) = tkC N (T ++ [b]) := by
  unfold tkC
  rw [List.setIfInBounds_toArray]
  congr 1
  apply List.ext_getElem?
  intro i
  rw [List.getElem?_set]
  by_cases hi : b = i
  · subst hi; simp [h]
  · rw [if_neg hi]
    by_cases hiN : i < N
    · simp [hiN, Ne.symm hi]
    · simp [Nat.le_of_not_lt hiN]
theorem infoB : (Tryd.prog.info? 4).map (fun i => (i.zero, i.size, i.bytes)) = some (some (.bool false), 1, 1) := by kernel_rfl
/-- the best of those before v that are not taken -/
def Pk (vs : List Int) (T : List Nat) (v : Nat) (x : Int) : Prop :=
  (x = -1 ∧ ∀ u < v, u ∈ T) ∨ (∃ b : Nat, x = (b : Int) ∧ b < v ∧ b ∉ T ∧ ∀ u < v, u ∉ T → u = b ∨ lt vs b u)
theorem Pk.skip {vs : List Int} {T : List Nat} {v : Nat} {x : Int} (h : Pk vs T v x) (hv : v ∈ T) : Pk vs T (v + 1) x := by
  rcases h with ⟨a, b⟩ | ⟨b, a, c, d, e⟩
  · refine .inl ⟨a, fun u hu => ?_⟩
    rcases Nat.lt_or_ge u v with h | h
    · exact b u h
    · rw [show u = v by omega]; exact hv
  · refine .inr ⟨b, a, by omega, d, fun u hu hn => ?_⟩
    rcases Nat.lt_or_ge u v with h | h
    · exact e u h hn
    · rw [show u = v by omega] at hn; exact absurd hv hn
theorem pk_first {vs : List Int} {T : List Nat} {v : Nat} (h : ∀ u < v, u ∈ T) (hv : v ∉ T) : Pk vs T (v + 1) (v : Int) :=
  .inr ⟨v, rfl, by omega, hv, fun u hu hn => by
    rcases Nat.lt_or_ge u v with h1 | h1
    · exact absurd (h u h1) hn
    · exact .inl (by omega)⟩
theorem pk_new {vs : List Int} {T : List Nat} {v b : Nat} (hb : b < v) (h : ∀ u < v, u ∉ T → u = b ∨ lt vs b u) (hv : v ∉ T) (hl : vs.getD b 0 < vs.getD v 0) : Pk vs T (v + 1) (v : Int) :=
  .inr ⟨v, rfl, by omega, hv, fun u hu hn => by
    rcases Nat.lt_or_ge u v with h1 | h1
    · have h2 : lt vs v b := .inl hl
      rcases h u h1 hn with rfl | h3
      · exact .inr h2
      · exact .inr (lt_trans h2 h3)
    · exact .inl (by omega)⟩
theorem pk_old {vs : List Int} {T : List Nat} {v b : Nat} (hb : b < v) (hn : b ∉ T) (h : ∀ u < v, u ∉ T → u = b ∨ lt vs b u) (hl : ¬ vs.getD b 0 < vs.getD v 0) : Pk vs T (v + 1) (b : Int) :=
  .inr ⟨b, rfl, by omega, hn, fun u hu hn => by
    rcases Nat.lt_or_ge u v with h1 | h1
    · exact h u h1 hn
    · refine .inr ?_
      rw [show u = v by omega]
      unfold lt
      omega⟩
theorem best_len {vs : List Int} {s : List Nat} (h : IsBest vs s) : s.length = vs.length := by rw [h.1.length_eq, List.length_range]
theorem best_out {vs : List Int} {s : List Nat} (h : IsBest vs s) {i x : Nat} (hx : s[i]? = some x) : x ∉ s.take i := fun hm => by
  obtain ⟨j, hj, hxj⟩ := mem_take_at hm
  have := sorted_at h.2 hj hxj hx
  exact lt_asymm this this
theorem best_in {vs : List Int} {s : List Nat} (h : IsBest vs s) {i x : Nat} (hx : s[i]? = some x) : x < vs.length := List.mem_range.1 (h.1.mem_iff.1 (List.mem_of_getElem? hx))
theorem pk_done {vs : List Int} {s : List Nat} (h : IsBest vs s) {i : Nat} (hi : i < vs.length) {x : Int} (hp : Pk vs (s.take i) vs.length x) : ∃ b : Nat, x = (b : Int) ∧ b < vs.length ∧ s[i]? = some b := by
  obtain ⟨y, hy⟩ : ∃ y, s[i]? = some y := ⟨_, List.getElem?_eq_getElem (by rw [best_len h]; exact hi)⟩
  have hyo := best_out h hy
  have hyN := best_in h hy
  rcases hp with ⟨-, hall⟩ | ⟨b, rfl, hb, hn, hall⟩
  · exact absurd (hall y hyN) hyo
  · refine ⟨b, rfl, hb, ?_⟩
    have hbs : b ∈ s := h.1.mem_iff.2 (List.mem_range.2 hb)
    rw [← List.take_append_drop i s] at hbs
    rcases List.mem_append.1 hbs with h1 | h1
    · exact absurd h1 hn
    · obtain ⟨j, hj, hbj⟩ := mem_drop_at h1
      rcases hall y hyN hyo with e | e
      · rw [← e]; exact hy
      · rcases sorted_le h.2 hj hy hbj with e2 | e2
        · rw [← e2]; exact hy
        · exact (lt_asymm e e2).elim
/-- the reference's memory -/
structure RB (w wr : World) (N i : Nat) (T : List Nat) (v : Value) : Prop where
  below : Below w.heap.size w wr
  tk : Blk wr w.heap.size 4 (tkC N T)
  own : wr.ownsRow (w.heap.size + 1) 3 1 v i (T.map fun n : Nat => Value.int .i64 (n : Int))
theorem RB.drewN {w wr : World} {N i : Nat} {T : List Nat} {v : Value} (h : RB w wr N i T v) (n : Nat) : RB w (wr.drewN n) N i T v := ⟨⟨h.below.os, h.below.tape, h.below.output, h.below.size, h.below.block⟩, h.tk.drewN n, h.own⟩
theorem RB.app {w wr w' : World} {N i : Nat} {T : List Nat} {v v' : Value} {b : Nat} (h : RB w wr N i T v) (hb : b < N)
    (ho : w'.ownsRow (w.heap.size + 1) 3 1 v' (i + 1) ((T.map fun n : Nat => Value.int .i64 (n : Int)) ++ [.int .i64 (b : Int)]))
    (hl : Below (w.heap.size + 1) (wr.setCell ⟨w.heap.size, b, none⟩ (.bool true)) w') : RB w w' N (i + 1) (T ++ [b]) v' := by
  have h1 := (h.tk.set_ b (.bool true))
  rw [tkC_set T hb] at h1
  refine ⟨(h.below.setCell (p := ⟨w.heap.size, b, none⟩) (Nat.le_refl _) _).trans (hl.mono (by omega)), ?_, by rw [List.map_append]; exact ho⟩
  exact h1.below hl (by omega)
/-- what the reference hands back -/
def RBestP (w : World) (K : Nat) (s : List Nat) (e : Ending) (w' : World) : Prop :=
  Below w.heap.size w w' ∧ ∃ (A' : Option Addr) (c' : Nat), e = .returned (.slice A' K c') ∧ Rd w' 1 A' K ((s.take K).map fun i : Nat => Value.int .i64 (i : Int))
set_option maxRecDepth 100000 in
set_option maxHeartbeats 8000000 in
theorem rbest_any (w : World) (vs : List Int) (A : Option Addr) (c : Nat) (n : Int) (s : List Nat) (hs : IsBest vs s) (hr : Rd w 1 A vs.length (vs.map (Value.int .i64))) (hl : vs.length ≤ 1000000) :
    Calls Tryd.prog 15 #[.slice A vs.length c, .int .i64 n] w (RBestP w (takeN n vs.length) s) := by
  obtain ⟨i0, hi0, hz0, hz1, hz2⟩ := info_parts infoI
  obtain ⟨j0, hj0, jz0, jz1, jz2⟩ := info_parts infoB
  have HI0 := Lib.hid hi0; have HZ0 := Lib.hid hz0
  have hmk : ∀ W : World, (Instr.makeSlice 25 (.int .i64 (vs.length : Int)) (.int .i64 (vs.length : Int))).run Tryd.prog W = .ok (.slice (some ⟨W.heap.size, 0, none⟩) vs.length vs.length) (W.alloc (.cells (tkC vs.length []) 4)) := fun W => by
    have := run_make_one (P := Tryd.prog) 25 4 j0 (.bool false) Tryd.underlying25 hj0 jz0 rfl jz1 vs.length (by rw [jz2]; omega) (by omega) W
    rw [tkC_nil] at this
    exact this
  have hval : ∀ (W : World) (k : Nat), Below w.heap.size w W → k < vs.length → ∃ ad, A = some ad ∧ W.cell? (ad.add k) = some (.int .i64 (vs.getD k 0)) := fun W k hW hk => by
    obtain ⟨ad, u, hA, hu, hc⟩ := (hr.below hW).at_ (k := k) hk
    rw [List.getElem?_map, List.getElem?_eq_getElem hk] at hu
    injection hu with hu
    rw [List.getD_eq_getElem?_getD, List.getElem?_eq_getElem hk]
    subst hu
    exact ⟨ad, hA, hc⟩
  have hst0 : RB w (w.alloc (.cells (tkC vs.length []) 4)) vs.length 0 [] (.slice none 0 0) := ⟨(Below.refl _ _).alloc (Nat.le_refl _) _, Blk.new w _ _, ⟨by simp, .inl ⟨rfl, rfl⟩⟩⟩
  have hpd := fun (i : Nat) (hi : i < vs.length) (x : Int) (hp : Pk vs (s.take i) vs.length x) => pk_done hs hi hp
  have hsl := best_len hs
  obtain ⟨N, hN⟩ : ∃ N, vs.length = N := ⟨_, rfl⟩
  obtain ⟨K, hK⟩ : ∃ K, takeN n N = K := ⟨_, rfl⟩
  have hKN : K ≤ N := by rw [← hK]; exact takeN_le _ _
  have hKn : (K : Int) < n → K = N := fun h => by rw [← hK] at h ⊢; unfold takeN at h ⊢; omega
  have hKi : ∀ i : Nat, i < K → (i : Int) < n := fun i h => by rw [← hK] at h; unfold takeN at h; omega
  rw [hN] at hmk hval hst0 hpd hsl hl ⊢
  rw [hK]
  have HVAL := Lib.hid hval; have HST0 := Lib.hid hst0; have HPD := Lib.hid hpd; have HSL := Lib.hid hsl; have HKN := Lib.hid hKn; have HKI := Lib.hid hKi
  clear hval hst0 hpd hs hr hN hK hsl hKn hKi hi0 hj0 jz0 jz1 jz2
  go_enter Tryd.func15, Tryd.ntmps15
  go_wp2
  go_loopg [5, 7] K (fun gf v5 v7 wr => ∃ (i : Nat) (val : Value), val = v5 ∧ v7 = .int .i64 i ∧ i + gf = K ∧ RB w wr N i (s.take i) val)
  case atStart => exact ⟨0, _, rfl, rfl, by omega, HST0.out⟩
  case round =>
    clear HST0
    obtain ⟨i, val, rfl, rfl, hi, hst⟩ := hrel
    cases gk with
    | zero =>
      obtain rfl : i = K := by omega
      have HR := Lib.hid hst
      obtain ⟨A', c', rfl⟩ := own_shape hst.own
      have HF := Lib.hid (show RBestP w i s (.returned (.slice A' i c')) wr from ⟨hst.below, A', c', rfl, Rd.of_own hst.own⟩)
      clear hst
      by_cases hin : (i : Int) < n
      · obtain rfl := HKN.out hin
        have hb1 : decide ((i : Int) < n) = true := decide_eq_true hin
        go_wp2
        go_ret
        exact HF.out
      · have hb1 : decide ((i : Int) < n) = false := decide_eq_false hin
        go_wp2
        go_ret
        exact HF.out
    | succ gf =>
      have hin : (i : Int) < n := HKI.out i (by omega)
      have hb1 : decide ((i : Int) < n) = true := decide_eq_true hin
      have hiN : i < N := by omega
      have hiI : (i : Int) < (N : Int) := by omega
      have HST := Lib.hid hst
      obtain ⟨wo, rfl⟩ : ∃ wo : World, wo = wr := ⟨_, rfl⟩
      clear hst
      go_wp2
      go_loopg [8, 9] N (fun gf v8 v9 wr => ∃ (v : Nat) (x : Int), v8 = .int .i64 x ∧ v9 = .int .i64 v ∧ v + gf = N ∧ Pk vs (s.take i) v x ∧ RB w wr N i (s.take i) val)
      case atStart => exact ⟨0, -1, rfl, rfl, by omega, .inl ⟨rfl, fun u hu => by omega⟩, HST.out⟩
      case round =>
        clear HST
        obtain ⟨v, x, rfl, rfl, hv, hpk, hst⟩ := hrel
        cases gk with
        | zero =>
          obtain rfl : v = N := by omega
          obtain ⟨b, rfl, hbN, hsb⟩ := HPD.out i hiN x hpk
          have hbI : (b : Int) < (v : Int) := by omega
          have hfz := hst.tk.frozen b
          have hgs := hst.below.size
          have htl := hst.tk.lt
          have hct : wr.cell? ⟨w.heap.size, b, none⟩ = some (.bool (decide (b ∈ s.take i))) := by rw [hst.tk.cell]; exact tkC_at hbN
          have hown : (wr.setCell ⟨w.heap.size, b, none⟩ (.bool true)).ownsRow (w.heap.size + 1) 3 1 val i ((s.take i).map fun n : Nat => Value.int .i64 (n : Int)) := ownsRow_setCell_below hst.own (a := ⟨w.heap.size, b, none⟩) (by simp) _
          have hts : s.take i ++ [b] = s.take (i + 1) := by rw [List.take_add_one, hsb]; rfl
          have HRB := Lib.hid hst; have HTS := Lib.hid hts; have HOWN := Lib.hid hown
          clear hst hpk hown hts hsb
          go_wp2_with (at_builtin; refine wpList_app _ (wr.setCell ⟨w.heap.size, b, none⟩ (.bool true)) rfl (.tmp 54) (.tmp 56) 39 rfl (w.heap.size + 1) 3 i0 (.int .i64 0) 1 8 Tryd.underlying39 HI0.out HZ0.out hz1 hz2 rfl (by decide) (by decide) _ i _ rfl (Lib.hid HOWN.out) [.int .i64 (b : Int)] rfl rfl rfl _ (by simp) rfl (by omega) (by simp; omega) ?_; intro v3 w9 h2 h3 h4; have HA := Lib.hid (HRB.out.app hbN h2.out h4.out); clear h2 h3 h4)
          go_wp2
          go_roundg gf
          case measure => omega
          case rel => exact ⟨i + 1, _, rfl, by go_num, by omega, by rw [← HTS.out]; exact HA.out⟩
        | succ gg =>
          have hvN : v < N := by omega
          have hvI : (v : Int) < (N : Int) := by omega
          have hct : wr.cell? ⟨w.heap.size, v, none⟩ = some (.bool (decide (v ∈ s.take i))) := by rw [hst.tk.cell]; exact tkC_at hvN
          obtain ⟨ad, rfl, hcv⟩ := HVAL.out wr v hst.below hvN
          by_cases hvt : v ∈ s.take i
          · rw [decide_eq_true hvt] at hct
            have HP := Lib.hid (hpk.skip hvt); have HRB := Lib.hid hst
            clear hpk hst hvt hcv
            go_wp2_with fail
            go_quiet (fail)
            go_wp2
            go_roundg gg
            case measure => omega
            case rel => exact ⟨v + 1, x, rfl, by go_num, by omega, HP.out, HRB.out.drewN _⟩
          · rw [decide_eq_false hvt] at hct
            rcases hpk with ⟨rfl, hall⟩ | ⟨b, rfl, hb, hbn, hall⟩
            · have HP := Lib.hid (pk_first (vs := vs) hall hvt); have HRB := Lib.hid hst
              clear hst hvt hall hcv
              go_wp2_with fail
              go_quiet (fail)
              go_wp2
              go_roundg gg
              case measure => omega
              case rel => exact ⟨v + 1, v, rfl, by go_num, by omega, HP.out, HRB.out.drewN _⟩
            · obtain ⟨ad2, he, hcb⟩ := HVAL.out wr b hst.below (by omega)
              injection he with he
              subst he
              have hbI : (b : Int) < (N : Int) := by omega
              have hb0 : decide ((b : Int) < 0) = false := by simp
              obtain ⟨xv, hxv⟩ : ∃ xv, vs.getD v 0 = xv := ⟨_, rfl⟩
              obtain ⟨xb, hxb⟩ : ∃ xb, vs.getD b 0 = xb := ⟨_, rfl⟩
              rw [hxv] at hcv
              rw [hxb] at hcb
              by_cases hlt : xb < xv
              · have hd : decide (xb < xv) = true := decide_eq_true hlt
                have HP := Lib.hid (pk_new (vs := vs) hb hall hvt (by rw [hxv, hxb]; exact hlt)); have HRB := Lib.hid hst
                clear hst hvt hall hxv hxb
                go_wp2_with fail
                go_quiet (fail)
                go_wp2
                go_roundg gg
                case measure => omega
                case rel => exact ⟨v + 1, v, rfl, by go_num, by omega, HP.out, HRB.out.drewN _⟩
              · have hd : decide (xb < xv) = false := decide_eq_false hlt
                have HP := Lib.hid (pk_old (vs := vs) hb hbn hall (by rw [hxv, hxb]; exact hlt)); have HRB := Lib.hid hst
                clear hst hvt hall hxv hxb hbn
                go_wp2_with fail
                go_quiet (fail)
                go_wp2
                go_roundg gg
                case measure => omega
                case rel => exact ⟨v + 1, b, rfl, by go_num, by omega, HP.out, HRB.out.drewN _⟩
end Go.Proofs.YtggegefeagkhkaaDoor
