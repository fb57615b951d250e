/- The disk's On. -/
import Derived.Test.YtmgnpcoihehelaaDiskV
import Derived.Deep.DeepCutAuto
namespace Go.Proofs.Ytmgnpcoihehelaa
open Go.RowKit

attribute [local go_sem ↓] Go.wp_at_zero Go.wp_at_succ
set_option maxRecDepth 100000 in
set_option maxHeartbeats 8000000 in
theorem on_off (w : World) (base p : Nat) (v : Value) (D : DiskD) (h : DiskIs w base p v D) (A : Option Addr) (c : Nat) (keep : List Int) (hk : Rd w 1 A keep.length (keep.map (Value.int .i64))) (hkp : ∀ ad, A = some ad → ad.block ≠ p)
    (hl : D.files.length ≤ 100000000) (hkl : keep.length ≤ 100000000) (hb : ∀ f ∈ D.files, f.b.size ≤ 1000000000) (hso : ∀ f ∈ D.files, SafeOk f) (hbase : base ≤ w.heap.size) (hoff : D.off = true) :
    Calls Try.prog 13 #[.pointer (some ⟨p, 0, none⟩), .slice A keep.length c] w fun e w' => e = .returned (.tuple #[]) ∧ Leaves w w' base p v (D.on keep) := by
  obtain ⟨rows, hr, hR⟩ := h.row
  have hlen : rows.length = D.files.length := by rw [← hr, List.length_map]
  have hrl : rows.length ≤ 100000000 := by omega
  obtain ⟨Ar, cr, rfl⟩ := own_shape hR.1
  have hb0 := h.blk
  rw [hoff] at hb0
  have c0 := hb0.cell 0; have c3 := hb0.cell 3; have c4 := hb0.cell 4
  simp only [List.getElem?_toArray, List.getElem?_cons_zero, List.getElem?_cons_succ] at c0 c3 c4
  have hpl0 := h.blk.lt
  have f0 := hb0.frozen 0; have f3 := hb0.frozen 3; have f4 := hb0.frozen 4
  -- the world at the loop's head
  obtain ⟨w3, hw3⟩ : ∃ w3, w3 = ((w.setCell ⟨p, 3, none⟩ (.int .i64 (-1))).setCell ⟨p, 4, none⟩ (.bool false)).setCell ⟨p, 0, none⟩ (.slice none 0 0) := ⟨_, rfl⟩
  have hb3 : Blk w3 p 56 #[.slice none 0 0, .int .i64 D.quota, .int .i64 D.steps, .int .i64 (-1), .bool false] := by rw [hw3]; exact ((hb0.set_ 3 _).set_ 4 _).set_ 0 _
  have hm3 : Moved w w3 p none := by
    rw [hw3]
    exact ((Moved.set_ w p 3 none _).trans (Moved.set_ _ p 4 none _) (.inl rfl)).trans (Moved.set_ _ p 0 none _) (.inl rfl)
  have hrel0 : OnRel w p D keep 0 w3 := ⟨hm3, .slice none 0 0, [], hb3, rfl, ⟨World.ownsRow_nil _ _ _ _, by simp⟩, Nat.le_refl _⟩
  have hown := h.own
  have HOW := Lib.hid hown; have HR := Lib.hid hR; have HRR := Lib.hid hr; have HLEN := Lib.hid hlen; have HW3 := Lib.hid hw3; have HREL := Lib.hid hrel0; have HK := Lib.hid hk; have HKP := Lib.hid hkp; have HSO := Lib.hid hso; have HBS := Lib.hid hb; have HOFF := Lib.hid hoff; have H := Lib.hid h
  clear hown hR hr hlen hw3 hrel0 hb3 hm3 hb0 h hk hkp hso hb hoff
  go_enter Try.func13, Try.ntmps13
  go_wp2
  rw [← HW3.out]
  go_loopg [31] rows.length (fun gf vi wr => ∃ i : Nat, vi = .int .i64 i ∧ i + gf = rows.length ∧ OnRel w p D keep i wr)
  case atStart => exact ⟨0, rfl, by omega, HREL.out⟩
  case round =>
    obtain ⟨i, rfl, hi, hO⟩ := hrel
    cases gk with
    | zero =>
      obtain rfl : i = rows.length := by omega
      have HO := Lib.hid hO
      clear hO
      go_wp2
      refine bodyPost_end (results_none rfl _ _ _) rfl ?_
      obtain ⟨hm, v1, rows1, hb1, hr1, hR1, hrl1⟩ := HO.out
      have hfull : D.files.take rows.length = D.files := List.take_of_length_le (by rw [HLEN.out]; exact Nat.le_refl _)
      rw [hfull] at hr1
      have hon : D.on keep = { D with left := -1, off := false, files := onGo D.files keep } := by unfold DiskD.on; rw [if_pos HOFF.out]
      rw [hon]
      refine ⟨rfl, v1, ⟨H.out.1, hb1, rows1, hr1, ⟨own_mono hR1.1 hbase, hR1.2⟩⟩, ⟨hm.os, hm.tape, hm.output, hm.size, fun k hk hkp _ => hm.block k hk hkp (by simp)⟩, fun k hk => .inr (hR1.1.lt k hk).1⟩
    | succ gf =>
      obtain ⟨hm, v1, rows1, hb1, hr1, hR1, hrl1⟩ := hO
      have hRr : RowD wr base (.slice Ar rows.length cr) rows := HR.out.keep (fun g' hg' => hm.block g' (HOW.out g' hg').2.1 (HOW.out g' hg').2.2 (by simp)) (fun blk cs fz hh => hm.block blk (Array.getElem?_eq_some_iff.1 hh).1 (fun e => by subst e; exact H.out.noU _ _ hh) (by simp))
      obtain ⟨g, cap, x, A', c', hv, hx, hx2, hg, e1, e2, e3⟩ := hRr.at_ (i := i) (by omega) (Below.refl _ _)
      simp only [Value.slice.injEq] at hv
      obtain ⟨rfl, -, rfl⟩ := hv
      obtain ⟨f, xv⟩ := x
      dsimp only at hx2 e1 e2 e3
      subst hx2
      have hbx := hRr.2 _ (List.mem_of_getElem? hx)
      dsimp only at hbx
      have hfi : D.files[i]? = some f := by rw [← HRR.out, List.getElem?_map, hx]; rfl
      have hfm := List.mem_of_getElem? hfi
      have hso := HSO.out f hfm
      have hbs := HBS.out f hfm
      obtain ⟨hso1, hso2⟩ := id hso
      have hiI : (i : Int) < (rows.length : Int) := by omega
      have hir : i < rows.length := by omega
      have hcc : f.b.size ≤ c' := by obtain ⟨_, _, he, hc, _⟩ := hbx; simp only [Value.slice.injEq] at he; omega
      obtain ⟨N, hN⟩ : ∃ N, keptN f keep[i]? = N := ⟨_, rfl⟩
      have hNle : N ≤ f.b.size := by rw [← hN]; exact keptN_le f hso _
      obtain ⟨s0, hs0⟩ : ∃ s0, f.safe.toNat = s0 := ⟨_, rfl⟩
      have hs0a : (s0 : Int) = max 0 f.safe := by omega
      have hs0b : s0 ≤ f.b.size := by omega
      have HN0 := Lib.hid hN
      unfold keptN at hN
      rw [hs0] at hN
      have HS0 := Lib.hid hs0a
      clear hs0 hs0a
      have HN := Lib.hid hN; have HX := Lib.hid hx; have HFI := Lib.hid hfi; have HBX := Lib.hid hbx; have HM := Lib.hid hm; have HB1 := Lib.hid hb1; have HR1 := Lib.hid hr1; have HRD1 := Lib.hid hR1
      clear hN hx hfi hbx hfm hso hm hb1 hr1 hR1 hRr
      go_upto_region 9 with (fail)
      go_cut [7] (fun s7 wx => s7 = .int .i64 (s0 : Nat) ∧ wx = wr.alloc (.cells #[.string f.name, .slice A' f.b.size c', .int .i64 f.safe] 61))
      case first =>
        go_wp2
        go_meet
        exact ⟨by rw [HS0.out], rfl⟩
      case rest =>
        obtain ⟨rfl, rfl⟩ := hcut
        go_upto_if 42 with (fail)
        go_cut [7] (fun s7 wx => s7 = .int .i64 (N : Nat) ∧ wx = wr.alloc (.cells #[.string f.name, .slice A' f.b.size c', .int .i64 f.safe] 61))
        case first =>
          by_cases hik : i < keep.length
          · have hikI : (i : Int) < (keep.length : Int) := by omega
            obtain ⟨ad, u, hA, hku, hkc⟩ := HK.out.at_ hik
            subst hA
            rw [List.getElem?_map, List.getElem?_eq_getElem hik, Option.map_some] at hku
            injection hku with hku
            subst hku
            obtain ⟨kv, hkv⟩ : ∃ kv, keep[i] = kv := ⟨_, rfl⟩
            have hadp : ad.block ≠ p := HKP.out ad rfl
            have hadl : ad.block < w.heap.size := by
              obtain ⟨_, e, hb', _⟩ := HK.out.2 (by omega)
              injection e with e; subst e; exact hb'
            have hkr : (wr.alloc (.cells #[.string f.name, .slice A' f.b.size c', .int .i64 f.safe] 61)).cell? (ad.add i) = some (.int .i64 kv) := by
              have h1 : (ad.add i).block = ad.block := block_of_add ad i
              rw [World.cell?_alloc_lt wr _ (ad.add i) (by rw [h1]; have := HM.out.size; omega)]
              rw [World.cell?_of_block (HM.out.block (ad.add i).block (by rw [h1]; exact hadl) (by rw [h1]; exact hadp) (by simp)), hkc, hkv]
            have hmp : 0 < (f.b.size : Int) - (s0 : Int) + 1 := by omega
            have hmp2 : (f.b.size : Int) - (s0 : Int) + 1 ≤ 1000000001 := by omega
            obtain ⟨hT1, hT2⟩ := tmod_bounds kv _ hmp
            have hE := tmod_round kv _ hmp
            rw [Int.add_emod_right] at hE
            have hE1 := Int.emod_nonneg (kv.tmod ((f.b.size : Int) - (s0 : Int) + 1)) (show (f.b.size : Int) - (s0 : Int) + 1 ≠ 0 by omega)
            have hE2 := Int.emod_lt_of_pos (kv.tmod ((f.b.size : Int) - (s0 : Int) + 1)) hmp
            have HE := Lib.hid hE; have HKV := Lib.hid hkv
            clear hkc hkv hE
            go_wp2
            go_meet
            refine ⟨?_, rfl⟩
            have hN := HN.out
            rw [List.getElem?_eq_getElem hik, HKV.out] at hN
            dsimp only at hN
            rw [HE.out] at hE1 hE2 ⊢
            rw [show ((f.b.size - s0 : Nat) : Int) + 1 = (f.b.size : Int) - (s0 : Int) + 1 by omega] at hN
            congr 1
            omega
          · have hikI : ¬ (i : Int) < (keep.length : Int) := by omega
            have hN := HN.out
            rw [List.getElem?_eq_none (by omega)] at hN
            have hN : s0 = N := hN
            have HN := Lib.hid hN
            clear hN
            go_wp2
            go_meet
            exact ⟨by first | rfl | rw [HN.out], rfl⟩
        case rest =>
          obtain ⟨rfl, rfl⟩ := hcut
          obtain ⟨K, hK⟩ : ∃ K : Bool, (decide (0 < N) || (f.safe != -1)) = K := ⟨_, rfl⟩
          have HKK := Lib.hid hK
          clear hK
          go_upto_region 13 with (fail)
          go_cut [67] (fun s67 wx => s67 = .bool K ∧ wx = wr.alloc (.cells #[.string f.name, .slice A' f.b.size c', .int .i64 f.safe] 61))
          case first =>
            have hK := HKK.out
            by_cases hn0 : 0 < N
            · have hn0I : (0 : Int) < (N : Int) := by omega
              go_wp2
              go_meet
              exact ⟨by rw [← hK]; simp [hn0], rfl⟩
            · have hn0I : ¬ (0 : Int) < (N : Int) := by omega
              go_wp2
              go_meet
              exact ⟨by rw [← hK]; simp [hn0], rfl⟩
          case rest =>
            obtain ⟨rfl, rfl⟩ := hcut
            cases K with
            | false =>
              go_wp2
              go_roundg gf
              case measure => omega
              case rel =>
                refine ⟨i + 1, by go_num, by omega, ?_⟩
                exact on_skip ⟨HM.out, v1, rows1, HB1.out, HR1.out, HRD1.out, hrl1⟩ HFI.out (keptL_no HN0.out HKK.out) ((Below.refl wr.heap.size wr).alloc (Nat.le_refl _) _)
            | true =>
              obtain ⟨i0, hi0, hz0, hz1, hz2⟩ := parts infoF
              have hb1 := HB1.out
              have hp := hb1.lt
              have hmsz := HM.out.size
              have hR1 := HRD1.out
              have hn1 : rows1.length ≤ 100000000 := by omega
              obtain ⟨A1, n1, c1, hv1, hn1e⟩ : ∃ A n c, v1 = Value.slice A n c ∧ n = rows1.length := by
                obtain ⟨A, c, h⟩ := own_shape hR1.1
                exact ⟨A, _, c, h, rfl⟩
              subst hv1
              have k0 := hb1.cell 0; have kf := hb1.frozen 0
              simp only [List.getElem?_toArray, List.getElem?_cons_zero] at k0
              obtain ⟨wA, hwA⟩ : ∃ wA, wA = wr.alloc (.cells #[.string f.name, .slice A' f.b.size c', .int .i64 f.safe] 61) := ⟨_, rfl⟩
              have hsA : wA.heap.size = wr.heap.size + 1 := by rw [hwA]; simp
              have hBA : Below wr.heap.size wr wA := by rw [hwA]; exact (Below.refl wr.heap.size wr).alloc (Nat.le_refl _) _
              have hnbA : Blk wA wr.heap.size 61 #[.string f.name, .slice A' f.b.size c', .int .i64 f.safe] := by rw [hwA]; exact Blk.new wr _ _
              have a0 := hnbA.cell 0; have a1 := hnbA.cell 1
              simp only [List.getElem?_toArray, List.getElem?_cons_zero, List.getElem?_cons_succ] at a0 a1
              have p0 : wA.cell? ⟨p, 0, none⟩ = some (.slice A1 n1 c1) := (hBA.cell (p := ⟨p, 0, none⟩) hp).trans k0
              have hpA : p < wA.heap.size := by omega
              have hfA : wr.heap.size < wA.heap.size := by omega
              obtain ⟨y, hy⟩ : ∃ y : FileD × Value, y = (⟨f.name, f.b.extract 0 N, N⟩, .slice A' N N) := ⟨_, rfl⟩
              have hfy : fcells y = [.string f.name, .slice A' N N, .int .i64 N] := by rw [hy]; rfl
              have hbA2 := (Below.refl wA.heap.size wA).alloc (Nat.le_refl _) (.cells #[.string f.name, .slice A' N N, .int .i64 N] 61)
              have hown1 : (wA.alloc (.cells #[.string f.name, .slice A' N N, .int .i64 N] 61)).drew.ownsRow w.heap.size 61 3 (.slice A1 n1 c1) n1 (rcells rows1) := by
                have h1 := World.ownsRow.alloc (World.ownsRow.alloc hR1.1 (.cells #[.string f.name, .slice A' f.b.size c', .int .i64 f.safe] 61)) (.cells #[.string f.name, .slice A' N N, .int .i64 N] 61)
                rw [← hwA, ← hn1e] at h1
                exact h1
              have hrd : Reads (wA.alloc (.cells #[.string f.name, .slice A' N N, .int .i64 N] 61)).drew (wA.heap.size + 1) 3 (some ⟨wA.heap.size, 0, none⟩) 1 (fcells y) := by
                rw [hfy]
                exact ⟨rfl, fun _ => ⟨_, rfl, by show wA.heap.size < _; omega, cells_new wA [.string f.name, .slice A' N N, .int .i64 N] 61 wA.heap.size rfl⟩⟩
              have h1y : ∀ u ∈ fcells y, u.oneCell' = true := by
                rw [hfy]
                intro u hu
                simp only [List.mem_cons, List.not_mem_nil, or_false] at hu
                rcases hu with rfl | rfl | rfl <;> rfl
              have hne1 : ∀ k, (Value.slice A1 n1 c1).ownBlock = some k → k ≠ p := fun k hk e => by
                subst e
                exact own_type hR1.1 (t := 56) (by decide) k hk _ _ hb1
              have hq : ∀ w5 : World, (wA.alloc (.cells #[.string f.name, .slice A' N N, .int .i64 N] 61)).drew.grownBy w5 (Value.slice A1 n1 c1).ownBlock → w5.heap[p]? = wr.heap[p]? := fun w5 hg5 =>
                (hg5.block p (by simp; omega) (fun e => hne1 p e.symm rfl)).trans ((hbA2.block p hpA).trans (hBA.block p hp))
              have hq' : ∀ w5 : World, (wA.alloc (.cells #[.string f.name, .slice A' N N, .int .i64 N] 61)).drew.grownBy w5 (Value.slice A1 n1 c1).ownBlock → w5.cell? ⟨p, 0, none⟩ = some (.slice A1 n1 c1) ∧ w5.frozen? ⟨p, 0, none⟩ = false := fun w5 hg5 => by
                have hb5 : Blk w5 p 56 _ := (hq w5 hg5).trans hb1
                exact ⟨hb5.cell 0, hb5.frozen 0⟩
              have hn1b : n1 ≤ 100000000 := by omega
              have hNI : (N : Int) ≤ (c' : Int) := by omega
              have hNc : N ≤ c' := by omega
              have HWA := Lib.hid hwA; have HY := Lib.hid hy; have HBA := Lib.hid hBA; have HBA2 := Lib.hid hbA2; have HOWN1 := Lib.hid hown1; have HRD := Lib.hid hrd; have H1Y := Lib.hid h1y; have HQ := Lib.hid hq; have HQ' := Lib.hid hq'; have HSA := Lib.hid hsA; have HN1E := Lib.hid hn1e; have HI0 := Lib.hid hi0; have HCl := Lib.hid (fun W => clip_any A' N c' W hNc); have HZ0 := Lib.hid hz0
              clear hwA hy hfy hBA hbA2 hown1 hrd h1y hq hq' hsA hn1e hi0 hz0 hb1 hR1 hnbA hne1 k0 kf
              go_wp2_with fail
              rw [← HWA.out]
              go_region_law (first | (refine step_append_any _ rfl (.tmp 72) (.tmp 82) 54 rfl w.heap.size 61 i0 (.agg #[.string ⟨#[]⟩, .slice none 0 0, .int .i64 0]) 3 48 Try.underlying54 HI0.out HZ0.out hz1 hz2 rfl (by decide) (.slice A1 n1 c1) n1 (rcells rows1) (by simp [Act.eval]) HOWN1.out _ (some ⟨wA.heap.size, 0, none⟩) 1 1 (fcells y) (by simp [Act.eval]) HRD.out H1Y.out (by unfold maxLen; omega) (by omega) (by simp; omega) ?_; intro v5 w5 h2 h3 h4; obtain ⟨A5, n5, c5, rfl⟩ := own_shape' h2; obtain ⟨q1, q2⟩ := HQ'.out w5 h3; have HO5 := Lib.hid h2; have HG5 := Lib.hid h3; have HB5 := Lib.hid h4; clear h2 h3 h4) | (go_simp; go_at_call 33; refine (HCl.out _).mono ?_; rintro e w4 ⟨rfl, rfl⟩))
              all_goals
                go_wp2
                go_roundg gf
                case measure => omega
                case rel =>
                  refine ⟨i + 1, by go_num, by omega, ?_⟩
                  have ho := HO5.out
                  rw [HN1E.out] at ho
                  have hbX : Bt (wA.alloc (.cells #[.string f.name, .slice A' N N, .int .i64 N] 61)).drew y.2 y.1.b := by
                    have h1 := (HBX.out.cut N hNle).below (HBA.out.trans (HBA2.out.mono HBA.out.size)).drew
                    rw [HY.out]; exact h1
                  exact on_add hpl0 HM.out HB1.out HR1.out HRD1.out hrl1 HFI.out (by rw [keptL_yes HN0.out HKK.out, HY.out]) (HBA.out.trans (HBA2.out.mono HBA.out.size)).drew hbX HG5.out ho
end Go.Proofs.Ytmgnpcoihehelaa
