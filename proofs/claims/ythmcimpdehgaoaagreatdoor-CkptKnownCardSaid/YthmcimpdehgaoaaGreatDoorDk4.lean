/- The disk's On. The disk's On, whole; name. Disks side by side: what a call of one leaves of the others; Names. The disk's calls, each as what it answers and leaves; a disk of one file, in plain words. -/
import Derived.Test.YthmcimpdehgaoaaGreatDoorDk3
import Derived.Deep.DeepCutAuto
import Derived.Laws.BytesArg
import Derived.Laws.IdiomStrings
import Derived.Sort.Walk0
namespace Go.Proofs.YthmcimpdehgaoaaGreatDoor
open Go.RowKit

attribute [local go_sem ↓] Go.wp_at_zero Go.wp_at_succ
set_option maxRecDepth 100000 in
set_option maxHeartbeats 8000000 in
theorem on_off [Forb] (w : World) (base p : Nat) (v : Value) (D : DiskD) (h : DiskIs w base p v D) (A : Option Addr) (c : Nat) (keep : List Int) (hk : Rd w 1 A keep.length (keep.map (Value.int .i64))) (hkp : 0 < keep.length → ∀ ad, A = some ad → ad.block ≠ p)
    (hl : D.files.length ≤ 100000000) (hkl : keep.length ≤ 100000000) (hb : ∀ f ∈ D.files, f.b.size ≤ 1000000000) (hso : ∀ f ∈ D.files, SafeOk f) (hbase : base ≤ w.heap.size) (hoff : D.off = true) :
    Calls Tryz.prog 19 #[.pointer (some ⟨p, 0, none⟩), .slice A keep.length c] w fun e w' => e = .returned (.tuple #[]) ∧ Leaves w w' base p v (D.on keep) := by
  obtain ⟨rows, hr, hR⟩ := h.row
  have hlen : rows.length = D.files.length := by rw [← hr, List.length_map]
  have hrl : rows.length ≤ 100000000 := by omega
  obtain ⟨Ar, cr, rfl⟩ := own_shape hR.1
  have hb0 := h.blk
  rw [hoff] at hb0
  have c0 := hb0.cell 0; have c3 := hb0.cell 3; have c4 := hb0.cell 4
  simp only [List.getElem?_toArray, List.getElem?_cons_zero, List.getElem?_cons_succ] at c0 c3 c4
  have hpl0 := h.blk.lt
  have f0 := hb0.frozen 0; have f3 := hb0.frozen 3; have f4 := hb0.frozen 4
  -- the world at the loop's head
  obtain ⟨w3, hw3⟩ : ∃ w3, w3 = ((w.setCell ⟨p, 3, none⟩ (.int .i64 (-1))).setCell ⟨p, 4, none⟩ (.bool false)).setCell ⟨p, 0, none⟩ (.slice none 0 0) := ⟨_, rfl⟩
  have hb3 : Blk w3 p 68 #[.slice none 0 0, .int .i64 D.quota, .int .i64 D.steps, .int .i64 (-1), .bool false] := by rw [hw3]; exact ((hb0.set_ 3 _).set_ 4 _).set_ 0 _
  have hm3 : Moved w w3 p none := by
    rw [hw3]
    exact ((Moved.set_ w p 3 none _).trans (Moved.set_ _ p 4 none _) (.inl rfl)).trans (Moved.set_ _ p 0 none _) (.inl rfl)
  have hrel0 : OnRel w p D keep 0 w3 := ⟨hm3, .slice none 0 0, [], hb3, rfl, ⟨World.ownsRow_nil _ _ _ _, by simp⟩, Nat.le_refl _⟩
  have hown := h.own
  have HOW := Lib.hid hown; have HR := Lib.hid hR; have HRR := Lib.hid hr; have HLEN := Lib.hid hlen; have HW3 := Lib.hid hw3; have HREL := Lib.hid hrel0; have HK := Lib.hid hk; have HKP := Lib.hid hkp; have HSO := Lib.hid hso; have HBS := Lib.hid hb; have HOFF := Lib.hid hoff; have H := Lib.hid h
  clear hown hR hr hlen hw3 hrel0 hb3 hm3 hb0 h hk hkp hso hb hoff
  go_enter Tryz.func19, Tryz.ntmps19
  go_wp2
  rw [← HW3.out]
  go_loopg [31] rows.length (fun gf vi wr => ∃ i : Nat, vi = .int .i64 i ∧ i + gf = rows.length ∧ OnRel w p D keep i wr)
  case atStart => exact ⟨0, rfl, by omega, HREL.out⟩
  case round =>
    obtain ⟨i, rfl, hi, hO⟩ := hrel
    cases gk with
    | zero =>
      obtain rfl : i = rows.length := by omega
      have HO := Lib.hid hO
      clear hO
      go_wp2
      refine bodyPost_end (results_none rfl _ _ _) rfl ?_
      obtain ⟨hm, v1, rows1, hb1, hr1, hR1, hrl1⟩ := HO.out
      have hfull : D.files.take rows.length = D.files := List.take_of_length_le (by rw [HLEN.out]; exact Nat.le_refl _)
      rw [hfull] at hr1
      have hon : D.on keep = { D with left := -1, off := false, files := onGo D.files keep } := by unfold DiskD.on; rw [if_pos HOFF.out]
      rw [hon]
      refine ⟨rfl, v1, ⟨H.out.1, hb1, rows1, hr1, ⟨own_mono hR1.1 hbase, hR1.2⟩⟩, ⟨hm.os, hm.tape, hm.output, hm.size, fun k hk hkp _ => hm.block k hk hkp (by simp)⟩, fun k hk => .inr (hR1.1.lt k hk).1⟩
    | succ gf =>
      obtain ⟨hm, v1, rows1, hb1, hr1, hR1, hrl1⟩ := hO
      have hRr : RowD wr base (.slice Ar rows.length cr) rows := HR.out.keep (fun g' hg' => hm.block g' (HOW.out g' hg').2.1 (HOW.out g' hg').2.2 (by simp)) (fun blk cs fz hh => hm.block blk (Array.getElem?_eq_some_iff.1 hh).1 (fun e => by subst e; exact H.out.noU _ _ hh) (by simp))
      obtain ⟨g, cap, x, A', c', hv, hx, hx2, hg, e1, e2, e3⟩ := hRr.at_ (i := i) (by omega) (Below.refl _ _)
      simp only [Value.slice.injEq] at hv
      obtain ⟨rfl, -, rfl⟩ := hv
      obtain ⟨f, xv⟩ := x
      dsimp only at hx2 e1 e2 e3
      subst hx2
      obtain ⟨hbx, hbo⟩ := hRr.2 _ (List.mem_of_getElem? hx)
      dsimp only at hbx hbo
      have hfi : D.files[i]? = some f := by rw [← HRR.out, List.getElem?_map, hx]; rfl
      have hfm := List.mem_of_getElem? hfi
      have hso := HSO.out f hfm
      have hbs := HBS.out f hfm
      obtain ⟨hso1, hso2⟩ := id hso
      have hiI : (i : Int) < (rows.length : Int) := by omega
      have hir : i < rows.length := by omega
      have hcc : f.b.size ≤ c' := by obtain ⟨_, _, he, hc, _⟩ := hbx; simp only [Value.slice.injEq] at he; omega
      obtain ⟨N, hN⟩ : ∃ N, keptN f keep[i]? = N := ⟨_, rfl⟩
      have hNle : N ≤ f.b.size := by rw [← hN]; exact keptN_le f hso _
      obtain ⟨s0, hs0⟩ : ∃ s0, f.safe.toNat = s0 := ⟨_, rfl⟩
      have hs0a : (s0 : Int) = max 0 f.safe := by omega
      have hs0b : s0 ≤ f.b.size := by omega
      have HN0 := Lib.hid hN
      unfold keptN at hN
      rw [hs0] at hN
      have HS0 := Lib.hid hs0a
      clear hs0 hs0a
      have HN := Lib.hid hN; have HX := Lib.hid hx; have HFI := Lib.hid hfi; have HBX := Lib.hid hbx; have HBO := Lib.hid hbo; have HM := Lib.hid hm; have HB1 := Lib.hid hb1; have HR1 := Lib.hid hr1; have HRD1 := Lib.hid hR1
      clear hN hx hfi hbx hbo hfm hso hm hb1 hr1 hR1 hRr
      go_upto_region 9 with (fail)
      go_cut [7] (fun s7 wx => s7 = .int .i64 (s0 : Nat) ∧ wx = wr.alloc (.cells #[.string f.name, .slice A' f.b.size c', .int .i64 f.safe] 90))
      case first =>
        go_wp2
        go_meet
        exact ⟨by rw [HS0.out], rfl⟩
      case rest =>
        obtain ⟨rfl, rfl⟩ := hcut
        go_upto_if 42 with (fail)
        go_cut [7] (fun s7 wx => s7 = .int .i64 (N : Nat) ∧ wx = wr.alloc (.cells #[.string f.name, .slice A' f.b.size c', .int .i64 f.safe] 90))
        case first =>
          by_cases hik : i < keep.length
          · have hikI : (i : Int) < (keep.length : Int) := by omega
            obtain ⟨ad, u, hA, hku, hkc⟩ := HK.out.at_ hik
            subst hA
            rw [List.getElem?_map, List.getElem?_eq_getElem hik, Option.map_some] at hku
            injection hku with hku
            subst hku
            obtain ⟨kv, hkv⟩ : ∃ kv, keep[i] = kv := ⟨_, rfl⟩
            have hadp : ad.block ≠ p := HKP.out (by omega) ad rfl
            have hadl : ad.block < w.heap.size := by
              obtain ⟨_, e, hb', _⟩ := HK.out.2 (by omega)
              injection e with e; subst e; exact hb'
            have hkr : (wr.alloc (.cells #[.string f.name, .slice A' f.b.size c', .int .i64 f.safe] 90)).cell? (ad.add i) = some (.int .i64 kv) := by
              have h1 : (ad.add i).block = ad.block := block_of_add ad i
              rw [World.cell?_alloc_lt wr _ (ad.add i) (by rw [h1]; have := HM.out.size; omega)]
              rw [World.cell?_of_block (HM.out.block (ad.add i).block (by rw [h1]; exact hadl) (by rw [h1]; exact hadp) (by simp)), hkc, hkv]
            have hmp : 0 < (f.b.size : Int) - (s0 : Int) + 1 := by omega
            have hmp2 : (f.b.size : Int) - (s0 : Int) + 1 ≤ 1000000001 := by omega
            obtain ⟨hT1, hT2⟩ := tmod_bounds kv _ hmp
            have hE := tmod_round kv _ hmp
            rw [Int.add_emod_right] at hE
            have hE1 := Int.emod_nonneg (kv.tmod ((f.b.size : Int) - (s0 : Int) + 1)) (show (f.b.size : Int) - (s0 : Int) + 1 ≠ 0 by omega)
            have hE2 := Int.emod_lt_of_pos (kv.tmod ((f.b.size : Int) - (s0 : Int) + 1)) hmp
            have HE := Lib.hid hE; have HKV := Lib.hid hkv
            clear hkc hkv hE
            go_wp2
            go_meet
            refine ⟨?_, rfl⟩
            have hN := HN.out
            rw [List.getElem?_eq_getElem hik, HKV.out] at hN
            dsimp only at hN
            rw [HE.out] at hE1 hE2 ⊢
            rw [show ((f.b.size - s0 : Nat) : Int) + 1 = (f.b.size : Int) - (s0 : Int) + 1 by omega] at hN
            congr 1
            omega
          · have hikI : ¬ (i : Int) < (keep.length : Int) := by omega
            have hN := HN.out
            rw [List.getElem?_eq_none (by omega)] at hN
            have hN : s0 = N := hN
            have HN := Lib.hid hN
            clear hN
            go_wp2
            go_meet
            exact ⟨by first | rfl | rw [HN.out], rfl⟩
        case rest =>
          obtain ⟨rfl, rfl⟩ := hcut
          obtain ⟨K, hK⟩ : ∃ K : Bool, (decide (0 < N) || (f.safe != -1)) = K := ⟨_, rfl⟩
          have HKK := Lib.hid hK
          clear hK
          go_upto_region 13 with (fail)
          go_cut [67] (fun s67 wx => s67 = .bool K ∧ wx = wr.alloc (.cells #[.string f.name, .slice A' f.b.size c', .int .i64 f.safe] 90))
          case first =>
            have hK := HKK.out
            by_cases hn0 : 0 < N
            · have hn0I : (0 : Int) < (N : Int) := by omega
              go_wp2
              go_meet
              exact ⟨by rw [← hK]; simp [hn0], rfl⟩
            · have hn0I : ¬ (0 : Int) < (N : Int) := by omega
              go_wp2
              go_meet
              exact ⟨by rw [← hK]; simp [hn0], rfl⟩
          case rest =>
            obtain ⟨rfl, rfl⟩ := hcut
            cases K with
            | false =>
              go_wp2
              go_roundg gf
              case measure => omega
              case rel =>
                refine ⟨i + 1, by go_num, by omega, ?_⟩
                exact on_skip ⟨HM.out, v1, rows1, HB1.out, HR1.out, HRD1.out, hrl1⟩ HFI.out (keptL_no HN0.out HKK.out) ((Below.refl wr.heap.size wr).alloc (Nat.le_refl _) _)
            | true =>
              obtain ⟨i0, hi0, hz0, hz1, hz2⟩ := parts infoF
              have hb1 := HB1.out
              have hp := hb1.lt
              have hmsz := HM.out.size
              have hR1 := HRD1.out
              have hn1 : rows1.length ≤ 100000000 := by omega
              obtain ⟨A1, n1, c1, hv1, hn1e⟩ : ∃ A n c, v1 = Value.slice A n c ∧ n = rows1.length := by
                obtain ⟨A, c, h⟩ := own_shape hR1.1
                exact ⟨A, _, c, h, rfl⟩
              subst hv1
              have k0 := hb1.cell 0; have kf := hb1.frozen 0
              simp only [List.getElem?_toArray, List.getElem?_cons_zero] at k0
              obtain ⟨wA, hwA⟩ : ∃ wA, wA = wr.alloc (.cells #[.string f.name, .slice A' f.b.size c', .int .i64 f.safe] 90) := ⟨_, rfl⟩
              have hsA : wA.heap.size = wr.heap.size + 1 := by rw [hwA]; simp
              have hBA : Below wr.heap.size wr wA := by rw [hwA]; exact (Below.refl wr.heap.size wr).alloc (Nat.le_refl _) _
              have hnbA : Blk wA wr.heap.size 90 #[.string f.name, .slice A' f.b.size c', .int .i64 f.safe] := by rw [hwA]; exact Blk.new wr _ _
              have a0 := hnbA.cell 0; have a1 := hnbA.cell 1
              simp only [List.getElem?_toArray, List.getElem?_cons_zero, List.getElem?_cons_succ] at a0 a1
              have p0 : wA.cell? ⟨p, 0, none⟩ = some (.slice A1 n1 c1) := (hBA.cell (p := ⟨p, 0, none⟩) hp).trans k0
              have hpA : p < wA.heap.size := by omega
              have hfA : wr.heap.size < wA.heap.size := by omega
              obtain ⟨y, hy⟩ : ∃ y : FileD × Value, y = (⟨f.name, f.b.extract 0 N, N⟩, .slice A' N N) := ⟨_, rfl⟩
              have hfy : fcells y = [.string f.name, .slice A' N N, .int .i64 N] := by rw [hy]; rfl
              have hbA2 := (Below.refl wA.heap.size wA).alloc (Nat.le_refl _) (.cells #[.string f.name, .slice A' N N, .int .i64 N] 90)
              have hown1 : (wA.alloc (.cells #[.string f.name, .slice A' N N, .int .i64 N] 90)).drew.ownsRow w.heap.size 90 3 (.slice A1 n1 c1) n1 (rcells rows1) := by
                have h1 := World.ownsRow.alloc (World.ownsRow.alloc hR1.1 (.cells #[.string f.name, .slice A' f.b.size c', .int .i64 f.safe] 90)) (.cells #[.string f.name, .slice A' N N, .int .i64 N] 90)
                rw [← hwA, ← hn1e] at h1
                exact h1
              have hrd : Reads (wA.alloc (.cells #[.string f.name, .slice A' N N, .int .i64 N] 90)).drew (wA.heap.size + 1) 3 (some ⟨wA.heap.size, 0, none⟩) 1 (fcells y) := by
                rw [hfy]
                exact ⟨rfl, fun _ => ⟨_, rfl, by show wA.heap.size < _; omega, cells_new wA [.string f.name, .slice A' N N, .int .i64 N] 90 wA.heap.size rfl⟩⟩
              have h1y : ∀ u ∈ fcells y, u.oneCell' = true := by
                rw [hfy]
                intro u hu
                simp only [List.mem_cons, List.not_mem_nil, or_false] at hu
                rcases hu with rfl | rfl | rfl <;> rfl
              have hne1 : ∀ k, (Value.slice A1 n1 c1).ownBlock = some k → k ≠ p := fun k hk e => by
                subst e
                exact own_type hR1.1 (t := 68) (by decide) k hk _ _ hb1
              have hq : ∀ w5 : World, (wA.alloc (.cells #[.string f.name, .slice A' N N, .int .i64 N] 90)).drew.grownBy w5 (Value.slice A1 n1 c1).ownBlock → w5.heap[p]? = wr.heap[p]? := fun w5 hg5 =>
                (hg5.block p (by simp; omega) (fun e => hne1 p e.symm rfl)).trans ((hbA2.block p hpA).trans (hBA.block p hp))
              have hq' : ∀ w5 : World, (wA.alloc (.cells #[.string f.name, .slice A' N N, .int .i64 N] 90)).drew.grownBy w5 (Value.slice A1 n1 c1).ownBlock → w5.cell? ⟨p, 0, none⟩ = some (.slice A1 n1 c1) ∧ w5.frozen? ⟨p, 0, none⟩ = false := fun w5 hg5 => by
                have hb5 : Blk w5 p 68 _ := (hq w5 hg5).trans hb1
                exact ⟨hb5.cell 0, hb5.frozen 0⟩
              have hn1b : n1 ≤ 100000000 := by omega
              have hNI : (N : Int) ≤ (c' : Int) := by omega
              have hNc : N ≤ c' := by omega
              have HWA := Lib.hid hwA; have HY := Lib.hid hy; have HBA := Lib.hid hBA; have HBA2 := Lib.hid hbA2; have HOWN1 := Lib.hid hown1; have HRD := Lib.hid hrd; have H1Y := Lib.hid h1y; have HQ := Lib.hid hq; have HQ' := Lib.hid hq'; have HSA := Lib.hid hsA; have HN1E := Lib.hid hn1e; have HI0 := Lib.hid hi0; have HCl := Lib.hid (fun W => clip_any A' N c' W hNc); have HZ0 := Lib.hid hz0
              clear hwA hy hfy hBA hbA2 hown1 hrd h1y hq hq' hsA hn1e hi0 hz0 hb1 hR1 hnbA hne1 k0 kf
              go_wp2_with fail
              rw [← HWA.out]
              go_region_law (first | (refine step_append_any _ rfl (.tmp 72) (.tmp 82) 66 rfl w.heap.size 90 i0 (.agg #[.string ⟨#[]⟩, .slice none 0 0, .int .i64 0]) 3 48 Tryz.underlying66 HI0.out HZ0.out hz1 hz2 rfl (by decide) (.slice A1 n1 c1) n1 (rcells rows1) (by simp [Act.eval]) HOWN1.out _ (some ⟨wA.heap.size, 0, none⟩) 1 1 (fcells y) (by simp [Act.eval]) HRD.out H1Y.out (by unfold maxLen; omega) (by omega) (by simp; omega) ?_; intro v5 w5 h2 h3 h4; obtain ⟨A5, n5, c5, rfl⟩ := own_shape' h2; obtain ⟨q1, q2⟩ := HQ'.out w5 h3; have HO5 := Lib.hid h2; have HG5 := Lib.hid h3; have HB5 := Lib.hid h4; clear h2 h3 h4) | (go_simp; go_at_call 56; refine (HCl.out _).mono ?_; rintro e w4 ⟨rfl, rfl⟩))
              all_goals
                go_wp2
                go_roundg gf
                case measure => omega
                case rel =>
                  refine ⟨i + 1, by go_num, by omega, ?_⟩
                  have ho := HO5.out
                  rw [HN1E.out] at ho
                  have hbX : Bt (wA.alloc (.cells #[.string f.name, .slice A' N N, .int .i64 N] 90)).drew y.2 y.1.b := by
                    have h1 := (HBX.out.cut N hNle).below (HBA.out.trans (HBA2.out.mono HBA.out.size)).drew
                    rw [HY.out]; exact h1
                  exact on_add hpl0 HM.out HB1.out HR1.out HRD1.out hrl1 HFI.out (by rw [keptL_yes HN0.out HKK.out, HY.out]) (HBA.out.trans (HBA2.out.mono HBA.out.size)).drew hbX (by rw [HY.out]; exact HBO.out.cut hNle) HG5.out ho
end Go.Proofs.YthmcimpdehgaoaaGreatDoor
namespace Go.Proofs.YthmcimpdehgaoaaGreatDoor
open Go.RowKit

set_option maxRecDepth 100000 in
set_option maxHeartbeats 4000000 in
theorem on_any [Forb] (w : World) (base p : Nat) (v : Value) (D : DiskD) (h : DiskIs w base p v D) (A : Option Addr) (c : Nat) (keep : List Int) (hk : Rd w 1 A keep.length (keep.map (Value.int .i64))) (hkp : 0 < keep.length → ∀ ad, A = some ad → ad.block ≠ p)
    (hl : D.files.length ≤ 100000000) (hkl : keep.length ≤ 100000000) (hb : ∀ f ∈ D.files, f.b.size ≤ 1000000000) (hso : ∀ f ∈ D.files, SafeOk f) (hbase : base ≤ w.heap.size) :
    Calls Tryz.prog 19 #[.pointer (some ⟨p, 0, none⟩), .slice A keep.length c] w fun e w' => e = .returned (.tuple #[]) ∧ Leaves w w' base p v (D.on keep) := by
  cases hoff : D.off with
  | true => exact on_off w base p v D h A c keep hk hkp hl hkl hb hso hbase hoff
  | false =>
    have hb0 := h.blk
    have c3 := hb0.cell 3; have c4 := hb0.cell 4
    simp only [List.getElem?_toArray, List.getElem?_cons_zero, List.getElem?_cons_succ] at c3 c4
    have f3 := hb0.frozen 3
    rw [hoff] at c4
    have hon : D.on keep = { D with left := -1 } := by unfold DiskD.on; rw [if_neg (by simp [hoff])]
    rw [hon]
    have hm := Moved.set_ w p 3 v.ownBlock (.int .i64 (-1))
    have hD := h.set_ (D' := { D with left := -1 }) (Moved.set_ w p 3 none (.int .i64 (-1))) (hb0.set_ 3 (.int .i64 (-1))) rfl
    have HL : Hid (Leaves w (w.setCell ⟨p, 3, none⟩ (.int .i64 (-1))) base p v { D with left := -1 }) := Lib.hid ⟨v, hD, hm, own_new (.inl rfl)⟩
    clear hD hm hb0 h hk hkp hso hb hon hoff
    go_enter Tryz.func19, Tryz.ntmps19
    go_wp2
    refine bodyPost_ret (results_none rfl _ _ _) rfl ?_
    exact ⟨rfl, HL.out⟩
theorem size_zero_empty {s : ByteArray} (h : s.size = 0) : s = ByteArray.empty := by
  cases s with
  | mk d =>
    have hd : d.size = 0 := h
    rw [Array.eq_empty_of_size_eq_zero hd]; rfl
/-- string(b) of bytes -/
theorem BtR.conv {w : World} {v : Value} {s : ByteArray} (h : BtR w v s) : (convert 33 9 v).run Tryz.prog w = .ok (.string s) w := by
  obtain ⟨A, c, rfl, hc, hr⟩ := h
  rcases Nat.eq_zero_or_pos s.size with h0 | h0
  · rw [h0, size_zero_empty h0]
    cases A with
    | none => exact run_convert_bytes_nil w 33 5 Tryz.underlying33 Tryz.underlying5 0 c 9 Tryz.underlying9
    | some ad => exact run_convert_bytes_back w 33 9 5 ad c [] Tryz.underlying33 Tryz.underlying5 Tryz.underlying9 (fun j hj => absurd hj (by simp))
  · obtain ⟨ad, rfl, hb, hx⟩ := hr.2 h0
    have hl : s.size = s.data.toList.length := by simp
    have := run_convert_bytes_back (P := Tryz.prog) w 33 9 5 ad c s.data.toList Tryz.underlying33 Tryz.underlying5 Tryz.underlying9 (fun j hj => by
      refine hx j _ ?_
      unfold ucells
      rw [List.getElem?_map, List.getElem?_eq_getElem hj]; rfl)
    rw [hl]
    exact this
theorem Bt.conv {w : World} {v : Value} {s : ByteArray} (h : Bt w v s) : (convert 33 9 v).run Tryz.prog w = .ok (.string s) w := h.btr.conv
theorem BtR.cut {w : World} {A : Option Addr} {c : Nat} {s : ByteArray} (h : BtR w (.slice A s.size c) s) (n : Nat) (hn : n ≤ s.size) {c' : Nat} (hc' : n ≤ c') : BtR w (.slice A n c') (s.extract 0 n) := by
  have hsz : (s.extract 0 n).size = n := by rw [ByteArray.size_extract]; omega
  obtain ⟨A2, c2, he, hc, hr⟩ := h
  simp only [Value.slice.injEq] at he
  obtain ⟨rfl, -, rfl⟩ := he
  refine ⟨A, c', by rw [hsz], by omega, by rw [ucells_length, Nat.mul_one], fun hs => ?_⟩
  obtain ⟨ad, rfl, hb, hx⟩ := hr.2 (by omega)
  refine ⟨ad, rfl, hb, fun j u hj => hx j u ?_⟩
  unfold ucells at hj ⊢
  rw [Lib.extract_data, List.getElem?_map, List.drop_zero, List.getElem?_take] at hj
  rw [List.getElem?_map]
  split at hj
  · exact hj
  · simp at hj
end Go.Proofs.YthmcimpdehgaoaaGreatDoor
namespace Go.Proofs.YthmcimpdehgaoaaGreatDoor
open Go.RowKit

/-- two disks that share nothing -/
def Apart (p : Nat) (v : Value) (p' : Nat) (v' : Value) : Prop := p' ≠ p ∧ (∀ k, v.ownBlock = some k → k ≠ p' ∧ v'.ownBlock ≠ some k) ∧ v'.ownBlock ≠ some p
/-- what a call that changes a disk leaves -/
structure Out [Forb] (B : Nat) (w w' : World) (p : Nat) (v : Value) (D' : DiskD) (v1 : Value) : Prop where
  is : DiskIs w' B p v1 D'
  below : Below B w w'
  bt : ∀ x s, Bt w x s → Bt w' x s
  blk : ∀ (g : Nat) cs t fz, t ≠ 68 → t ≠ 90 → w.heap[g]? = some (.cells cs t fz) → w'.heap[g]? = w.heap[g]?
  other : ∀ B' p' v' D2, DiskIs w B' p' v' D2 → Apart p v p' v' → DiskIs w' B' p' v' D2 ∧ Apart p v1 p' v'
theorem Leaves.out [Forb] {w w' : World} {B p : Nat} {v : Value} {D D' : DiskD} (h : DiskIs w B p v D) (hB : B ≤ w.heap.size) (hL : Leaves w w' B p v D') : ∃ v1, Out B w w' p v D' v1 := by
  obtain ⟨v1, hd, hm, ho⟩ := hL
  obtain ⟨rows, hr, hR⟩ := h.row
  have hty := own_type hR.1 (t := 5) (by decide)
  refine ⟨v1, hd, hm.below h.1 (fun n hn => (h.own n hn).1) hB, fun x s hb => hb.moved hm h.noU hty, fun g cs t fz h1 h2 hh => hm.block g (Array.getElem?_eq_some_iff.1 hh).1 (fun e => by subst e; exact blk_type h.blk hh (fun e => h1 e.symm)) (fun e => own_type hR.1 (fun e => h2 e.symm) g e.symm cs fz hh), fun B' p' v' D2 h2 ha => ⟨h2.keep hm ha.1 (fun e => (ha.2.1 p' e.symm).1 rfl) (fun k hk => ⟨fun e => ha.2.2 (by rw [hk, e]), fun e => (ha.2.1 k e.symm).2 hk⟩) h.noU hty, ha.1, fun k hk => ?_, ha.2.2⟩⟩
  rcases ho k hk with h1 | h1
  · exact ha.2.1 k h1
  · refine ⟨fun e => ?_, fun e => ?_⟩
    · have := h2.blk.lt; omega
    · have := (h2.own k e).2.1; omega
theorem DiskIs.mono [Forb] {w : World} {b b' p : Nat} {v : Value} {D : DiskD} (h : DiskIs w b p v D) (hb : b' ≤ b) : DiskIs w b' p v D := by
  obtain ⟨h1, h2, rows, h3, h4, h5⟩ := h
  exact ⟨Nat.le_trans hb h1, h2, rows, h3, own_mono h4 hb, h5⟩
/-- a disk made new shares nothing with one that was there -/
theorem apart_new [Forb] {w w' : World} {B p p' : Nat} {v v' : Value} {D D2 : DiskD} (h : DiskIs w B p v D) (h2 : DiskIs w' w.heap.size p' v' D2) : Apart p v p' v' :=
  ⟨fun e => by have := h.blk.lt; have := h2.1; omega, fun k hk => ⟨fun e => by have := (h.own k hk).2.1; have := h2.1; omega, fun e => by have := (h.own k hk).2.1; have := (h2.own k e).1; omega⟩, fun e => by have := h.blk.lt; have := (h2.own p e).1; omega⟩
theorem Apart.symm {p p' : Nat} {v v' : Value} (h : Apart p v p' v') : Apart p' v' p v :=
  ⟨fun e => h.1 e.symm, fun k hk => ⟨fun e => h.2.2 (by rw [hk, e]), fun e => (h.2.1 k e).2 hk⟩, fun e => (h.2.1 p' e).1 rfl⟩
theorem infoS : (Tryz.prog.info? 9).map (fun i => (i.zero, i.size, i.bytes)) = some (some (.string ⟨#[]⟩), 1, 16) := by kernel_rfl
set_option maxRecDepth 100000 in
set_option maxHeartbeats 4000000 in
theorem names_any [Forb] (w : World) (base p : Nat) (v : Value) (D : DiskD) (h : DiskIs w base p v D) (hl : D.files.length ≤ 100000000) :
    Calls Tryz.prog 33 #[.pointer (some ⟨p, 0, none⟩)] w fun e w' => ∃ A c, e = .returned (.slice A D.files.length c) ∧ Rd w' 1 A D.files.length (D.files.map fun f => .string f.name) ∧ Below w.heap.size w w' := by
  have c0 := h.blk.cell 0
  simp only [List.getElem?_toArray, List.getElem?_cons_zero] at c0
  obtain ⟨rows, hr, hR⟩ := h.row
  have hlen : rows.length = D.files.length := by rw [← hr, List.length_map]
  obtain ⟨Ar, cr, rfl⟩ := own_shape hR.1
  obtain ⟨i0, hi0, hz0, hz1, hz2⟩ := parts infoS
  have hmk := run_make_rowN (P := Tryz.prog) 31 9 i0 (.string ⟨#[]⟩) Tryz.underlying31 hi0 hz0 .i64 .i64 0 rows.length (Nat.zero_le _) (by rw [hz2]; omega) (by omega) w
  have hmk0 : (madeCells (Value.string ⟨#[]⟩).cells (rows.length * i0.size)).size = rows.length := by rw [hz1]; simp [madeCells]
  obtain ⟨zs, hzs⟩ : ∃ zs, madeCells (Value.string ⟨#[]⟩).cells (rows.length * i0.size) = zs := ⟨_, rfl⟩
  rw [hzs] at hmk hmk0
  have ho0 : (w.alloc (.cells zs 9)).ownsRow w.heap.size 9 1 (.slice (some ⟨w.heap.size, 0, none⟩) 0 rows.length) 0 [] := ⟨by simp, .inr ⟨w.heap.size, rows.length, zs, rfl, Nat.le_refl _, heap_alloc_new w _, Nat.zero_le _, by unfold maxLen; omega, by rw [hmk0, Nat.mul_one], by simp⟩⟩
  have hB0 := (Below.refl w.heap.size w).alloc (Nat.le_refl _) (.cells zs 9)
  have hrl : rows.length ≤ 100000000 := by omega
  have hpl := h.blk.lt
  have HR := Lib.hid hR; have HRR := Lib.hid hr; have HLEN := Lib.hid hlen; have HO0 := Lib.hid ho0; have HB0 := Lib.hid hB0; have HI0 := Lib.hid hi0; have HZ0 := Lib.hid hz0
  clear hR hr hlen hzs hmk0 ho0 hB0 h hi0 hz0
  simp only [Int.cast_ofNat_Int] at hmk
  go_enter Tryz.func33, Tryz.ntmps33
  go_wp2
  go_loopg [3, 19] rows.length (fun gf vs vi wr => ∃ i : Nat, vi = .int .i64 i ∧ i + gf = rows.length ∧ wr.ownsRow w.heap.size 9 1 vs i ((D.files.take i).map fun f => .string f.name) ∧ Below w.heap.size w wr)
  case atStart => exact ⟨0, rfl, by omega, HO0.out, HB0.out⟩
  case round =>
    obtain ⟨i, rfl, hi, hown, hB⟩ := hrel
    cases gk with
    | zero =>
      obtain rfl : i = rows.length := by omega
      have hfull : D.files.take rows.length = D.files := List.take_of_length_le (by rw [HLEN.out]; exact Nat.le_refl _)
      rw [hfull] at hown
      obtain ⟨A, c, rfl⟩ := own_shape hown
      have HO := Lib.hid hown; have HB := Lib.hid hB
      clear hown hB hfull
      go_wp2
      go_ret
      refine ⟨A, c, by rw [← HLEN.out]; rfl, ?_, HB.out⟩
      have := Rd.of_own HO.out
      rw [HLEN.out] at this
      exact this
    | succ gf =>
      obtain ⟨g, cap, x, A', c', hv, hx, hx2, hg, c1, c2, c3⟩ := HR.out.at_ (i := i) (by omega) hB
      simp only [Value.slice.injEq] at hv
      obtain ⟨rfl, -, rfl⟩ := hv
      have hfx : D.files[i]? = some x.1 := by rw [← HRR.out, List.getElem?_map, hx]; rfl
      have htk : (D.files.take (i + 1)).map (fun f => Value.string f.name) = (D.files.take i).map (fun f => Value.string f.name) ++ [.string x.1.name] := by
        rw [List.take_add_one, hfx, List.map_append]; rfl
      have hsz := hB.size
      have hiI : (i : Int) < (rows.length : Int) := by omega
      have hir : i < rows.length := by omega
      have hO1 := World.ownsRow.alloc hown (.cells #[.string x.1.name, .slice A' x.1.b.size c', .int .i64 x.1.safe] 90)
      have hB1 := hB.alloc hB.size (.cells #[.string x.1.name, .slice A' x.1.b.size c', .int .i64 x.1.safe] 90)
      have HTK := Lib.hid htk; have HO1 := Lib.hid hO1; have HB1 := Lib.hid hB1
      clear htk hfx hx hx2 hown hB hO1 hB1
      obtain ⟨w1, hw1⟩ : ∃ w1, w1 = wr.alloc (.cells #[.string x.1.name, .slice A' x.1.b.size c', .int .i64 x.1.safe] 90) := ⟨_, rfl⟩
      have hsz1 : w1.heap.size = wr.heap.size + 1 := by rw [hw1]; simp
      rw [← hw1] at HO1 HB1
      have hbs1 : w.heap.size ≤ w1.heap.size := by omega
      have HW1 := Lib.hid hw1; have HSZ1 := Lib.hid hsz1
      clear hw1 hsz1
      go_wp2_with (at_builtin; refine wpList_app _ w1 rfl (.tmp 23) (.tmp 26) 31 rfl w.heap.size 9 i0 (.string ⟨#[]⟩) 1 16 Tryz.underlying31 HI0.out HZ0.out hz1 hz2 rfl (by decide) (by decide) _ i _ rfl HO1 [.string x.1.name] (congrArg (fun W => World.alloc W (.cells [.string x.1.name].toArray 9)) HW1.out.symm) rfl rfl (wr.heap.size + 1) HSZ1.out rfl (by omega) hbs1 ?_; intro v3 w3 h2 h3 h4; have HO3 := Lib.hid h2.out; have HB3 := Lib.hid h4.out; clear h2 h3 h4)
      go_roundg gf
      case measure => omega
      case rel => exact ⟨i + 1, by go_num, by omega, by rw [HTK.out]; exact HO3.out, HB1.out.trans HB3.out⟩
end Go.Proofs.YthmcimpdehgaoaaGreatDoor
namespace Go.Proofs.YthmcimpdehgaoaaGreatDoor
open Go.RowKit

section
variable [Forb] {w : World} {B p : Nat} {v : Value} {D D' : DiskD} {E : Int} (h : DiskIs w B p v D) (hB : B ≤ w.heap.size)
include h hB
theorem d_appendF (ht : Forb.top ≤ w.heap.size) (hf : Fit D) (hu : D.used ≤ 1000000000000) {name b : ByteArray} {bv : Value} (hbv : BtR w bv b) (hbs : b.size ≤ 1000000000) (hE : D.append name b = (E, D')) :
    Calls Tryz.prog 28 #[.pointer (some ⟨p, 0, none⟩), .string name, bv] w fun e w' => e = .returned (.int .i64 E) ∧ ∃ v1, Out B w w' p v D' v1 :=
  (append_any w B p v D name bv b h ht hB hf hu hbv hbs).mono fun e w' ⟨he, hl⟩ => by rw [hE] at he hl; exact ⟨he, hl.out h hB⟩
theorem d_sync (hf : Fit D) {name : ByteArray} (hE : D.step 0 name name 0 true = (E, D')) :
    Calls Tryz.prog 40 #[.pointer (some ⟨p, 0, none⟩), .string name] w fun e w' => e = .returned (.int .i64 E) ∧ ∃ v1, Out B w w' p v D' v1 :=
  (sync_any w B p v D h hB hf name).mono fun e w' ⟨he, hl⟩ => by rw [hE] at he hl; exact ⟨he, hl.out h hB⟩
theorem d_rename (hf : Fit D) {name dst : ByteArray} (hE : D.step 2 name dst 0 true = (E, D')) :
    Calls Tryz.prog 42 #[.pointer (some ⟨p, 0, none⟩), .string name, .string dst] w fun e w' => e = .returned (.int .i64 E) ∧ ∃ v1, Out B w w' p v D' v1 :=
  (rename_any w B p v D h hB hf name dst).mono fun e w' ⟨he, hl⟩ => by rw [hE] at he hl; exact ⟨he, hl.out h hB⟩
theorem d_remove (hf : Fit D) {name : ByteArray} (hE : D.step 3 name name 0 true = (E, D')) :
    Calls Tryz.prog 45 #[.pointer (some ⟨p, 0, none⟩), .string name] w fun e w' => e = .returned (.int .i64 E) ∧ ∃ v1, Out B w w' p v D' v1 :=
  (remove_any w B p v D h hB hf name).mono fun e w' ⟨he, hl⟩ => by rw [hE] at he hl; exact ⟨he, hl.out h hB⟩
theorem d_crash (hE : { D with off := true, left := -1 } = D') :
    Calls Tryz.prog 20 #[.pointer (some ⟨p, 0, none⟩)] w fun e w' => e = .returned (.tuple #[]) ∧ ∃ v1, Out B w w' p v D' v1 :=
  (crash_any w B p v D h).mono fun e w' ⟨he, hd, hm⟩ => by
    rw [hE] at hd
    exact ⟨he, Leaves.out h hB ⟨v, hd, ⟨hm.os, hm.tape, hm.output, hm.size, fun k hk hkp _ => hm.block k hk hkp (by simp)⟩, own_new (.inl rfl)⟩⟩
theorem d_on0 (hf : Fit D) (hso : ∀ f ∈ D.files, SafeOk f) {A : Option Addr} {c : Nat} {keep : List Int} (hk : Rd w 1 A keep.length (keep.map (Value.int .i64))) (hkp : 0 < keep.length → ∀ ad, A = some ad → ad.block ≠ p) (hkl : keep.length ≤ 100000000) (hE : D.on keep = D') :
    Calls Tryz.prog 19 #[.pointer (some ⟨p, 0, none⟩), .slice A keep.length c] w fun e w' => e = .returned (.tuple #[]) ∧ ∃ v1, Out B w w' p v D' v1 :=
  (on_any w B p v D h A c keep hk hkp hf.len hkl hf.size hso hB).mono fun e w' ⟨he, hl⟩ => by rw [hE] at hl; exact ⟨he, hl.out h hB⟩
theorem d_on (hf : Fit D) (hso : ∀ f ∈ D.files, SafeOk f) {A : Option Addr} {c : Nat} {keep : List Int} (hk : Rd w 1 A keep.length (keep.map (Value.int .i64))) (hkp : ∀ ad, A = some ad → ad.block ≠ p) (hkl : keep.length ≤ 100000000) (hE : D.on keep = D') :
    Calls Tryz.prog 19 #[.pointer (some ⟨p, 0, none⟩), .slice A keep.length c] w fun e w' => e = .returned (.tuple #[]) ∧ ∃ v1, Out B w w' p v D' v1 :=
  d_on0 h hB hf hso hk (fun _ => hkp) hkl hE
omit hB in
theorem d_read (hf : Fit D) {name b : ByteArray} (hE : D.read name = (E, b)) :
    Calls Tryz.prog 35 #[.pointer (some ⟨p, 0, none⟩), .string name] w fun e w' => ∃ bv, e = .returned (.tuple #[bv, .int .i64 E]) ∧ Bt w' bv b ∧ Below w.heap.size w w' :=
  (read_any w B p v D name h (by have := hf.len; omega) hf.size).mono fun e w' ⟨bv, he, hb⟩ => by rw [hE] at he hb; exact ⟨bv, he, hb⟩
omit hB in
theorem d_readO (hf : Fit D) {name b : ByteArray} (hE : D.read name = (E, b)) :
    Calls Tryz.prog 35 #[.pointer (some ⟨p, 0, none⟩), .string name] w fun e w' => ∃ bv, e = .returned (.tuple #[bv, .int .i64 E]) ∧ w'.ownsRow w.heap.size 5 1 bv b.size (ucells b) ∧ Below w.heap.size w w' :=
  (readO_any w B p v D name h (by have := hf.len; omega) hf.size).mono fun e w' ⟨bv, he, hb⟩ => by rw [hE] at he hb; exact ⟨bv, he, hb⟩
end
theorem d_append {w : World} {B p : Nat} {v : Value} {D D' : DiskD} {E : Int} (h : DiskIs w B p v D) (hB : B ≤ w.heap.size) (hf : Fit D) (hu : D.used ≤ 1000000000000) {name b : ByteArray} {bv : Value} (hbv : BtR w bv b) (hbs : b.size ≤ 1000000000) (hE : D.append name b = (E, D')) :
    Calls Tryz.prog 28 #[.pointer (some ⟨p, 0, none⟩), .string name, bv] w fun e w' => e = .returned (.int .i64 E) ∧ ∃ v1, Out B w w' p v D' v1 :=
  d_appendF h hB (Nat.zero_le _) hf hu hbv hbs hE
/-- a block that is new: no file's bytes lie in it -/
@[reducible] def Forb.at (g : Nat) : Forb := ⟨fun k => k = g, g + 1, fun k h e => by omega⟩
theorem DiskIs.toF {F : Forb} {w : World} {B p : Nat} {v : Value} {D : DiskD} (h : @DiskIs Forb.none w B p v D) (hF : ∀ k, F.bad k → w.heap.size ≤ k) : @DiskIs F w B p v D := by
  obtain ⟨h1, h2, rows, h3, h4, h5⟩ := h
  refine ⟨h1, h2, rows, h3, h4, fun x hx => ⟨(h5 x hx).1, fun ad n c e hn hb => ?_⟩⟩
  obtain ⟨A, c', e', _, hr⟩ := (h5 x hx).1
  rw [e] at e'
  simp only [Value.slice.injEq] at e'
  obtain ⟨rfl, rfl, rfl⟩ := e'
  obtain ⟨blk, off, cs, fz, e2, hh, _⟩ := hr hn
  injection e2 with e2
  subst e2
  have h9 : w.heap.size ≤ blk := hF _ hb
  have := (Array.getElem?_eq_some_iff.1 hh).1
  omega
theorem DiskIs.ofF {F : Forb} {w : World} {B p : Nat} {v : Value} {D : DiskD} (h : @DiskIs F w B p v D) : @DiskIs Forb.none w B p v D := by
  obtain ⟨h1, h2, rows, h3, h4, h5⟩ := h
  exact ⟨h1, h2, rows, h3, h4, fun x hx => ⟨(h5 x hx).1, okV_none _⟩⟩
/-- such a block is written: the disk stays -/
theorem DiskIs.wr {F : Forb} {w : World} {B p g k : Nat} {v u : Value} {D : DiskD} (h : @DiskIs F w B p v D) (hg : F.bad g) (hu : ∃ cs fz, w.heap[g]? = some (.cells cs 5 fz)) : @DiskIs F (w.setCell ⟨g, k, none⟩ u) B p v D := by
  obtain ⟨cs0, fz0, hg0⟩ := hu
  have hne : ∀ i, i ≠ g → (w.setCell ⟨g, k, none⟩ u).heap[i]? = w.heap[i]? := fun i hi => Below.heap_setCell w _ u i hi
  have hpg : p ≠ g := fun e => by subst e; exact blk_type h.blk hg0 (by decide)
  obtain ⟨h1, h2, rows, h3, h4, h5⟩ := h
  have hty := own_type h4 (t := 5) (by decide)
  refine ⟨h1, (hne p hpg).trans h2, rows, h3, ⟨h4.1, ?_⟩, fun x hx => ⟨?_, (h5 x hx).2⟩⟩
  · rcases h4.2 with hn | ⟨g', cap, cur, hv, hb, hh, rest⟩
    · exact .inl hn
    · exact .inr ⟨g', cap, cur, hv, hb, (hne g' (fun e => by subst e; exact hty g' (by rw [hv]; rfl) _ _ hg0)).trans hh, rest⟩
  · obtain ⟨hb, ho⟩ := h5 x hx
    obtain ⟨A, c, e, hc, hr⟩ := hb
    refine ⟨A, c, e, hc, fun hs => ?_⟩
    obtain ⟨blk, off, cs, fz, e2, hh, hx2⟩ := hr hs
    exact ⟨blk, off, cs, fz, e2, (hne blk (fun e3 => ho ⟨blk, off, none⟩ _ c (by rw [e, e2]) hs (by rw [e3]; exact hg))).trans hh, hx2⟩
/-- a slice of bytes, written out -/
theorem bt_lit (w : World) (s : ByteArray) (g : Nat) (hg : w.heap.size = g) : Bt (w.alloc (.cells (ucells s).toArray 5)) (.slice (some ⟨g, 0, none⟩) s.size s.size) s := by
  subst hg
  refine ⟨_, _, rfl, Nat.le_refl _, fun _ => ⟨w.heap.size, 0, (ucells s).toArray, (0, 0), rfl, heap_alloc_new w _, fun j hj => ?_⟩⟩
  rw [Nat.zero_add, List.getElem?_toArray]
  exact ucells_at s j hj
theorem bytesLess_self (l : List UInt8) : Op.bytesLess l l = false := by
  induction l with
  | nil => rfl
  | cons c l ih => rw [Op.bytesLess]; simp [ih]
theorem cmpN_self (t : ByteArray) : cmpN t t = 0 := by
  unfold cmpN lessN
  rw [bytesLess_self]; simp
theorem findN_one (t : ByteArray) : findN [t] t = (0, true) := by
  have h : bsGo [t] t 1 0 1 = 0 := by
    rw [bsGo]
    simp [cmpN_self, bsGo]
  unfold findN
  simp [h, cmpN_self]
theorem findN_nil (t : ByteArray) : findN [] t = (0, false) := rfl
section
variable {t b b0 : ByteArray} {q n s : Int} (ht : badN t = false)
include ht
theorem one_asked (L : List FileD) (left : Int) : (⟨L, q, n, left, false⟩ : DiskD).asked [t] = 0 := by simp [DiskD.asked, ht]
theorem one_asked2 (L : List FileD) (left : Int) : (⟨L, q, n, left, false⟩ : DiskD).asked [t, t] = 0 := by simp [DiskD.asked, ht]
theorem nil_append (hb : b.size ≤ 8388608) (hq : (b.size : Int) ≤ q) : (⟨[], q, n, -1, false⟩ : DiskD).append t b = (0, ⟨[⟨t, b, -1⟩], q, n + 1, -1, false⟩) := by
  have hat : (⟨[], q, n, -1, false⟩ : DiskD).at_ t = none := rfl
  unfold DiskD.append
  rw [one_asked ht, if_neg (by simp)]
  have hw : (⟨[], q, n, -1, false⟩ : DiskD).was t = ⟨t, ByteArray.empty, -1⟩ := by unfold DiskD.was; rw [hat]
  rw [hw, if_neg (by simp; omega), if_neg (by simp [DiskD.used, usedL]; omega)]
  unfold DiskD.put
  rw [hw]
  simp [findN_nil, putL, DiskD.power]
omit ht in
theorem one_at (L : Int) : (⟨[⟨t, b0, s⟩], q, n, L, false⟩ : DiskD).at_ t = some (0, ⟨t, b0, s⟩) := by
  unfold DiskD.at_
  simp [findN_one]
theorem one_append (hb : b0.size + b.size ≤ 8388608) (hq : (b0.size : Int) + b.size ≤ q) : (⟨[⟨t, b0, s⟩], q, n, -1, false⟩ : DiskD).append t b = (0, ⟨[⟨t, b0 ++ b, s⟩], q, n + 1, -1, false⟩) := by
  unfold DiskD.append
  rw [one_asked ht, if_neg (by simp)]
  have hw : (⟨[⟨t, b0, s⟩], q, n, -1, false⟩ : DiskD).was t = ⟨t, b0, s⟩ := by unfold DiskD.was; rw [one_at]
  rw [hw, if_neg (by show ¬ (8388608 : Int) < (b0.size : Int) + (b.size : Int); omega), if_neg (by simp [DiskD.used, usedL]; omega)]
  unfold DiskD.put
  rw [hw]
  simp [findN_one, putL, DiskD.power]
theorem one_sync : (⟨[⟨t, b0, s⟩], q, n, -1, false⟩ : DiskD).step 0 t t 0 true = (0, ⟨[⟨t, b0, b0.size⟩], q, n + 1, -1, false⟩) := by
  unfold DiskD.step
  rw [one_asked2 ht, if_neg (by simp), one_at]
  simp [DiskD.power, doesL]
theorem one_read : (⟨[⟨t, b0, s⟩], q, n, -1, false⟩ : DiskD).read t = (0, b0) := by
  unfold DiskD.read
  rw [one_asked ht, if_neg (by simp)]
  simp [findN_one]
omit ht in
theorem one_on (f : FileD) (k : Option Int) (ks : List Int) (hk : ks.head? = k) (hs : 0 ≤ f.safe) : (⟨[f], q, n, -1, true⟩ : DiskD).on ks = ⟨[⟨f.name, f.b.extract 0 (keptN f k), keptN f k⟩], q, n, -1, false⟩ := by
  unfold DiskD.on
  rw [if_pos rfl]
  simp only [onGo, List.append_nil]
  rw [hk]
  unfold keptL
  rw [if_pos (.inr (by omega))]
omit ht in
theorem off_read (L : List FileD) : (⟨L, q, n, -1, true⟩ : DiskD).read t = (160, ByteArray.empty) := by
  unfold DiskD.read DiskD.asked
  simp
end
theorem fit_small {L : List FileD} {q n : Int} {o : Bool} {left : Int} (hl : L.length ≤ 100000000) (hb : ∀ f ∈ L, f.b.size ≤ 1000000000) (hn : 0 ≤ n) (hn2 : n ≤ 1000000) (hf : -1 ≤ left) (hf2 : left ≤ 1000000) : Fit ⟨L, q, n, left, o⟩ :=
  ⟨hl, hb, by show n < _; omega, hn, hf, by show left ≤ _; omega⟩
end Go.Proofs.YthmcimpdehgaoaaGreatDoor
