/- slices.Insert of one file, anywhere in the row. -/
import Derived.Test.YtmgnpcoihehelaaDiskP
namespace Go.Proofs.Ytmgnpcoihehelaa
open Go.RowKit

theorem Moved.grown_ {w w' : World} {g : Nat} (h : Moved w w' g none) : w.grownBy w' (some g) := ⟨h.os, h.tape, h.output, h.size, fun i hi hne => h.block i hi (fun e => hne (by rw [e])) (by simp)⟩
theorem rcells_mid (rows : List (FileD × Value)) (i : Nat) (y : FileD × Value) : rcells (rows.take i ++ y :: rows.drop i) = rcells (rows.take i) ++ fcells y ++ rcells (rows.drop i) := by
  simp [rcells]
theorem lay_shift (cur : Array Value) (cap i n : Nat) (T D fy : List Value) (hc : cur.size = cap * 3) (hT : cur.toList.take (i * 3) = T) (hTl : T.length = i * 3) (hD : D.length = (n - i) * 3) (hf : fy.length = 3) (hi : i < n) (hr : n + 1 ≤ cap) :
    (layS (layS cur ((i + 1) * 3) D) (i * 3) fy).size = cap * 3 ∧ (layS (layS cur ((i + 1) * 3) D) (i * 3) fy).toList.take ((n + 1) * 3) = T ++ fy ++ D := by
  have hs : (layS cur ((i + 1) * 3) D).size = cap * 3 := by rw [layS_size, hc]
  have hcl : cur.toList.length = cap * 3 := by rw [Array.length_toList, hc]
  refine ⟨by rw [layS_size, hs], ?_⟩
  rw [layS_list _ _ _ (by rw [hs, hf]; omega), layS_list _ _ _ (by rw [hc, hD]; omega)]
  have h1 : (cur.toList.take ((i + 1) * 3) ++ D ++ cur.toList.drop ((i + 1) * 3 + D.length)).take (i * 3) = T := by
    rw [List.append_assoc, List.take_append_of_le_length (by rw [List.length_take, hcl]; omega), List.take_take, ← hT]
    congr 1; omega
  have h2 : (cur.toList.take ((i + 1) * 3) ++ D ++ cur.toList.drop ((i + 1) * 3 + D.length)).drop (i * 3 + fy.length) = D ++ cur.toList.drop ((i + 1) * 3 + D.length) := by
    rw [List.append_assoc]
    have : i * 3 + fy.length = (cur.toList.take ((i + 1) * 3)).length := by rw [List.length_take, hcl, hf]; omega
    rw [this, List.drop_left]
  rw [h1, h2, ← List.append_assoc]
  have h3 : (n + 1) * 3 = (T ++ fy ++ D).length := by rw [List.length_append, List.length_append, hTl, hf, hD]; omega
  rw [h3, List.take_left]
theorem lay_grow (cap i n : Nat) (T D fy : List Value) (zs : Array Value) (hz : zs.size = (cap - i) * 3) (hTl : T.length = i * 3) (hD : D.length = (n - i) * 3) (hf : fy.length = 3) (hi : i < n) (hr : n + 1 ≤ cap) :
    (layS (layS (T.toArray ++ zs) (i * 3) fy) ((i + 1) * 3) D).size = cap * 3 ∧ (layS (layS (T.toArray ++ zs) (i * 3) fy) ((i + 1) * 3) D).toList.take ((n + 1) * 3) = T ++ fy ++ D := by
  have hs0 : (T.toArray ++ zs).size = cap * 3 := by rw [Array.size_append, List.size_toArray, hTl, hz]; omega
  have hs : (layS (T.toArray ++ zs) (i * 3) fy).size = cap * 3 := by rw [layS_size, hs0]
  refine ⟨by rw [layS_size, hs], ?_⟩
  rw [layS_list _ _ _ (by rw [hs, hD]; omega), layS_list _ _ _ (by rw [hs0, hf]; omega)]
  have h0 : (T.toArray ++ zs).toList = T ++ zs.toList := by simp
  have h1 : (T.toArray ++ zs).toList.take (i * 3) = T := by rw [h0, ← hTl, List.take_left]
  rw [h1]
  have h2 : (T ++ fy ++ (T.toArray ++ zs).toList.drop (i * 3 + fy.length)).take ((i + 1) * 3) = T ++ fy := by
    have : (i + 1) * 3 = (T ++ fy).length := by rw [List.length_append, hTl, hf]; omega
    rw [this, List.take_left]
  rw [h2]
  have h3 : (n + 1) * 3 = (T ++ fy ++ D).length := by rw [List.length_append, List.length_append, hTl, hf, hD]; omega
  rw [h3, List.take_left]
theorem insert_any (w : World) (base : Nat) (v : Value) (rows : List (FileD × Value)) (i : Nat) (y : FileD × Value) (vb c : Nat) (h : RowD w base v rows) (hi : i ≤ rows.length) (hl : rows.length ≤ 1000000000) (hbase : base ≤ w.heap.size)
    (hvb : Blk w vb 61 (fcells y).toArray) (hne : v.ownBlock ≠ some vb) (hyb : Bt w y.2 y.1.b) :
    Calls Try.prog 29 #[v, .int .i64 i, .slice (some ⟨vb, 0, none⟩) 1 c] w fun e w' =>
      ∃ v', e = .returned v' ∧ RowD w' base v' (rows.take i ++ y :: rows.drop i) ∧ w.grownBy w' v.ownBlock ∧ (v'.ownBlock = v.ownBlock ∨ v'.ownBlock = some w.heap.size) := by
  have hbts : ∀ x ∈ rows.take i ++ y :: rows.drop i, Bt w x.2 x.1.b := by
    intro x hx
    rcases List.mem_append.1 hx with hx | hx
    · exact h.2 x (List.mem_of_mem_take hx)
    · rcases List.mem_cons.1 hx with rfl | hx
      · exact hyb
      · exact h.2 x (List.mem_of_mem_drop hx)
  rcases Nat.eq_or_lt_of_le hi with rfl | hi
  · have hrd : Rd w 3 (some ⟨vb, 0, none⟩) 1 (fcells y) := by
      refine ⟨rfl, fun _ => ⟨_, rfl, hvb.lt, fun j u hj => ?_⟩⟩
      have h2 : w.cell? ⟨vb, j, none⟩ = some u := by rw [hvb.cell, List.getElem?_toArray]; exact hj
      unfold Addr.add
      split
      · rename_i h0; subst h0; exact h2
      · rw [Nat.zero_add]; exact h2
    have := insert_end w base v rows y ⟨vb, 0, none⟩ c h hl hbase hrd hyb
    rw [List.take_length, List.drop_length]
    exact this
  · have hdl : (rcells (rows.drop i)).length = (rows.length - i) * 3 := by rw [rcells_length, List.length_drop]
    have htl : (rcells (rows.take i)).length = i * 3 := by rw [rcells_length, List.length_take]; congr 1; omega
    have hnl : (rows.take i ++ y :: rows.drop i).length = rows.length + 1 := by
      rw [List.length_append, List.length_cons, List.length_take, List.length_drop]; omega
    rcases h.1.2 with ⟨hv, h0⟩ | ⟨g, cap, cur, rfl, hg, hh, hcap, hmx, hcs, htk⟩
    · omega
    · have hblk : Blk w g 61 cur := hh
      have hvg : vb ≠ g := fun e => hne (by subst e; rfl)
      have hT : cur.toList.take (i * 3) = rcells (rows.take i) := by
        rw [← rcells_take rows i (by omega), ← htk, List.take_take]
        congr 1; omega
      have hpre : ∀ w' g', w.grownBy w' g' → (∀ k, g' = some k → k = g) → ∀ x ∈ rows.take i ++ y :: rows.drop i, Bt w' x.2 x.1.b := fun w' g' hgr hk x hx =>
        (hbts x hx).keep fun blk cs fz hb => hgr.block blk (Array.getElem?_eq_some_iff.1 hb).1 (fun e => by
          have := hk blk e.symm
          subst this
          exact blk_type hh hb (by decide))
      by_cases hroom : rows.length + 1 ≤ cap
      · refine (insert_shift w base g cap rows i y vb c h hi hroom hvb hvg hyb).mono ?_
        rintro e w' ⟨rfl, rfl⟩
        have hgr : w.grownBy ((w.drew.setCells g ((i + 1) * 3) (rcells (rows.drop i))).setCells g (i * 3) (fcells y)) (some g) := by
          have h0 : Moved w w.drew g none := ⟨rfl, rfl, rfl, Nat.le_refl _, fun _ _ _ _ => rfl⟩
          exact ((h0.trans (Moved.setCells g _ _ _) (.inl rfl)).trans (Moved.setCells g _ _ _) (.inl rfl)).grown_
        obtain ⟨h1, h2⟩ := lay_shift cur cap i rows.length _ _ (fcells y) hcs hT htl hdl rfl hi hroom
        refine ⟨_, rfl, ⟨⟨by rw [rcells_length], .inr ⟨g, cap, _, by rw [hnl], hg, (hblk.drew.setCells _ _).setCells _ _, by omega, hmx, h1, by rw [hnl, rcells_mid]; exact h2⟩⟩, hpre _ _ hgr (fun k hk => by injection hk with hk; exact hk.symm)⟩, hgr, .inl rfl⟩
      · refine (insert_grow w base g cap rows i y vb c h hi (by omega) hl hvb hyb).mono ?_
        rintro e w' ⟨nc, zs, rfl, hn1, hn2, hzl, rfl⟩
        have hgr : w.grownBy (((w.drew.alloc (.cells ((rcells (rows.take i)).toArray ++ zs) 61)).setCells w.heap.size (i * 3) (fcells y)).drew.setCells w.heap.size ((i + 1) * 3) (rcells (rows.drop i))) (some g) := by
          have h0 : Below w.heap.size w (w.drew.alloc (.cells ((rcells (rows.take i)).toArray ++ zs) 61)) := ((Below.refl w.heap.size w).drew).alloc (Nat.le_refl _) _
          have h1 := (Moved.of_below h0 w.heap.size none).trans (Moved.setCells w.heap.size (fcells y) (i * 3) _) (.inl rfl)
          have h2 : Moved _ ((w.drew.alloc (.cells ((rcells (rows.take i)).toArray ++ zs) 61)).setCells w.heap.size (i * 3) (fcells y)).drew w.heap.size none := ⟨h1.os, h1.tape, h1.output, h1.size, h1.block⟩
          have h3 := h2.trans (Moved.setCells w.heap.size (rcells (rows.drop i)) ((i + 1) * 3) _) (.inl rfl)
          exact ⟨h3.os, h3.tape, h3.output, h3.size, fun k hk _ => h3.block k hk (by omega) (by simp)⟩
        obtain ⟨h1, h2⟩ := lay_grow nc i rows.length _ _ (fcells y) zs hzl htl hdl rfl hi hn1
        have hb0 : Blk (w.drew.alloc (.cells ((rcells (rows.take i)).toArray ++ zs) 61)) w.heap.size 61 ((rcells (rows.take i)).toArray ++ zs) := Blk.new w.drew _ _
        refine ⟨_, rfl, ⟨⟨by rw [rcells_length], .inr ⟨w.heap.size, nc, _, by rw [hnl], hbase, (hb0.setCells _ _).drew.setCells _ _, by omega, hn2, h1, by rw [hnl, rcells_mid]; exact h2⟩⟩, hpre _ _ hgr (fun k hk => by injection hk with hk; exact hk.symm)⟩, hgr, .inr rfl⟩
end Go.Proofs.Ytmgnpcoihehelaa
