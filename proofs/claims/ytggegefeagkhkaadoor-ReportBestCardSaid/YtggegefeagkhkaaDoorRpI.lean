/- The program reads what may be a report, or gives up. -/
import Derived.Test.YtggegefeagkhkaaDoorRpH
import Derived.Deep.RegionHeld3
import Derived.TacticsInMore
namespace Go.Proofs.YtggegefeagkhkaaDoor
open Go.RowKit

theorem infoI64 : (Tryd.prog.info? 2).map (fun i => (i.zero, i.size, i.bytes)) = some (some (.int .i64 0), 1, 8) := by kernel_rfl
/-- what read hands back: a guess, or a panic -/
def ReadP (w : World) (o : Option (Int × Int × List Int)) (e : Ending) (w' : World) : Prop :=
  Below w.heap.size w w' ∧ match o with
  | none => e = .panicked errC
  | some (k, st, vs) => ∃ A c, e = .returned (.tuple #[.int .u8 k, .int .i64 st, .slice A vs.length c]) ∧ w'.ownsRow w.heap.size 2 1 (.slice A vs.length c) vs.length (vs.map (Value.int .i64))
theorem readP_no {w w' : World} {o : Option (Int × Int × List Int)} {e : Ending} (h : o = none) (hb : Below w.heap.size w w') (he : e = .panicked errC) : ReadP w o e w' := by subst h; exact ⟨hb, he⟩
theorem run_fromto {P : Program} {t e : TypeId} {ti : TypeInfo} (ht : P.underlying t = some (.slice e)) (hi : P.info? e = some ti) (h1 : ti.size = 1) (A : Option Addr) (n c i j : Nat) (hij : i ≤ j) (hj : j ≤ c) (w : World) :
    (Instr.sliceAt t (.slice A n c) (some (.int .i64 (i : Int))) (some (.int .i64 (j : Int))) none).run P w = .ok (.slice (if c = i then A else A.map (·.add i)) (j - i) (c - i)) w := by
  have he : P.elem t = e := by unfold Program.elem; rw [ht]
  rw [run_sliceAt_slice w _ _ _ _ _ (by rw [he]; exact ht), run_slice_lh w t A n c (by rw [he]; exact ht) .i64 .i64 i j (by omega) (by omega) (by omega)]
  simp [he, sizeOf, typeInfo, hi, sliced, h1, Result.andThen]
theorem words_own2 {w : World} {Bw : Nat} {Aw : Option Addr} {cw k : Nat} {ws : List ByteArray} (h : w.ownsRow Bw 9 1 (.slice Aw k cw) k (ws.map Value.string)) (h0 : 0 < k) : ∃ b cs, Aw = some ⟨b, 0, none⟩ ∧ b < w.heap.size ∧ w.heap[b]? = some (.cells cs 9 (0, 0)) ∧ ∀ i s, ws[i]? = some s → w.cell? ⟨b, i, none⟩ = some (.string s) := by
  rcases h.2 with ⟨_, h1⟩ | ⟨g, cap, cur, hv, _, hg, _⟩
  · omega
  · have hA : Aw = some ⟨g, 0, none⟩ := by injection hv
    subst hA
    refine ⟨g, cur, rfl, (Array.getElem?_eq_some_iff.1 hg).1, hg, fun i s hs => ?_⟩
    have := h.cells (g := g) rfl i (.string s) (by rw [List.getElem?_map, hs]; rfl)
    unfold Addr.add at this
    split at this
    · rename_i h; subst h; exact this
    · simpa using this
/-- the words of a line, as they are laid -/
theorem split_exact (w : World) (s : ByteArray) (hs : s.size < 4294967281) (hG : Gl w) :
    Calls Tryd.prog 41 #[.string s, .string ⟨#[32]⟩] w fun e w' => e = .returned (.slice (some ⟨w.heap.size, 0, none⟩) (spB s).length (spB s).length) ∧ w' = w.alloc (.cells ((spB s).map Value.string).toArray 9) := by
  obtain ⟨m, hm⟩ := hG.mx
  refine (Tryd.strings_Split s ⟨#[32]⟩ m w hs hm (by decide)).mono ?_
  rintro e w' ⟨he, rfl⟩
  rw [split_spB]
  exact ⟨by rw [he, split_len], rfl⟩
/-- the place of a kind's word, one more -/
theorem idx_kind (a : ByteArray) : Lib.idxOfS ([ba wRank, ba wLabel, ba wPaths].take 3) a = kindN a.data.toList - 1 := by
  have e1 : ∀ l : List UInt8, ba l = a ↔ l = a.data.toList := fun l => ⟨fun h => by rw [← h, ba_toList], fun h => by rw [h, ba_of]⟩
  by_cases h1 : ba wRank = a
  · rw [Lib.idxOfS_hit [ba wRank, ba wLabel, ba wPaths] 3 0 a (by decide) (by decide) h1 (fun j hj => by omega)]
    rw [← (e1 _).1 h1]; decide
  by_cases h2 : ba wLabel = a
  · rw [Lib.idxOfS_hit [ba wRank, ba wLabel, ba wPaths] 3 1 a (by decide) (by decide) h2 (by
      intro j hj
      obtain rfl : j = 0 := by omega
      exact h1)]
    rw [← (e1 _).1 h2]; decide
  by_cases h3 : ba wPaths = a
  · rw [Lib.idxOfS_hit [ba wRank, ba wLabel, ba wPaths] 3 2 a (by decide) (by decide) h3 (fun j hj => by
      rcases (show j = 0 ∨ j = 1 by omega) with rfl | rfl
      · exact h1
      · exact h2)]
    rw [← (e1 _).1 h3]; decide
  · rw [Lib.idxOfS_miss [ba wRank, ba wLabel, ba wPaths] 3 a (fun j hj => by
      rcases (show j = 0 ∨ j = 1 ∨ j = 2 by omega) with rfl | rfl | rfl
      · exact h1
      · exact h2
      · exact h3)]
    have n1 : a.data.toList ≠ wRank := fun e => h1 ((e1 _).2 e.symm)
    have n2 : a.data.toList ≠ wLabel := fun e => h2 ((e1 _).2 e.symm)
    have n3 : a.data.toList ≠ wPaths := fun e => h3 ((e1 _).2 e.symm)
    unfold kindN
    rw [if_neg n1, if_neg n2, if_neg n3]; rfl
theorem kindN_bd (a : List UInt8) : 0 ≤ kindN a ∧ kindN a ≤ 3 := by unfold kindN; (repeat' split) <;> decide
theorem index_kind (w : World) (hG : Gl w) (a : ByteArray) (c : Nat) :
    Calls Tryd.prog 42 #[.slice (some ⟨0, 1, none⟩) 3 c, .string a] w fun e w' => e = .returned (.int .i64 (kindN a.data.toList - 1)) ∧ w' = w := by
  have := Tryd.slices_Index_string 0 1 3 c [ba wRank, ba wLabel, ba wPaths] a w (by decide) (by decide) (fun j hj => by
    have hj3 : j < 3 := hj
    rcases (show j = 0 ∨ j = 1 ∨ j = 2 by omega) with rfl | rfl | rfl
    · exact hG.kinds 1 _ rfl
    · exact hG.kinds 2 _ rfl
    · exact hG.kinds 3 _ rfl)
  rwa [idx_kind] at this
/-- guesses, as far as they are made -/
theorem gP_nil : guessP [] = none := rfl
theorem gP_head {h : List UInt8} {rest : List (List UInt8)} (hh : headP rest (sp 32 h []) = none) : guessP (h :: rest) = none := by rw [guessP, hh]
theorem hP_len {rest ws : List (List UInt8)} (h : ws.length ≠ 3) : headP rest ws = none := by
  match ws, h with
  | [], _ => rfl
  | [_], _ => rfl
  | [_, _], _ => rfl
  | [_, _, _], h => exact absurd rfl h
  | _ :: _ :: _ :: _ :: _, _ => rfl
theorem hP_n {rest : List (List UInt8)} {a b c : List UInt8} (h : ∀ n, numL b = some n → 512 < n) : headP rest [a, b, c] = none := by
  rw [headP]
  cases hb : numL b with
  | none => rfl
  | some n =>
    cases hc : numL c with
    | none => rfl
    | some st => exact if_neg fun h' => by have := h n hb; omega
theorem hP_st {rest : List (List UInt8)} {a b c : List UInt8} (h : ∀ n, numL c = some n → 2000 < n) : headP rest [a, b, c] = none := by
  rw [headP]
  cases hb : numL b with
  | none => rfl
  | some n =>
    cases hc : numL c with
    | none => rfl
    | some st => exact if_neg fun h' => by have := h st hc; omega
theorem hP_some {rest : List (List UInt8)} {a b c : List UInt8} {n st : Int} (hb : numL b = some n) (hc : numL c = some st) : headP rest [a, b, c] = if n ≤ 512 ∧ st ≤ 2000 ∧ 0 < kindN a ∧ n ≤ (rest.length : Int) then some (kindN a, st, n.toNat) else none := by
  rw [headP, hb, hc]
theorem gP_vals {h : List UInt8} {rest : List (List UInt8)} {k st : Int} {n : Nat} (hh : headP rest (sp 32 h []) = some (k, st, n)) : guessP (h :: rest) = (valsP (rest.take n)).map fun vs => (k, st, vs) := by rw [guessP, hh]
theorem valsP_snoc : ∀ (l : List (List UInt8)) (x : List UInt8), valsP (l ++ [x]) = match valsP l, valP x with
    | some vs, some v => some (vs ++ [v])
    | _, _ => none := by
  intro l
  induction l with
  | nil =>
    intro x
    have e : valsP [x] = match valP x, some [] with
      | some x, some xs => some (x :: xs)
      | _, _ => none := rfl
    rw [List.nil_append, e]
    cases valP x <;> rfl
  | cons a l ih =>
    intro x
    rw [List.cons_append, valsP, valsP, ih x]
    cases valP a <;> cases valsP l <;> cases valP x <;> rfl
theorem valsP_none : ∀ (l m : List (List UInt8)), valsP l = none → valsP (l ++ m) = none := by
  intro l m
  induction l with
  | nil => intro h; cases h
  | cons a l ih =>
    intro h
    rw [valsP] at h
    rw [List.cons_append, valsP]
    cases ha : valP a with
    | none => rfl
    | some x =>
      cases hl : valsP l with
      | none => rw [ih hl]
      | some xs => rw [ha, hl] at h; cases h
theorem valsP_stop {l : List (List UInt8)} {n i : Nat} {x : List UInt8} (hx : l[i]? = some x) (hi : i < n) (h : valP x = none) : valsP (l.take n) = none := by
  have h1 : valsP (l.take (i + 1)) = none := by
    rw [List.take_add_one, hx]
    show valsP (l.take i ++ [x]) = none
    rw [valsP_snoc, h]
    cases valsP (l.take i) <;> rfl
  have h2 : l.take n = l.take (i + 1) ++ (l.take n).drop (i + 1) := by
    have h3 := (List.take_append_drop (i + 1) (l.take n)).symm
    rw [List.take_take, Nat.min_eq_left (by omega)] at h3
    exact h3
  rw [h2]
  exact valsP_none _ _ h1
theorem valsP_step {l : List (List UInt8)} {i : Nat} {x : List UInt8} {xs : List Int} {v : Int} (hx : l[i]? = some x) (h : valsP (l.take i) = some xs) (hv : valP x = some v) : valsP (l.take (i + 1)) = some (xs ++ [v]) := by
  rw [List.take_add_one, hx]
  show valsP (l.take i ++ [x]) = _
  rw [valsP_snoc, h, hv]
theorem spB_sp {s : ByteArray} {ws : List ByteArray} (h : spB s = ws) : sp 32 s.data.toList [] = ws.map (·.data.toList) := by
  rw [← h]
  unfold spB
  rw [List.map_map]
  have : ((fun x : ByteArray => x.data.toList) ∘ ba) = id := funext fun x => ba_toList x
  rw [this, List.map_id]
theorem valP_short {s : ByteArray} (h : (spB s).length < 2) : valP s.data.toList = none := by
  unfold valP
  rcases hq : spB s with _ | ⟨a, _ | ⟨b, r⟩⟩
  · rw [spB_sp hq]; rfl
  · rw [spB_sp hq]; rfl
  · rw [hq] at h; simp at h; omega
theorem valP_of {s : ByteArray} {a b : ByteArray} {r : List ByteArray} (h : spB s = a :: b :: r) : valP s.data.toList = if b.data.toList = [45] then some topI else numL b.data.toList := by
  unfold valP
  rw [spB_sp h]
  rfl
theorem readP_yes {w w' : World} {o : Option (Int × Int × List Int)} {e : Ending} {k st : Int} {vs : List Int} {A : Option Addr} {c : Nat} (h : o = some (k, st, vs)) (hb : Below w.heap.size w w') (he : e = .returned (.tuple #[.int .u8 k, .int .i64 st, .slice A vs.length c])) (hr : w'.ownsRow w.heap.size 2 1 (.slice A vs.length c) vs.length (vs.map (Value.int .i64))) : ReadP w o e w' := by subst h; exact ⟨hb, A, c, he, hr⟩
/-- the state of the loop -/
structure RSt (w wr : World) (b : Nat) (cs : Array Value) (rest : List (List UInt8)) (v : Value) (i : Nat) (xs : List Int) : Prop where
  below : Below w.heap.size w wr
  lines : Blk wr b 9 cs
  own : wr.ownsRow w.heap.size 2 1 v i (xs.map (Value.int .i64))
  vals : valsP (rest.take i) = some xs
  len : xs.length = i
theorem RSt.on {w wr w' : World} {b : Nat} {cs : Array Value} {rest : List (List UInt8)} {v : Value} {i : Nat} {xs : List Int} (h : RSt w wr b cs rest v i xs) (hb : Below wr.heap.size wr w') : RSt w w' b cs rest v i xs :=
  ⟨h.below.trans (hb.mono h.below.size), h.lines.below hb h.lines.lt, own_below2 h.own hb, h.vals, h.len⟩
theorem RSt.app {w wr w' : World} {b : Nat} {cs : Array Value} {rest : List (List UInt8)} {v v' : Value} {i : Nat} {xs : List Int} {x : Int} {l : List UInt8} (h : RSt w wr b cs rest v i xs) (hl : rest[i]? = some l) (hv : valP l = some x)
    (ho : w'.ownsRow w.heap.size 2 1 v' (i + 1) (xs.map (Value.int .i64) ++ [.int .i64 x])) (hg : (wr.alloc (.cells #[.int .i64 x] 2)).grownBy w' v.ownBlock) (hb : Below w.heap.size wr w') : RSt w w' b cs rest v' (i + 1) (xs ++ [x]) := by
  refine ⟨h.below.trans hb, (h.lines.alloc _).grown hg (fun e => ?_), by rw [List.map_append]; exact ho, valsP_step hl h.vals hv, by rw [List.length_append, h.len]; rfl⟩
  exact own_blk_ne h.own h.lines (by decide) e.symm
set_option maxRecDepth 100000 in
set_option maxHeartbeats 8000000 in
theorem read_any (w : World) (hG : Gl w) (s : ByteArray) (hs : s.size ≤ 262144) :
    Calls Tryd.prog 21 #[.string s] w (ReadP w (guessP ((linesP s).map (·.data.toList)))) := by
  obtain ⟨i0, hi0, hz0, hz1, hz2⟩ := info_parts infoI64
  obtain ⟨j0, hj0, -, hj1, -⟩ := info_parts info9
  have HI0 := Lib.hid hi0; have HZ0 := Lib.hid hz0; have HJ0 := Lib.hid (And.intro hj0 hj1)
  have hsm : ∀ x ∈ linesP s, x.size ≤ 262144 := fun x hx => Nat.le_trans (linesP_small hx) hs
  have HL := Lib.hid (linesP_any s w (by omega))
  have HYES := Lib.hid need_yes; have HNO := Lib.hid need_no
  have HG := Lib.hid hG
  obtain ⟨ls, hls⟩ : ∃ ls, linesP s = ls := ⟨_, rfl⟩
  rw [hls] at HL hsm ⊢
  have hfew : ls.length ≤ 300000 := by
    rw [← hls, linesP_eq, List.length_map]
    have h1 := lin_size s.data.toList []
    have h2 : ∀ l : List (List UInt8), l.length ≤ (l.map fun g => g.length + 1).sum := fun l => by
      induction l with
      | nil => simp
      | cons a l ih => simp at ih ⊢; omega
    have h3 := h2 (lin s.data.toList [])
    simp at h1
    omega
  have HSM := Lib.hid hsm
  clear hls hsm hG hi0 hz0 hj0 hj1
  obtain ⟨Gs, hgs⟩ : ∃ Gs, guessP (ls.map (·.data.toList)) = Gs := ⟨_, rfl⟩
  rw [hgs]
  have HGS := Lib.hid hgs
  clear hgs
  go_enter Tryd.func21, Tryd.ntmps21
  go_wp2_with fail
  refine HL.out.mono ?_
  clear HL
  rintro e w1 ⟨vl, rfl, hol, hb1⟩
  obtain ⟨Al, cl, rfl, hcl⟩ := own_parts hol
  cases ls with
  | nil =>
    have HB1 := Lib.hid hb1
    clear hol hb1
    simp only [List.length_nil]
    go_wp2_with fail
    refine (HNO.out _).mono ?_
    rintro e w2 ⟨rfl, rfl⟩
    exact ⟨rfl, readP_no HGS.out.symm HB1.out rfl⟩
  | cons h rest =>
    obtain ⟨b, cs, rfl, hbs, hbk, hcell⟩ := words_own2 hol (by simp)
    have hc0 := hcell 0 h rfl
    have HCS := Lib.hid (show ∀ i x, rest[i]? = some x → cs[i + 1]? = some (.string x) from fun i x hx => by
      have h1 := hcell (i + 1) x (by rw [List.getElem?_cons_succ]; exact hx)
      rw [Blk.cell (show Blk w1 b 9 cs from hbk)] at h1
      exact h1)
    have hc0l := hbs
    have hb1G := HG.out.below hb1
    have hhs := HSM.out h (by simp)
    have HSP := Lib.hid (fun (W : World) (hW : Below w1.heap.size w1 W) => split_exact W h (by omega) (hb1G.below hW))
    have HC := Lib.hid hcell; have HBK := Lib.hid (show Blk w1 b 9 cs from hbk); have HB1 := Lib.hid hb1
    obtain ⟨N, hN⟩ : ∃ N : Nat, (h :: rest).length = N := ⟨_, rfl⟩
    have hN1 : rest.length + 1 = N := by rw [← hN]; simp
    rw [hN] at hcl hfew ⊢
    have hNd : decide ((0 : Int) < (N : Int)) = true := by simp; omega
    have hN0 : (0 : Int) < (N : Int) := by omega
    have hNn : 0 < N := by omega
    have HNN := Lib.hid hN1; have HCL := Lib.hid hcl
    clear hol hb1 hcell hbk hb1G hN hN1 hcl
    go_wp2_with fail
    refine (HYES.out _).mono ?_
    rintro e w2 ⟨rfl, rfl⟩
    go_wp2_with fail
    refine (HSP.out _ (Below.refl _ _)).mono ?_
    rintro e w2 ⟨rfl, rfl⟩
    have hk2 := Blk.new w1 9 ((spB h).map Value.string).toArray
    have hBA := (Below.refl w1.heap.size w1).alloc (Nat.le_refl _) (.cells ((spB h).map Value.string).toArray 9)
    have hspl := fun x (hx : x ∈ spB h) => Nat.le_trans (spB_small hx) hhs
    by_cases h3 : (spB h).length = 3
    case neg =>
      have hb : (((spB h).length : Int) == 3) = false := by simp; omega
      have HFIN := Lib.hid (show Gs = none from HGS.out.symm.trans (gP_head (hP_len (by rw [spB_sp rfl, List.length_map]; exact h3))))
      have HBX := Lib.hid (HB1.out.trans (hBA.mono HB1.out.size))
      clear h3 hk2 hBA hspl
      go_wp2_with fail
      refine (HNO.out _).mono ?_
      rintro e w2 ⟨rfl, rfl⟩
      exact ⟨rfl, readP_no HFIN.out HBX.out rfl⟩
    obtain ⟨x1, x2, x3, hx⟩ : ∃ x1 x2 x3, spB h = [x1, x2, x3] := by
      match hq : spB h, h3 with
      | [x1, x2, x3], _ => exact ⟨x1, x2, x3, rfl⟩
    rw [hx] at hk2 hBA hspl ⊢
    have hsz1 := hspl x1 (by simp); have hsz2 := hspl x2 (by simp); have hsz3 := hspl x3 (by simp)
    have hsp := spB_sp hx
    simp only [List.map_cons, List.map_nil] at hk2 hBA hsp ⊢
    obtain ⟨w2, hw2⟩ : ∃ w2, w1.alloc (.cells [Value.string x1, Value.string x2, Value.string x3].toArray 9) = w2 := ⟨_, rfl⟩
    obtain ⟨g, hg⟩ : ∃ g, w1.heap.size = g := ⟨_, rfl⟩
    rw [hg] at hk2
    rw [hw2] at hk2 hBA ⊢
    simp only [List.length_cons, List.length_nil, Nat.zero_add, Nat.reduceAdd, hg]
    have hgl := hk2.lt
    have HK2 := Lib.hid hk2; have HBA := Lib.hid hBA; have HSPH := Lib.hid hsp; have HGE := Lib.hid hg
    have HG2 := Lib.hid ((HG.out.below HB1.out).below hBA)
    clear h3 hx hspl hk2 hBA hsp hw2 hg
    go_wp2_with fail
    refine (HYES.out _).mono ?_
    rintro e w3 ⟨rfl, rfl⟩
    have hkb := kindN_bd x1.data.toList
    obtain ⟨K, hK⟩ : ∃ K, kindN x1.data.toList = K := ⟨_, rfl⟩
    have HIX := Lib.hid (fun n c => index_kind (w2.drewN n) (HG2.out.below (below_drewN (Below.refl _ _) n)) x1 c)
    rw [hK] at hkb HIX
    have hkw : IntKind.i64.wrap (K - 1 + 1) = K := by rw [IntWalk.i64_in _ (by omega)]; omega
    have HK := Lib.hid hK
    clear hK
    have d0 := HK2.out.cell 0
    simp only [List.getElem?_toArray, List.getElem?_cons_zero] at d0
    go_wp2_with fail
    go_quiet ((go_at_call 42; exact Calls.quiet_of_same (HIX.out _ _)))
    generalize hw3 : World.drewN w2 _ = w3
    have hb3 : Below w2.heap.size w2 w3 := by rw [← hw3]; exact below_drewN (Below.refl _ _) _
    have hk3 := HK2.out.below hb3 hgl
    have hks : ∀ W, Below w3.heap.size w3 W → W.cell? ⟨g, 1, none⟩ = some (.string x2) ∧ W.cell? ⟨g, 2, none⟩ = some (.string x3) := fun W hW => by
      have := hk3.below hW hk3.lt
      exact ⟨this.cell 1, this.cell 2⟩
    have HB3 := Lib.hid (HB1.out.trans ((HBA.out.trans (hb3.mono HBA.out.size)).mono HB1.out.size))
    have HG3 := Lib.hid (HG2.out.below hb3)
    have HBK3 := Lib.hid ((HBK.out.below HBA.out hc0l).below hb3 (Nat.lt_of_lt_of_le hc0l HBA.out.size))
    have HKS := Lib.hid hks
    clear hw3 hb3 hk3 hks d0 HK2 HG2 HIX hkw HSP hc0 HBA hgl
    by_cases hn : ∃ n, numL x2.data.toList = some n ∧ n ≤ 512
    case neg =>
      have hno : ∀ n, numL x2.data.toList = some n → 512 < n := fun n h => by
        rcases Int.lt_or_le 512 n with h' | h'
        · exact h'
        · exact absurd ⟨n, h, h'⟩ hn
      have HN1 := Lib.hid (fun (W : World) (hW : Below w3.heap.size w3 W) => number_no W x2 512 (by omega) (HG3.out.below hW).firsts hno)
      have HFIN := Lib.hid (show Gs = none from HGS.out.symm.trans (gP_head (by rw [HSPH.out]; exact hP_n hno)))
      clear hn hno
      go_wp2_with fail
      have HD := Lib.hid ((Below.refl w3.heap.size w3).drew)
      refine wp_region_held_drew (S := (fun w' => w'.cell? ⟨g, 1, none⟩ = some (.string x2) ∧ w'.cell? ⟨g, 2, none⟩ = some (.string x3))) (by kernel_rfl) ?_ (fun hHeld => ?_)
      · exact HKS.out _ HD.out
      refine wpAnyH_take (i := 0) (v := ?v0g1_) rfl (by kernel_rfl) (by kernel_rfl) (by kernel_rfl) (fun _ _ _ h => h) (Or.inl ⟨by rfl, ?y0g1_⟩) (by assumption) ?r0g1_
      case y0g1_ => (intro w hSw; (try dsimp only at hSw); go_simp; try with_reducible rfl)
      change wpAnyH _ _ _ _ _ _ _ (Act.put _ (some 35) _) _; simp only [Act.put, List.setIfInBounds_toArray, List.set_cons_zero, List.set_cons_succ]
      refine wpAnyH_take (i := 1) (v := ?v1g1_) rfl (by kernel_rfl) (by kernel_rfl) (by kernel_rfl) (fun _ _ _ h => h) (Or.inl ⟨by rfl, ?y1g1_⟩) (by assumption) ?r1g1_
      case y1g1_ => (intro w hSw; (try dsimp only at hSw); go_simp; try with_reducible rfl)
      change wpAnyH _ _ _ _ _ _ _ (Act.put _ (some 36) _) _; simp only [Act.put, List.setIfInBounds_toArray, List.set_cons_zero, List.set_cons_succ]
      refine wpAnyH_take (i := 2) (v := ?v2g1_) rfl (by kernel_rfl) (by kernel_rfl) (by kernel_rfl) (fun _ _ _ h => h) (Or.inl ⟨by rfl, ?y2g1_⟩) (by assumption) ?r2g1_
      case y2g1_ => (intro w hSw; (try dsimp only at hSw); go_simp; try with_reducible rfl)
      change wpAnyH _ _ _ _ _ _ _ (Act.put _ (some 37) _) _; simp only [Act.put, List.setIfInBounds_toArray, List.set_cons_zero, List.set_cons_succ]
      refine wpAnyH_take (i := 4) (v := ?v4g1_) rfl (by kernel_rfl) (by kernel_rfl) (by kernel_rfl) (fun _ _ _ h => h) (Or.inl ⟨by rfl, ?y4g1_⟩) (by assumption) ?r4g1_
      case y4g1_ => (intro w hSw; (try dsimp only at hSw); go_simp; try with_reducible rfl)
      change wpAnyH _ _ _ _ _ _ _ (Act.put _ (some 39) _) _; simp only [Act.put, List.setIfInBounds_toArray, List.set_cons_zero, List.set_cons_succ]
      refine wpAnyH_take (i := 5) (v := ?v5g1_) rfl (by kernel_rfl) (by kernel_rfl) (by kernel_rfl) (fun _ _ _ h => h) (Or.inl ⟨by rfl, ?y5g1_⟩) (by assumption) ?r5g1_
      case y5g1_ => (intro w hSw; (try dsimp only at hSw); go_simp; try with_reducible rfl)
      change wpAnyH _ _ _ _ _ _ _ (Act.put _ (some 40) _) _; simp only [Act.put, List.setIfInBounds_toArray, List.set_cons_zero, List.set_cons_succ]
      refine wpAnyH_take (i := 6) (v := ?v6g1_) rfl (by kernel_rfl) (by kernel_rfl) (by kernel_rfl) (fun _ _ _ h => h) (Or.inl ⟨by rfl, ?y6g1_⟩) (by assumption) ?r6g1_
      case y6g1_ => (intro w hSw; (try dsimp only at hSw); go_simp; try with_reducible rfl)
      change wpAnyH _ _ _ _ _ _ _ (Act.put _ (some 41) _) _; simp only [Act.put, List.setIfInBounds_toArray, List.set_cons_zero, List.set_cons_succ]
      refine wpAnyH_ready (rs := [3]) (by kernel_rfl) (by simp) ?_
      refine AllReadyH.cons rfl (fun K hK => ?_) AllReadyH.nil
      go_simp
      refine (HN1.out _ HD.out).mono ?_
      rintro R w4 ⟨rfl, h4⟩
      exact ⟨rfl, readP_no HFIN.out (HB3.out.trans ((HD.out.trans (h4.mono HD.out.size)).mono HB3.out.size)) rfl⟩
    obtain ⟨n, hnn, hn5⟩ := hn
    have hnb := numL_bd hnn
    have HN1 := Lib.hid (fun (W : World) (hW : Below w3.heap.size w3 W) => number_yes W x2 512 n (by omega) (HG3.out.below hW).firsts hnn hn5)
    by_cases hst : ∃ st, numL x3.data.toList = some st ∧ st ≤ 2000
    case neg =>
      have hno : ∀ st, numL x3.data.toList = some st → 2000 < st := fun n h => by
        rcases Int.lt_or_le 2000 n with h' | h'
        · exact h'
        · exact absurd ⟨n, h, h'⟩ hst
      have HN2 := Lib.hid (fun (W : World) (hW : Below w3.heap.size w3 W) => number_no W x3 2000 (by omega) (HG3.out.below hW).firsts hno)
      have HFIN := Lib.hid (show Gs = none from HGS.out.symm.trans (gP_head (by rw [HSPH.out]; exact hP_st hno)))
      clear hst hno hnn
      go_wp2_with fail
      have HD := Lib.hid ((Below.refl w3.heap.size w3).drew)
      refine wp_region_held_drew (S := (fun w' => w'.cell? ⟨g, 1, none⟩ = some (.string x2) ∧ w'.cell? ⟨g, 2, none⟩ = some (.string x3))) (by kernel_rfl) ?_ (fun hHeld => ?_)
      · exact HKS.out _ HD.out
      refine wpAnyH_take (i := 0) (v := ?v0g2_) rfl (by kernel_rfl) (by kernel_rfl) (by kernel_rfl) (fun _ _ _ h => h) (Or.inl ⟨by rfl, ?y0g2_⟩) (by assumption) ?r0g2_
      case y0g2_ => (intro w hSw; (try dsimp only at hSw); go_simp; try with_reducible rfl)
      change wpAnyH _ _ _ _ _ _ _ (Act.put _ (some 35) _) _; simp only [Act.put, List.setIfInBounds_toArray, List.set_cons_zero, List.set_cons_succ]
      refine wpAnyH_take (i := 1) (v := ?v1g2_) rfl (by kernel_rfl) (by kernel_rfl) (by kernel_rfl) (fun _ _ _ h => h) (Or.inl ⟨by rfl, ?y1g2_⟩) (by assumption) ?r1g2_
      case y1g2_ => (intro w hSw; (try dsimp only at hSw); go_simp; try with_reducible rfl)
      change wpAnyH _ _ _ _ _ _ _ (Act.put _ (some 36) _) _; simp only [Act.put, List.setIfInBounds_toArray, List.set_cons_zero, List.set_cons_succ]
      refine wpAnyH_take (i := 2) (v := ?v2g2_) rfl (by kernel_rfl) (by kernel_rfl) (by kernel_rfl) (fun _ _ _ h => h) (Or.inl ⟨by rfl, ?y2g2_⟩) (by assumption) ?r2g2_
      case y2g2_ => (intro w hSw; (try dsimp only at hSw); go_simp; try with_reducible rfl)
      change wpAnyH _ _ _ _ _ _ _ (Act.put _ (some 37) _) _; simp only [Act.put, List.setIfInBounds_toArray, List.set_cons_zero, List.set_cons_succ]
      refine wpAnyH_take (i := 4) (v := ?v4g2_) rfl (by kernel_rfl) (by kernel_rfl) (by kernel_rfl) (fun _ _ _ h => h) (Or.inl ⟨by rfl, ?y4g2_⟩) (by assumption) ?r4g2_
      case y4g2_ => (intro w hSw; (try dsimp only at hSw); go_simp; try with_reducible rfl)
      change wpAnyH _ _ _ _ _ _ _ (Act.put _ (some 39) _) _; simp only [Act.put, List.setIfInBounds_toArray, List.set_cons_zero, List.set_cons_succ]
      refine wpAnyH_take (i := 5) (v := ?v5g2_) rfl (by kernel_rfl) (by kernel_rfl) (by kernel_rfl) (fun _ _ _ h => h) (Or.inl ⟨by rfl, ?y5g2_⟩) (by assumption) ?r5g2_
      case y5g2_ => (intro w hSw; (try dsimp only at hSw); go_simp; try with_reducible rfl)
      change wpAnyH _ _ _ _ _ _ _ (Act.put _ (some 40) _) _; simp only [Act.put, List.setIfInBounds_toArray, List.set_cons_zero, List.set_cons_succ]
      refine wpAnyH_take (i := 6) (v := ?v6g2_) rfl (by kernel_rfl) (by kernel_rfl) (by kernel_rfl) (fun _ _ _ h => h) (Or.inl ⟨by rfl, ?y6g2_⟩) (by assumption) ?r6g2_
      case y6g2_ => (intro w hSw; (try dsimp only at hSw); go_simp; try with_reducible rfl)
      change wpAnyH _ _ _ _ _ _ _ (Act.put _ (some 41) _) _; simp only [Act.put, List.setIfInBounds_toArray, List.set_cons_zero, List.set_cons_succ]
      refine wpAnyH_ready (rs := [3]) (by kernel_rfl) (by simp) ?_
      refine AllReadyH.cons rfl (fun K hK => ?_) AllReadyH.nil
      go_simp
      refine (HN1.out _ HD.out).mono ?_
      rintro R w4 ⟨rfl, h4⟩
      have H4 := Lib.hid (HD.out.trans (h4.mono HD.out.size))
      clear h4
      dsimp only
      refine hK.out _ _ ?_ (fun hHeld => ?_)
      · exact HKS.out _ H4.out
      clear hK K
      try simp only [Act.put, List.setIfInBounds_toArray, List.set_cons_zero, List.set_cons_succ]
      refine wpAnyH_ready (rs := [7]) (by kernel_rfl) (by simp) ?_
      refine AllReadyH.cons rfl (fun K hK => ?_) AllReadyH.nil
      go_simp
      refine (HN2.out _ H4.out).mono ?_
      rintro R w5 ⟨rfl, h5⟩
      exact ⟨rfl, readP_no HFIN.out (HB3.out.trans ((H4.out.trans (h5.mono H4.out.size)).mono HB3.out.size)) rfl⟩
    obtain ⟨st, hss, hs2⟩ := hst
    have hsb := numL_bd hss
    have HN2 := Lib.hid (fun (W : World) (hW : Below w3.heap.size w3 W) => number_yes W x3 2000 st (by omega) (HG3.out.below hW).firsts hss hs2)
    have hhp := hP_some (rest := rest.map (·.data.toList)) (a := x1.data.toList) hnn hss
    rw [HK.out, List.length_map] at hhp
    have HHP := Lib.hid hhp
    clear hnn hss hhp
    go_wp2_with fail
    have HD := Lib.hid ((Below.refl w3.heap.size w3).drew)
    refine wp_region_noPanic ?_
    refine wp_region_held_drew (S := (fun w' => w'.cell? ⟨g, 1, none⟩ = some (.string x2) ∧ w'.cell? ⟨g, 2, none⟩ = some (.string x3))) (by kernel_rfl) ?_ (fun hHeld => ?_)
    · exact HKS.out _ HD.out
    refine wpAnyH_take (i := 0) (v := ?v0g3_) rfl (by kernel_rfl) (by kernel_rfl) (by kernel_rfl) (fun _ _ _ h => h) (Or.inl ⟨by rfl, ?y0g3_⟩) (by assumption) ?r0g3_
    case y0g3_ => (intro w hSw; (try dsimp only at hSw); go_simp; try with_reducible rfl)
    change wpAnyH _ _ _ _ _ _ _ (Act.put _ (some 35) _) _; simp only [Act.put, List.setIfInBounds_toArray, List.set_cons_zero, List.set_cons_succ]
    refine wpAnyH_take (i := 1) (v := ?v1g3_) rfl (by kernel_rfl) (by kernel_rfl) (by kernel_rfl) (fun _ _ _ h => h) (Or.inl ⟨by rfl, ?y1g3_⟩) (by assumption) ?r1g3_
    case y1g3_ => (intro w hSw; (try dsimp only at hSw); go_simp; try with_reducible rfl)
    change wpAnyH _ _ _ _ _ _ _ (Act.put _ (some 36) _) _; simp only [Act.put, List.setIfInBounds_toArray, List.set_cons_zero, List.set_cons_succ]
    refine wpAnyH_take (i := 2) (v := ?v2g3_) rfl (by kernel_rfl) (by kernel_rfl) (by kernel_rfl) (fun _ _ _ h => h) (Or.inl ⟨by rfl, ?y2g3_⟩) (by assumption) ?r2g3_
    case y2g3_ => (intro w hSw; (try dsimp only at hSw); go_simp; try with_reducible rfl)
    change wpAnyH _ _ _ _ _ _ _ (Act.put _ (some 37) _) _; simp only [Act.put, List.setIfInBounds_toArray, List.set_cons_zero, List.set_cons_succ]
    refine wpAnyH_take (i := 4) (v := ?v4g3_) rfl (by kernel_rfl) (by kernel_rfl) (by kernel_rfl) (fun _ _ _ h => h) (Or.inl ⟨by rfl, ?y4g3_⟩) (by assumption) ?r4g3_
    case y4g3_ => (intro w hSw; (try dsimp only at hSw); go_simp; try with_reducible rfl)
    change wpAnyH _ _ _ _ _ _ _ (Act.put _ (some 39) _) _; simp only [Act.put, List.setIfInBounds_toArray, List.set_cons_zero, List.set_cons_succ]
    refine wpAnyH_take (i := 5) (v := ?v5g3_) rfl (by kernel_rfl) (by kernel_rfl) (by kernel_rfl) (fun _ _ _ h => h) (Or.inl ⟨by rfl, ?y5g3_⟩) (by assumption) ?r5g3_
    case y5g3_ => (intro w hSw; (try dsimp only at hSw); go_simp; try with_reducible rfl)
    change wpAnyH _ _ _ _ _ _ _ (Act.put _ (some 40) _) _; simp only [Act.put, List.setIfInBounds_toArray, List.set_cons_zero, List.set_cons_succ]
    refine wpAnyH_take (i := 6) (v := ?v6g3_) rfl (by kernel_rfl) (by kernel_rfl) (by kernel_rfl) (fun _ _ _ h => h) (Or.inl ⟨by rfl, ?y6g3_⟩) (by assumption) ?r6g3_
    case y6g3_ => (intro w hSw; (try dsimp only at hSw); go_simp; try with_reducible rfl)
    change wpAnyH _ _ _ _ _ _ _ (Act.put _ (some 41) _) _; simp only [Act.put, List.setIfInBounds_toArray, List.set_cons_zero, List.set_cons_succ]
    refine wpAnyH_ready (rs := [3]) (by kernel_rfl) (by simp) ?_
    refine AllReadyH.cons rfl (fun K hK => ?_) AllReadyH.nil
    go_simp
    refine (HN1.out _ HD.out).mono ?_
    rintro R w4 ⟨rfl, h4⟩
    have H4 := Lib.hid (HD.out.trans (h4.mono HD.out.size))
    clear h4
    dsimp only
    refine hK.out _ _ ?_ (fun hHeld => ?_)
    · exact HKS.out _ H4.out
    clear hK K
    try simp only [Act.put, List.setIfInBounds_toArray, List.set_cons_zero, List.set_cons_succ]
    refine wpAnyH_ready (rs := [7]) (by kernel_rfl) (by simp) ?_
    refine AllReadyH.cons rfl (fun K hK => ?_) AllReadyH.nil
    go_simp
    refine (HN2.out _ H4.out).mono ?_
    rintro R w5 ⟨rfl, h5⟩
    have H5 := Lib.hid (H4.out.trans (h5.mono H4.out.size))
    clear h5
    dsimp only
    refine hK.out _ _ ?_ (fun hHeld => ?_)
    · exact HKS.out _ H5.out
    clear hK K
    try simp only [Act.put, List.setIfInBounds_toArray, List.set_cons_zero, List.set_cons_succ]
    refine wpAnyH_take (i := 8) (v := ?v8g3_) rfl (by kernel_rfl) (by kernel_rfl) (by kernel_rfl) (fun _ _ _ h => h) (Or.inl ⟨by rfl, ?y8g3_⟩) (by assumption) ?r8g3_
    case y8g3_ => (intro w hSw; (try dsimp only at hSw); go_simp; try with_reducible rfl)
    change wpAnyH _ _ _ _ _ _ _ (Act.put _ (some 8) _) _; simp only [Act.put, List.setIfInBounds_toArray, List.set_cons_zero, List.set_cons_succ]
    refine wpAnyH_take (i := 9) (v := ?v9g3_) rfl (by kernel_rfl) (by kernel_rfl) (by kernel_rfl) (fun _ _ _ h => h) (Or.inl ⟨by rfl, ?y9g3_⟩) (by assumption) ?r9g3_
    case y9g3_ => (intro w hSw; (try dsimp only at hSw); go_simp; try with_reducible rfl)
    change wpAnyH _ _ _ _ _ _ _ (Act.put _ (some 9) _) _; simp only [Act.put, List.setIfInBounds_toArray, List.set_cons_zero, List.set_cons_succ]
    refine wpAnyH_done (by kernel_rfl) ?_ _
    refine NoPanic.normal ?_
    have HB5 := Lib.hid (HB3.out.trans (H5.out.mono HB3.out.size))
    have HG5 := Lib.hid (HG3.out.below H5.out)
    have HBK5 := Lib.hid (HBK3.out.below H5.out HBK3.out.lt)
    clear hHeld HKS HN1 HN2 HB3 HG3 HBK3 H4
    by_cases hkn : 0 < K ∧ n < N
    case neg =>
      have HFIN := Lib.hid (show Gs = none from HGS.out.symm.trans (gP_head (by rw [HSPH.out]; exact HHP.out.trans (if_neg fun h => hkn ⟨h.2.2.1, by have := HNN.out; omega⟩))))
      by_cases hk0 : 0 < K
      · have b1 : decide (0 < K) = true := decide_eq_true hk0
        have b2 : decide (n < (N : Int)) = false := decide_eq_false fun h => hkn ⟨hk0, h⟩
        clear hkn hk0
        go_wp2_with fail
        refine (HNO.out _).mono ?_
        rintro e w7 ⟨rfl, rfl⟩
        exact ⟨rfl, readP_no HFIN.out HB5.out rfl⟩
      · have b1 : decide (0 < K) = false := decide_eq_false hk0
        clear hkn
        go_wp2_with fail
        refine (HNO.out _).mono ?_
        rintro e w7 ⟨rfl, rfl⟩
        exact ⟨rfl, readP_no HFIN.out HB5.out rfl⟩
    obtain ⟨hk0, hnN⟩ := hkn
    obtain ⟨m, rfl⟩ : ∃ m : Nat, n = m := ⟨n.toNat, by omega⟩
    have b1 : decide (0 < K) = true := decide_eq_true hk0
    have b2 : decide ((m : Int) < (N : Int)) = true := decide_eq_true hnN
    have hmr : m ≤ rest.length := by have := HNN.out; omega
    have HGV := Lib.hid (show Gs = (valsP ((rest.map (·.data.toList)).take m)).map fun vs => (K, st, vs) from HGS.out.symm.trans ((gP_vals (by rw [HSPH.out]; exact HHP.out.trans (if_pos ⟨hn5, hs2, hk0, by omega⟩)))))
    obtain ⟨X, hX⟩ : ∃ X, (if cl = 1 then some (⟨b, 0, none⟩ : Addr) else (some (⟨b, 0, none⟩ : Addr)).map (·.add 1)) = X := ⟨_, rfl⟩
    have hX1 : 0 < m → X = some ⟨b, 1, none⟩ := fun hm => by
      have := HCL.out
      rw [← hX, if_neg (by omega)]; rfl
    have hsl : ∀ W : World, (Instr.sliceAt 61 (.slice (some ⟨b, 0, none⟩) N cl) (some (.int .i64 1)) (some (.int .i64 ((m : Int) + 1))) none).run Tryd.prog W = .ok (.slice X m (cl - 1)) W := fun W => by
      have := HCL.out
      have h9 := run_fromto Tryd.underlying61 HJ0.out.1 HJ0.out.2 (some ⟨b, 0, none⟩) N cl 1 (m + 1) (by omega) (by omega) W
      rw [hX, Int.natCast_add, Nat.add_sub_cancel] at h9
      exact h9
    have HX1 := Lib.hid hX1
    clear hX1 hX HGS HSPH HHP HK
    go_wp2_with fail
    refine (HYES.out _).mono ?_
    rintro e w7 ⟨rfl, rfl⟩
    have hst0 : RSt w w5 b cs (rest.map (·.data.toList)) (.slice none 0 0) 0 [] := ⟨HB5.out, HBK5.out, World.ownsRow_nil _ _ _ _, rfl, rfl⟩
    have HST0 := Lib.hid hst0
    clear hst0
    go_wp2_with fail
    go_loopg [10, 57] m (fun gf v10 v57 wr => ∃ (i : Nat) (xs : List Int) (v : Value), v57 = .int .i64 i ∧ v10 = v ∧ i + gf = m ∧ RSt w wr b cs (rest.map (·.data.toList)) v i xs)
    case atStart => exact ⟨0, [], _, rfl, rfl, by omega, HST0.out⟩
    case round =>
      clear HST0 hsl
      obtain ⟨i, xs, v, rfl, rfl, hi, hst⟩ := hrel
      have HST := Lib.hid hst
      cases gk with
      | zero =>
        obtain rfl : i = m := by omega
        obtain ⟨A, c, rfl, _⟩ := own_parts hst.own
        have hr := hst.own
        have hlen := hst.len
        have hfin : Gs = some (K, st, xs) := by rw [HGV.out, hst.vals]; rfl
        have HFIN := Lib.hid hfin; have HLEN := Lib.hid hlen; have HRD := Lib.hid hr
        clear hst hr hlen hfin
        go_wp2
        go_ret3
        refine readP_yes (A := A) (c := c) HFIN.out HST.out.below (by rw [HLEN.out]; rfl) (by rw [HLEN.out]; exact HRD.out)
      | succ gf =>
        have him : i < m := by omega
        have hiI : (i : Int) < (m : Int) := by omega
        obtain ⟨x, hx⟩ : ∃ x, rest[i]? = some x := ⟨_, List.getElem?_eq_getElem (by omega)⟩
        obtain rfl := HX1.out (by omega)
        have hxl : (rest.map (·.data.toList))[i]? = some x.data.toList := by rw [List.getElem?_map, hx]; rfl
        have hxs := HSM.out x (List.mem_cons_of_mem _ (List.mem_of_getElem? hx))
        have hc1 : wr.cell? ⟨b, i + 1, none⟩ = some (.string x) := by rw [hst.lines.cell]; exact HCS.out i x hx
        have hc2 : wr.cell? ⟨b, 1 + i, none⟩ = some (.string x) := by rw [Nat.add_comm 1 i]; exact hc1
        have HSP := Lib.hid (split_exact wr x (by omega) (HG.out.below hst.below))
        have HXL := Lib.hid hxl
        clear hx hxl hst
        go_wp2_with fail
        refine HSP.out.mono ?_
        rintro e w7 ⟨rfl, rfl⟩
        clear HSP
        have hkx := Blk.new wr 9 ((spB x).map Value.string).toArray
        have hbx := (Below.refl wr.heap.size wr).alloc (Nat.le_refl _) (.cells ((spB x).map Value.string).toArray 9)
        have hgx : Gl (wr.alloc (.cells ((spB x).map Value.string).toArray 9)) := (HG.out.below HST.out.below).below hbx
        have hspl := fun y (hy : y ∈ spB x) => Nat.le_trans (spB_small hy) hxs
        have hsx := HST.out.on hbx
        by_cases hl : 2 ≤ (spB x).length
        case neg =>
          have hb : decide ((1 : Int) < ((spB x).length : Int)) = false := by simp; omega
          have HFIN := Lib.hid (show Gs = none by rw [HGV.out, valsP_stop HXL.out him (valP_short (by omega))]; rfl)
          have HBX := Lib.hid hsx.below
          clear hl hkx hbx hspl hgx hsx
          go_wp2_with fail
          refine (HNO.out _).mono ?_
          rintro e w8 ⟨rfl, rfl⟩
          exact ⟨rfl, readP_no HFIN.out HBX.out rfl⟩
        obtain ⟨y0, y1, r, hsp⟩ : ∃ y0 y1 r, spB x = y0 :: y1 :: r := by
          match hq : spB x, hl with
          | y0 :: y1 :: r, _ => exact ⟨y0, y1, r, rfl⟩
        have hvp := valP_of hsp
        rw [hsp] at hkx hbx hgx hspl hsx hl ⊢
        have hys := hspl y1 (by simp)
        have d1 := hkx.cell 1
        simp only [List.map_cons, List.getElem?_toArray, List.getElem?_cons_zero, List.getElem?_cons_succ] at d1
        obtain ⟨cx, hcx⟩ : ∃ cx, ((y0 :: y1 :: r).map Value.string).toArray = cx := ⟨_, rfl⟩
        simp only [List.map_cons] at hcx d1 hgx hsx hbx hkx ⊢
        rw [hcx] at d1 hgx hsx hbx hkx ⊢
        obtain ⟨lx, hlx⟩ : ∃ lx, (y0 :: y1 :: r).length = lx := ⟨_, rfl⟩
        rw [hlx] at hl ⊢
        obtain ⟨wX, hwX⟩ : ∃ wX, wr.alloc (.cells cx 9) = wX := ⟨_, rfl⟩
        obtain ⟨gx, hgxe⟩ : ∃ gx, wr.heap.size = gx := ⟨_, rfl⟩
        rw [hwX] at d1 hgx hsx hbx hkx ⊢
        rw [hgxe] at d1 hkx ⊢
        have hlb : decide ((1 : Int) < (lx : Int)) = true := by simp; omega
        have hlI : (1 : Int) < (lx : Int) := by omega
        have hl1 : 1 < lx := by omega
        have hgxl := hkx.lt
        have HXS := Lib.hid hsx; have HGX := Lib.hid hgx; have HVP := Lib.hid hvp
        clear hsp hspl hsx hgx hcx hwX hgxe hlx hkx hbx hvp hl
        go_wp2_with fail
        refine (HYES.out _).mono ?_
        rintro e w8 ⟨rfl, rfl⟩
        by_cases hd : y1.data.toList = [45]
        · have hb1 : (y1.toList == [45]) = true := by rw [ByteArray.toList_eq, hd]; rfl
          have hb2 : (y1.toList != [45]) = false := by rw [ByteArray.toList_eq, hd]; rfl
          have HV1 := Lib.hid (show valP x.data.toList = some 4611686018427387904 by rw [HVP.out, if_pos hd]; rfl)
          clear hd
          go_wp2_with (at_builtin; refine wpList_app _ wX rfl (.tmp 75) (.tmp 77) 24 rfl w.heap.size 2 i0 (.int .i64 0) 1 8 Tryd.underlying24 HI0.out HZ0.out hz1 hz2 rfl (by decide) (by decide) _ i _ rfl (Lib.hid HXS.out.own) [.int .i64 4611686018427387904] rfl rfl rfl _ rfl rfl (by omega) HXS.out.below.size ?_; intro v3 w9 h2 h3 h4; have HA := Lib.hid (HXS.out.app HXL.out HV1.out h2.out h3.out h4.out); clear h2 h3 h4)
          go_wp2
          go_roundg gf
          case measure => omega
          case rel => exact ⟨i + 1, _, v3, by go_num, rfl, by omega, HA.out⟩
        have hb1 : (y1.toList == [45]) = false := by rw [ByteArray.toList_eq]; simpa using hd
        have hb2 : (y1.toList != [45]) = true := by rw [ByteArray.toList_eq]; simpa using hd
        rw [if_neg hd] at HVP
        clear hd
        cases hny : numL y1.data.toList with
        | none =>
          have HN1 := Lib.hid (number_no wX y1 4611686018427387904 (by omega) HGX.out.firsts (fun n h => by rw [hny] at h; cases h))
          have HFIN := Lib.hid (show Gs = none by rw [HGV.out, valsP_stop HXL.out him (by rw [HVP.out, hny])]; rfl)
          clear hny
          go_wp2_with fail
          refine HN1.out.mono ?_
          rintro e w8 ⟨rfl, h8⟩
          exact ⟨rfl, readP_no HFIN.out (HXS.out.below.trans (h8.mono HXS.out.below.size)) rfl⟩
        | some n1 =>
          have hnb1 := numL_bd hny
          have HN1 := Lib.hid (number_yes wX y1 4611686018427387904 n1 (by omega) HGX.out.firsts hny hnb1.2)
          have HV1 := Lib.hid (show valP x.data.toList = some n1 by rw [HVP.out, hny])
          clear hny
          go_wp2_with fail
          refine HN1.out.mono ?_
          rintro e w8 ⟨rfl, h8⟩
          have hxs8 := HXS.out.on h8
          clear h8 HXS HN1
          have HXS := Lib.hid hxs8
          clear hxs8
          go_wp2_with (at_builtin; refine wpList_app _ w8 rfl (.tmp 75) (.tmp 77) 24 rfl w.heap.size 2 i0 (.int .i64 0) 1 8 Tryd.underlying24 HI0.out HZ0.out hz1 hz2 rfl (by decide) (by decide) _ i _ rfl (Lib.hid HXS.out.own) [.int .i64 n1] rfl rfl rfl _ rfl rfl (by omega) HXS.out.below.size ?_; intro v3 w9 h2 h3 h4; have HA := Lib.hid (HXS.out.app HXL.out HV1.out h2.out h3.out h4.out); clear h2 h3 h4)
          go_wp2
          go_roundg gf
          case measure => omega
          case rel => exact ⟨i + 1, _, v3, by go_num, rfl, by omega, HA.out⟩
end Go.Proofs.YtggegefeagkhkaaDoor
