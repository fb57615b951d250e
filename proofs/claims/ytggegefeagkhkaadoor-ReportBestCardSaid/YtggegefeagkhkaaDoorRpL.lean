/- The reference's guess and its Read. -/
import Derived.Test.YtggegefeagkhkaaDoorRpK
import Derived.Test.YtggegefeagkhkaaDoorPk19
import Derived.RegionTactic
namespace Go.Proofs.YtggegefeagkhkaaDoor
open Go.RowKit

/-- what guess hands back -/
def GuessP (w : World) (o : Option (Int × Int × List Int)) (e : Ending) (w' : World) : Prop :=
  Below w.heap.size w w' ∧ match o with
  | none => e = .returned (.tuple #[.int .u8 0, .int .i64 0, .slice none 0 0, .bool false])
  | some (k, st, vs) => ∃ A c, e = .returned (.tuple #[.int .u8 k, .int .i64 st, .slice A vs.length c, .bool true]) ∧ Rd w' 1 A vs.length (vs.map (Value.int .i64))
theorem guessP_no {w w' : World} {o : Option (Int × Int × List Int)} {e : Ending} (h : o = none) (hb : Below w.heap.size w w') (he : e = .returned (.tuple #[.int .u8 0, .int .i64 0, .slice none 0 0, .bool false])) : GuessP w o e w' := by subst h; exact ⟨hb, he⟩
theorem guessP_yes {w w' : World} {o : Option (Int × Int × List Int)} {e : Ending} {k st : Int} {vs : List Int} {A : Option Addr} {c : Nat} (h : o = some (k, st, vs)) (hb : Below w.heap.size w w') (he : e = .returned (.tuple #[.int .u8 k, .int .i64 st, .slice A vs.length c, .bool true])) (hr : Rd w' 1 A vs.length (vs.map (Value.int .i64))) : GuessP w o e w' := by subst h; exact ⟨hb, A, c, he, hr⟩
theorem gR_head {h : List UInt8} {rest : List (List UInt8)} (hh : headR' rest (sp 32 h []) = none) : guessR (h :: rest) = none := by rw [guessR, hh]
theorem hR_len {rest ws : List (List UInt8)} (h : ws.length ≠ 3) : headR' rest ws = none := by
  match ws, h with
  | [], _ => rfl
  | [_], _ => rfl
  | [_, _], _ => rfl
  | [_, _, _], h => exact absurd rfl h
  | _ :: _ :: _ :: _ :: _, _ => rfl
theorem gR_vals {h : List UInt8} {rest : List (List UInt8)} {k st : Int} {n : Nat} (hh : headR' rest (sp 32 h []) = some (k, st, n)) : guessR (h :: rest) = (valsR (rest.take n)).map fun vs => (k, st, vs) := by rw [guessR, hh]
theorem hR_three {rest : List (List UInt8)} {a b c : List UInt8} {K n st : Int} (hK : kindN a = K) (hn : (numL b).getD (-1) = n) (hs : (numL c).getD (-1) = st) : headR' rest [a, b, c] = if K = 0 ∨ n < 1 ∨ 512 < n ∨ (rest.length : Int) < n ∨ st < 0 ∨ 2000 < st then none else some (K, st, n.toNat) := by rw [headR', hK, hn, hs]
theorem numD_bd (l : List UInt8) : -1 ≤ (numL l).getD (-1) ∧ (numL l).getD (-1) ≤ 4611686018427387904 := by
  cases h : numL l with
  | none => simp
  | some n => have := numL_bd h; simp; omega
theorem valsR_snoc : ∀ (l : List (List UInt8)) (x : List UInt8), valsR (l ++ [x]) = match valsR l, valR x with
    | some vs, some v => some (vs ++ [v])
    | _, _ => none := by
  intro l
  induction l with
  | nil =>
    intro x
    have e : valsR [x] = match valR x, some [] with
      | some x, some xs => some (x :: xs)
      | _, _ => none := rfl
    rw [List.nil_append, e]
    cases valR x <;> rfl
  | cons a l ih =>
    intro x
    rw [List.cons_append, valsR, valsR, ih x]
    cases valR a <;> cases valsR l <;> cases valR x <;> rfl
theorem valsR_none : ∀ (l m : List (List UInt8)), valsR l = none → valsR (l ++ m) = none := by
  intro l m
  induction l with
  | nil => intro h; cases h
  | cons a l ih =>
    intro h
    rw [valsR] at h
    rw [List.cons_append, valsR]
    cases ha : valR a with
    | none => rfl
    | some x =>
      cases hl : valsR l with
      | none => rw [ih hl]
      | some xs => rw [ha, hl] at h; cases h
theorem valsR_stop {l : List (List UInt8)} {n i : Nat} {x : List UInt8} (hx : l[i]? = some x) (hi : i < n) (h : valR x = none) : valsR (l.take n) = none := by
  have h1 : valsR (l.take (i + 1)) = none := by
    rw [List.take_add_one, hx]
    show valsR (l.take i ++ [x]) = none
    rw [valsR_snoc, h]
    cases valsR (l.take i) <;> rfl
  have h2 : l.take n = l.take (i + 1) ++ (l.take n).drop (i + 1) := by
    have h3 := (List.take_append_drop (i + 1) (l.take n)).symm
    rw [List.take_take, Nat.min_eq_left (by omega)] at h3
    exact h3
  rw [h2]
  exact valsR_none _ _ h1
theorem valsR_step {l : List (List UInt8)} {i : Nat} {x : List UInt8} {xs : List Int} {v : Int} (hx : l[i]? = some x) (h : valsR (l.take i) = some xs) (hv : valR x = some v) : valsR (l.take (i + 1)) = some (xs ++ [v]) := by
  rw [List.take_add_one, hx]
  show valsR (l.take i ++ [x]) = _
  rw [valsR_snoc, h, hv]
theorem valR_short {s : ByteArray} (h : (spB s).length < 2) : valR s.data.toList = none := by
  unfold valR
  rcases hq : spB s with _ | ⟨a, _ | ⟨b, r⟩⟩
  · rw [spB_sp hq]; rfl
  · rw [spB_sp hq]; rfl
  · rw [hq] at h; simp at h; omega
theorem valR_of {s : ByteArray} {a b : ByteArray} {r : List ByteArray} (h : spB s = a :: b :: r) : valR s.data.toList = some (if b.data.toList = [45] then topI else (numL b.data.toList).getD (-1)) := by
  unfold valR
  rw [spB_sp h]
  rfl
/-- the kind, so many words looked at -/
def kindU (a : List UInt8) (k : Nat) : Int := if 1 < k ∧ a = wRank then 1 else if 2 < k ∧ a = wLabel then 2 else if 3 < k ∧ a = wPaths then 3 else 0
theorem kindU_one (a : List UInt8) : kindU a 1 = 0 := by unfold kindU; rw [if_neg (by omega), if_neg (by omega), if_neg (by omega)]
theorem kindU_four (a : List UInt8) : kindU a 4 = kindN a := by
  unfold kindU kindN
  simp
theorem kindU_same {a : List UInt8} {k : Nat} (hk : k = 1 ∨ k = 2 ∨ k = 3) (h : a = kindW k) : kindU a (k + 1) = k := by
  subst h
  rcases hk with rfl | rfl | rfl <;> decide
theorem kindU_other {a : List UInt8} {k : Nat} (hk : k = 1 ∨ k = 2 ∨ k = 3) (h : a ≠ kindW k) : kindU a (k + 1) = kindU a k := by
  rcases hk with rfl | rfl | rfl
  · have : a ≠ wRank := h
    simp [kindU, this]
  · have : a ≠ wLabel := h
    simp [kindU, this]
  · have : a ≠ wPaths := h
    simp [kindU, this]
/-- the state of the loop -/
structure GSt (w wr : World) (b : Nat) (cs : Array Value) (rest : List (List UInt8)) (v : Value) (i : Nat) (xs : List Int) : Prop where
  below : Below w.heap.size w wr
  lines : Blk wr b 9 cs
  own : wr.ownsRow w.heap.size 2 1 v i (xs.map (Value.int .i64))
  vals : valsR (rest.take i) = some xs
  len : xs.length = i
theorem GSt.on {w wr w' : World} {b : Nat} {cs : Array Value} {rest : List (List UInt8)} {v : Value} {i : Nat} {xs : List Int} (h : GSt w wr b cs rest v i xs) (hb : Below wr.heap.size wr w') : GSt w w' b cs rest v i xs :=
  ⟨h.below.trans (hb.mono h.below.size), h.lines.below hb h.lines.lt, own_below2 h.own hb, h.vals, h.len⟩
theorem GSt.app {w wr w' : World} {b : Nat} {cs : Array Value} {rest : List (List UInt8)} {v v' : Value} {i : Nat} {xs : List Int} {x : Int} {l : List UInt8} (h : GSt w wr b cs rest v i xs) (hl : rest[i]? = some l) (hv : valR l = some x)
    (ho : w'.ownsRow w.heap.size 2 1 v' (i + 1) (xs.map (Value.int .i64) ++ [.int .i64 x])) (hg : (wr.alloc (.cells #[.int .i64 x] 2)).grownBy w' v.ownBlock) (hb : Below w.heap.size wr w') : GSt w w' b cs rest v' (i + 1) (xs ++ [x]) := by
  refine ⟨h.below.trans hb, (h.lines.alloc _).grown hg (fun e => ?_), by rw [List.map_append]; exact ho, valsR_step hl h.vals hv, by rw [List.length_append, h.len]; rfl⟩
  exact own_blk_ne h.own h.lines (by decide) e.symm
set_option maxRecDepth 100000 in
set_option maxHeartbeats 8000000 in
theorem guess_any (w : World) (s : ByteArray) (hs : s.size ≤ 262144) :
    Calls Tryd.prog 23 #[.string s] w (GuessP w (guessR ((linesR s).map (·.data.toList)))) := by
  obtain ⟨i0, hi0, hz0, hz1, hz2⟩ := info_parts infoI64
  have HI0 := Lib.hid hi0; have HZ0 := Lib.hid hz0
  have hsm : ∀ x ∈ linesR s, x.size ≤ 262144 := fun x hx => Nat.le_trans (linesP_small (by rw [lines_eq]; exact hx)) hs
  have HL := Lib.hid (linesR_any s w (by omega))
  have HNUM := Lib.hid rnum_any; have HNUM2 := Lib.hid rnum_any; have HWD := Lib.hid rwords_any
  obtain ⟨ls, hls⟩ : ∃ ls, linesR s = ls := ⟨_, rfl⟩
  rw [hls] at HL hsm ⊢
  have hfew : ls.length ≤ 300000 := by
    rw [← hls, linesR_eq, List.length_map]
    have h1 := lin_size s.data.toList []
    have h2 : ∀ l : List (List UInt8), l.length ≤ (l.map fun g => g.length + 1).sum := fun l => by
      induction l with
      | nil => simp
      | cons a l ih => simp at ih ⊢; omega
    have h3 := h2 (lin s.data.toList [])
    simp at h1
    omega
  have HSM := Lib.hid hsm
  clear hls hsm hi0 hz0
  obtain ⟨Gs, hgs⟩ : ∃ Gs, guessR (ls.map (·.data.toList)) = Gs := ⟨_, rfl⟩
  rw [hgs]
  have HGS := Lib.hid hgs
  clear hgs
  go_enter Tryd.func23, Tryd.ntmps23
  go_wp2_with fail
  refine HL.out.mono ?_
  clear HL
  rintro e w1 ⟨vl, rfl, hol, hb1⟩
  obtain ⟨Al, cl, rfl, hcl⟩ := own_parts hol
  cases ls with
  | nil =>
    have HB1 := Lib.hid hb1
    have HFIN := Lib.hid HGS.out.symm
    clear hol hb1
    simp only [List.length_nil]
    go_wp2_with fail
    exact bodyPost_ret (v := .tuple #[.int .u8 0, .int .i64 0, .slice none 0 0, .bool false]) (by simp [results, Tryd.results23, go_sem]) rfl (guessP_no HFIN.out HB1.out rfl)
  | cons h rest =>
    obtain ⟨b, cs, rfl, hbs, hbk, hcell⟩ := words_own2 hol (by simp)
    have hc0 := hcell 0 h rfl
    have HCS := Lib.hid (show ∀ i x, rest[i]? = some x → cs[i + 1]? = some (.string x) from fun i x hx => by
      have h1 := hcell (i + 1) x (by rw [List.getElem?_cons_succ]; exact hx)
      rw [Blk.cell (show Blk w1 b 9 cs from hbk)] at h1
      exact h1)
    have hhs := HSM.out h (by simp)
    have HBK := Lib.hid (show Blk w1 b 9 cs from hbk); have HB1 := Lib.hid hb1
    obtain ⟨N, hN⟩ : ∃ N : Nat, (h :: rest).length = N := ⟨_, rfl⟩
    have hN1 : rest.length + 1 = N := by rw [← hN]; simp
    rw [hN] at hcl hfew ⊢
    have hNd : ((N : Int) == 0) = false := by simp; omega
    have hN0 : (0 : Int) < (N : Int) := by omega
    have hNn : 0 < N := by omega
    have HNN := Lib.hid hN1; have HCL := Lib.hid hcl
    clear hol hb1 hcell hbk hN hN1 hcl
    go_wp2_with fail
    refine (HWD.out _ h (by omega)).mono ?_
    rintro e w2 ⟨vh, rfl, hoh, hb2⟩
    obtain ⟨Ah, ch, rfl, _⟩ := own_parts hoh
    have hspl := fun x (hx : x ∈ spB h) => Nat.le_trans (spB_small hx) hhs
    by_cases h3 : (spB h).length = 3
    case neg =>
      have hb : (((spB h).length : Int) != 3) = true := by simp; omega
      have HFIN := Lib.hid (show Gs = none from HGS.out.symm.trans (gR_head (hR_len (by rw [spB_sp rfl, List.length_map]; exact h3))))
      have HBX := Lib.hid (HB1.out.trans (hb2.mono HB1.out.size))
      clear h3 hb2 hoh hspl hc0
      go_wp2_with fail
      exact bodyPost_ret (v := .tuple #[.int .u8 0, .int .i64 0, .slice none 0 0, .bool false]) (by simp [results, Tryd.results23, go_sem]) rfl (guessP_no HFIN.out HBX.out rfl)
    obtain ⟨x1, x2, x3, hx⟩ : ∃ x1 x2 x3, spB h = [x1, x2, x3] := by
      match hq : spB h, h3 with
      | [x1, x2, x3], _ => exact ⟨x1, x2, x3, rfl⟩
    rw [hx] at hoh hspl ⊢
    have hsz1 := hspl x1 (by simp); have hsz2 := hspl x2 (by simp); have hsz3 := hspl x3 (by simp)
    have hsp := spB_sp hx
    obtain ⟨g, csg, rfl, hgl, hbg, hcg⟩ := words_own2 hoh (by simp)
    have hbg' : Blk w2 g 9 csg := hbg
    have hg1 : csg[0]? = some (.string x1) := by rw [← hbg'.cell 0]; exact hcg 0 x1 rfl
    have hg2 : csg[1]? = some (.string x2) := by rw [← hbg'.cell 1]; exact hcg 1 x2 rfl
    have hg3 : csg[2]? = some (.string x3) := by rw [← hbg'.cell 2]; exact hcg 2 x3 rfl
    simp only [List.map_cons, List.map_nil] at hsp
    simp only [List.length_cons, List.length_nil, Nat.zero_add, Nat.reduceAdd]
    have HK2 := Lib.hid hbg'; have HB2 := Lib.hid (HB1.out.trans (hb2.mono HB1.out.size)); have HBK2 := Lib.hid (HBK.out.below hb2 HBK.out.lt); have HSPH := Lib.hid hsp; have HG := Lib.hid (And.intro hg1 (And.intro hg2 hg3))
    clear h3 hx hspl hoh hbg hbg' hcg hg1 hg2 hg3 hsp hb2 hc0 HB1 HBK hbs hgl
    go_wp2_with fail
    go_loopg [8, 9] 3 (fun gf v8 v9 wr => ∃ k : Nat, v9 = .int .u8 k ∧ v8 = .int .u8 (kindU x1.data.toList k) ∧ k + gf = 4 ∧ 1 ≤ k ∧ Below w.heap.size w wr ∧ Blk wr b 9 cs ∧ Blk wr g 9 csg)
    case atStart => exact ⟨1, rfl, by rw [kindU_one], rfl, by omega, HB2.out, HBK2.out, HK2.out⟩
    case round =>
      clear HB2 HBK2 HK2
      obtain ⟨k, rfl, rfl, hk, hk1, hb, hbk, hkg⟩ := hrel
      cases gk with
      | succ gf =>
        have hc0 : wr.cell? ⟨g, 0, none⟩ = some (.string x1) := by rw [hkg.cell]; exact HG.out.1
        have hb' := (hb.alloc hb.size (.cells #[.string ⟨#[]⟩, .string ⟨#[114, 97, 110, 107]⟩, .string ⟨#[108, 97, 98, 101, 108]⟩, .string ⟨#[112, 97, 116, 104, 115]⟩] 9)).drew
        have hbk' := (hbk.alloc (.cells #[.string ⟨#[]⟩, .string ⟨#[114, 97, 110, 107]⟩, .string ⟨#[108, 97, 98, 101, 108]⟩, .string ⟨#[112, 97, 116, 104, 115]⟩] 9)).drew
        have hkg' := (hkg.alloc (.cells #[.string ⟨#[]⟩, .string ⟨#[114, 97, 110, 107]⟩, .string ⟨#[108, 97, 98, 101, 108]⟩, .string ⟨#[112, 97, 116, 104, 115]⟩] 9)).drew
        have hwlt := hkg.lt
        have hk3 : k = 1 ∨ k = 2 ∨ k = 3 := by omega
        have HB' := Lib.hid hb'; have HBK' := Lib.hid hbk'; have HKG' := Lib.hid hkg'
        by_cases he : x1.data.toList = kindW k
        · have HS := Lib.hid (kindU_same hk3 he)
          clear hb hbk hkg hb' hbk' hkg'
          rcases hk3 with rfl | rfl | rfl
          · rw [show ((1 : Nat) : Int) = 1 from rfl]
            have hb1 : (x1.toList == [114, 97, 110, 107]) = true := by rw [ByteArray.toList_eq, he]; rfl
            obtain ⟨kq, hkq⟩ : ∃ kq, kindU x1.data.toList 1 = kq := ⟨_, rfl⟩
            rw [hkq]
            have HKQ := Lib.hid hkq
            clear hkq he
            go_wp2_with fail
            go_region
            go_wp2
            go_roundg gf
            case measure => omega
            case rel => exact ⟨2, by go_num, by rw [HS.out]; rfl, by omega, by omega, HB'.out, HBK'.out, HKG'.out⟩
          · rw [show ((2 : Nat) : Int) = 2 from rfl]
            have hb1 : (x1.toList == [108, 97, 98, 101, 108]) = true := by rw [ByteArray.toList_eq, he]; rfl
            obtain ⟨kq, hkq⟩ : ∃ kq, kindU x1.data.toList 2 = kq := ⟨_, rfl⟩
            rw [hkq]
            have HKQ := Lib.hid hkq
            clear hkq he
            go_wp2_with fail
            go_region
            go_wp2
            go_roundg gf
            case measure => omega
            case rel => exact ⟨3, by go_num, by rw [HS.out]; rfl, by omega, by omega, HB'.out, HBK'.out, HKG'.out⟩
          · rw [show ((3 : Nat) : Int) = 3 from rfl]
            have hb1 : (x1.toList == [112, 97, 116, 104, 115]) = true := by rw [ByteArray.toList_eq, he]; rfl
            obtain ⟨kq, hkq⟩ : ∃ kq, kindU x1.data.toList 3 = kq := ⟨_, rfl⟩
            rw [hkq]
            have HKQ := Lib.hid hkq
            clear hkq he
            go_wp2_with fail
            go_region
            go_wp2
            go_roundg gf
            case measure => omega
            case rel => exact ⟨4, by go_num, by rw [HS.out]; rfl, by omega, by omega, HB'.out, HBK'.out, HKG'.out⟩
        · have HS := Lib.hid (kindU_other hk3 he)
          clear hb hbk hkg hb' hbk' hkg'
          rcases hk3 with rfl | rfl | rfl
          · rw [show ((1 : Nat) : Int) = 1 from rfl]
            have hb1 : (x1.toList == [114, 97, 110, 107]) = false := by rw [ByteArray.toList_eq]; simpa [kindW, wRank, wLabel, wPaths] using he
            obtain ⟨kq, hkq⟩ : ∃ kq, kindU x1.data.toList 1 = kq := ⟨_, rfl⟩
            rw [hkq]
            have HKQ := Lib.hid hkq
            clear hkq he
            go_wp2_with fail
            go_region
            go_wp2
            go_roundg gf
            case measure => omega
            case rel => exact ⟨2, by go_num, by rw [HS.out]; rw [HKQ.out], by omega, by omega, HB'.out, HBK'.out, HKG'.out⟩
          · rw [show ((2 : Nat) : Int) = 2 from rfl]
            have hb1 : (x1.toList == [108, 97, 98, 101, 108]) = false := by rw [ByteArray.toList_eq]; simpa [kindW, wRank, wLabel, wPaths] using he
            obtain ⟨kq, hkq⟩ : ∃ kq, kindU x1.data.toList 2 = kq := ⟨_, rfl⟩
            rw [hkq]
            have HKQ := Lib.hid hkq
            clear hkq he
            go_wp2_with fail
            go_region
            go_wp2
            go_roundg gf
            case measure => omega
            case rel => exact ⟨3, by go_num, by rw [HS.out]; rw [HKQ.out], by omega, by omega, HB'.out, HBK'.out, HKG'.out⟩
          · rw [show ((3 : Nat) : Int) = 3 from rfl]
            have hb1 : (x1.toList == [112, 97, 116, 104, 115]) = false := by rw [ByteArray.toList_eq]; simpa [kindW, wRank, wLabel, wPaths] using he
            obtain ⟨kq, hkq⟩ : ∃ kq, kindU x1.data.toList 3 = kq := ⟨_, rfl⟩
            rw [hkq]
            have HKQ := Lib.hid hkq
            clear hkq he
            go_wp2_with fail
            go_region
            go_wp2
            go_roundg gf
            case measure => omega
            case rel => exact ⟨4, by go_num, by rw [HS.out]; rw [HKQ.out], by omega, by omega, HB'.out, HBK'.out, HKG'.out⟩
      | zero =>
        obtain rfl : k = 4 := by omega
        have hkk := kindU_four x1.data.toList
        have hkb := kindN_bd x1.data.toList
        obtain ⟨K, hK⟩ : ∃ K, kindN x1.data.toList = K := ⟨_, rfl⟩
        rw [hK] at hkk hkb
        rw [hkk, show ((4 : Nat) : Int) = 4 from rfl]
        obtain ⟨n, hn⟩ : ∃ n, (numL x2.data.toList).getD (-1) = n := ⟨_, rfl⟩
        obtain ⟨st, hst⟩ : ∃ st, (numL x3.data.toList).getD (-1) = st := ⟨_, rfl⟩
        have hnb := numD_bd x2.data.toList; have hsb := numD_bd x3.data.toList
        have HN1 := Lib.hid (fun W => HNUM.out W x2 (by omega)); have HN2 := Lib.hid (fun W => HNUM.out W x3 (by omega))
        rw [hn] at hnb HN1
        rw [hst] at hsb HN2
        have hhp := hR_three (rest := rest.map (·.data.toList)) hK hn hst
        rw [List.length_map] at hhp
        have HHP := Lib.hid hhp
        obtain ⟨w3, rfl⟩ : ∃ w3, w3 = wr := ⟨_, rfl⟩
        have hks : ∀ W, Below w3.heap.size w3 W → W.cell? ⟨g, 1, none⟩ = some (.string x2) ∧ W.cell? ⟨g, 2, none⟩ = some (.string x3) := fun W hW => by
          have := hkg.below hW hkg.lt
          exact ⟨by rw [this.cell]; exact HG.out.2.1, by rw [this.cell]; exact HG.out.2.2⟩
        have HKS := Lib.hid hks; have HB3 := Lib.hid hb; have HBK3 := Lib.hid hbk
        clear hb hbk hkg hks hkk hn hst hhp hK HNUM
        go_wp2_with fail
        have HD := Lib.hid ((Below.refl w3.heap.size w3).drew)
        refine wp_region_noPanic ?_
        refine wp_region_held_drew (S := (fun w' => w'.cell? ⟨g, 1, none⟩ = some (.string x2) ∧ w'.cell? ⟨g, 2, none⟩ = some (.string x3))) (by kernel_rfl) ?_ (fun hHeld => ?_)
        · exact HKS.out _ HD.out
        refine wpAnyH_take (i := 0) (v := ?v0g1_) rfl (by kernel_rfl) (by kernel_rfl) (by kernel_rfl) (fun _ _ _ h => h) (Or.inl ⟨by rfl, ?y0g1_⟩) (by assumption) ?r0g1_
        case y0g1_ => (intro w hSw; (try dsimp only at hSw); go_simp; try with_reducible rfl)
        change wpAnyH _ _ _ _ _ _ _ (Act.put _ (some 41) _) _; simp only [Act.put, List.setIfInBounds_toArray, List.set_cons_zero, List.set_cons_succ]
        refine wpAnyH_take (i := 1) (v := ?v1g1_) rfl (by kernel_rfl) (by kernel_rfl) (by kernel_rfl) (fun _ _ _ h => h) (Or.inl ⟨by rfl, ?y1g1_⟩) (by assumption) ?r1g1_
        case y1g1_ => (intro w hSw; (try dsimp only at hSw); go_simp; try with_reducible rfl)
        change wpAnyH _ _ _ _ _ _ _ (Act.put _ (some 42) _) _; simp only [Act.put, List.setIfInBounds_toArray, List.set_cons_zero, List.set_cons_succ]
        refine wpAnyH_take (i := 2) (v := ?v2g1_) rfl (by kernel_rfl) (by kernel_rfl) (by kernel_rfl) (fun _ _ _ h => h) (Or.inl ⟨by rfl, ?y2g1_⟩) (by assumption) ?r2g1_
        case y2g1_ => (intro w hSw; (try dsimp only at hSw); go_simp; try with_reducible rfl)
        change wpAnyH _ _ _ _ _ _ _ (Act.put _ (some 43) _) _; simp only [Act.put, List.setIfInBounds_toArray, List.set_cons_zero, List.set_cons_succ]
        refine wpAnyH_take (i := 4) (v := ?v4g1_) rfl (by kernel_rfl) (by kernel_rfl) (by kernel_rfl) (fun _ _ _ h => h) (Or.inl ⟨by rfl, ?y4g1_⟩) (by assumption) ?r4g1_
        case y4g1_ => (intro w hSw; (try dsimp only at hSw); go_simp; try with_reducible rfl)
        change wpAnyH _ _ _ _ _ _ _ (Act.put _ (some 45) _) _; simp only [Act.put, List.setIfInBounds_toArray, List.set_cons_zero, List.set_cons_succ]
        refine wpAnyH_take (i := 5) (v := ?v5g1_) rfl (by kernel_rfl) (by kernel_rfl) (by kernel_rfl) (fun _ _ _ h => h) (Or.inl ⟨by rfl, ?y5g1_⟩) (by assumption) ?r5g1_
        case y5g1_ => (intro w hSw; (try dsimp only at hSw); go_simp; try with_reducible rfl)
        change wpAnyH _ _ _ _ _ _ _ (Act.put _ (some 46) _) _; simp only [Act.put, List.setIfInBounds_toArray, List.set_cons_zero, List.set_cons_succ]
        refine wpAnyH_take (i := 6) (v := ?v6g1_) rfl (by kernel_rfl) (by kernel_rfl) (by kernel_rfl) (fun _ _ _ h => h) (Or.inl ⟨by rfl, ?y6g1_⟩) (by assumption) ?r6g1_
        case y6g1_ => (intro w hSw; (try dsimp only at hSw); go_simp; try with_reducible rfl)
        change wpAnyH _ _ _ _ _ _ _ (Act.put _ (some 47) _) _; simp only [Act.put, List.setIfInBounds_toArray, List.set_cons_zero, List.set_cons_succ]
        refine wpAnyH_ready (rs := [3]) (by kernel_rfl) (by simp) ?_
        refine AllReadyH.cons rfl (fun K hK => ?_) AllReadyH.nil
        go_simp
        refine (HN1.out _).mono ?_
        rintro R w4 ⟨rfl, h4⟩
        have H4 := Lib.hid (HD.out.trans (h4.mono HD.out.size))
        clear h4
        dsimp only
        refine hK.out _ _ ?_ (fun hHeld => ?_)
        · exact HKS.out _ H4.out
        clear hK K
        try simp only [Act.put, List.setIfInBounds_toArray, List.set_cons_zero, List.set_cons_succ]
        refine wpAnyH_ready (rs := [7]) (by kernel_rfl) (by simp) ?_
        refine AllReadyH.cons rfl (fun K hK => ?_) AllReadyH.nil
        go_simp
        refine (HN2.out _).mono ?_
        rintro R w5 ⟨rfl, h5⟩
        have H5 := Lib.hid (H4.out.trans (h5.mono H4.out.size))
        clear h5
        dsimp only
        refine hK.out _ _ ?_ (fun hHeld => ?_)
        · exact HKS.out _ H5.out
        clear hK K
        try simp only [Act.put, List.setIfInBounds_toArray, List.set_cons_zero, List.set_cons_succ]
        refine wpAnyH_take (i := 8) (v := ?v8g1_) rfl (by kernel_rfl) (by kernel_rfl) (by kernel_rfl) (fun _ _ _ h => h) (Or.inl ⟨by rfl, ?y8g1_⟩) (by assumption) ?r8g1_
        case y8g1_ => (intro w hSw; (try dsimp only at hSw); go_simp; try with_reducible rfl)
        change wpAnyH _ _ _ _ _ _ _ (Act.put _ (some 10) _) _; simp only [Act.put, List.setIfInBounds_toArray, List.set_cons_zero, List.set_cons_succ]
        refine wpAnyH_take (i := 9) (v := ?v9g1_) rfl (by kernel_rfl) (by kernel_rfl) (by kernel_rfl) (fun _ _ _ h => h) (Or.inl ⟨by rfl, ?y9g1_⟩) (by assumption) ?r9g1_
        case y9g1_ => (intro w hSw; (try dsimp only at hSw); go_simp; try with_reducible rfl)
        change wpAnyH _ _ _ _ _ _ _ (Act.put _ (some 11) _) _; simp only [Act.put, List.setIfInBounds_toArray, List.set_cons_zero, List.set_cons_succ]
        refine wpAnyH_done (by kernel_rfl) ?_ _
        refine NoPanic.normal ?_
        have HB5 := Lib.hid (HB3.out.trans (H5.out.mono HB3.out.size))
        have HBK5 := Lib.hid (HBK3.out.below H5.out HBK3.out.lt)
        clear hHeld HKS HN1 HN2 HB3 HBK3 H4 H5
        have hNI : (N : Int) ≤ 300000 := by omega
        by_cases h1 : K = 0
        · have bh1 : (K == 0) = true := by simpa using h1
          have HFIN := Lib.hid (show Gs = none from HGS.out.symm.trans (gR_head (by rw [HSPH.out]; exact HHP.out.trans (if_pos (by have := HNN.out; omega)))))
          go_wp2_with fail
          exact bodyPost_ret (v := .tuple #[.int .u8 0, .int .i64 0, .slice none 0 0, .bool false]) (by simp [results, Tryd.results23, go_sem]) rfl (guessP_no HFIN.out HB5.out rfl)
        have bh1 : (K == 0) = false := by simpa using h1
        by_cases h2 : n < 1
        · have bh2 : decide (n < 1) = true := by simpa using h2
          have HFIN := Lib.hid (show Gs = none from HGS.out.symm.trans (gR_head (by rw [HSPH.out]; exact HHP.out.trans (if_pos (by have := HNN.out; omega)))))
          go_wp2_with fail
          exact bodyPost_ret (v := .tuple #[.int .u8 0, .int .i64 0, .slice none 0 0, .bool false]) (by simp [results, Tryd.results23, go_sem]) rfl (guessP_no HFIN.out HB5.out rfl)
        have bh2 : decide (n < 1) = false := by simpa using h2
        by_cases h3 : 512 < n
        · have bh3 : decide (512 < n) = true := by simpa using h3
          have HFIN := Lib.hid (show Gs = none from HGS.out.symm.trans (gR_head (by rw [HSPH.out]; exact HHP.out.trans (if_pos (by have := HNN.out; omega)))))
          go_wp2_with fail
          exact bodyPost_ret (v := .tuple #[.int .u8 0, .int .i64 0, .slice none 0 0, .bool false]) (by simp [results, Tryd.results23, go_sem]) rfl (guessP_no HFIN.out HB5.out rfl)
        have bh3 : decide (512 < n) = false := by simpa using h3
        by_cases h4 : (N : Int) < n + 1
        · have bh4 : decide ((N : Int) < n + 1) = true := by simpa using h4
          have HFIN := Lib.hid (show Gs = none from HGS.out.symm.trans (gR_head (by rw [HSPH.out]; exact HHP.out.trans (if_pos (by have := HNN.out; omega)))))
          go_wp2_with fail
          exact bodyPost_ret (v := .tuple #[.int .u8 0, .int .i64 0, .slice none 0 0, .bool false]) (by simp [results, Tryd.results23, go_sem]) rfl (guessP_no HFIN.out HB5.out rfl)
        have bh4 : decide ((N : Int) < n + 1) = false := by simpa using h4
        by_cases h5 : st < 0
        · have bh5 : decide (st < 0) = true := by simpa using h5
          have HFIN := Lib.hid (show Gs = none from HGS.out.symm.trans (gR_head (by rw [HSPH.out]; exact HHP.out.trans (if_pos (by have := HNN.out; omega)))))
          go_wp2_with fail
          exact bodyPost_ret (v := .tuple #[.int .u8 0, .int .i64 0, .slice none 0 0, .bool false]) (by simp [results, Tryd.results23, go_sem]) rfl (guessP_no HFIN.out HB5.out rfl)
        have bh5 : decide (st < 0) = false := by simpa using h5
        by_cases h6 : 2000 < st
        · have bh6 : decide (2000 < st) = true := by simpa using h6
          have HFIN := Lib.hid (show Gs = none from HGS.out.symm.trans (gR_head (by rw [HSPH.out]; exact HHP.out.trans (if_pos (by have := HNN.out; omega)))))
          go_wp2_with fail
          exact bodyPost_ret (v := .tuple #[.int .u8 0, .int .i64 0, .slice none 0 0, .bool false]) (by simp [results, Tryd.results23, go_sem]) rfl (guessP_no HFIN.out HB5.out rfl)
        have bh6 : decide (2000 < st) = false := by simpa using h6
        have HHV := Lib.hid (HHP.out.trans (if_neg (by have := HNN.out; omega)))
        obtain ⟨m, rfl⟩ : ∃ m : Nat, n = m := ⟨n.toNat, by omega⟩
        have HGV := Lib.hid (show Gs = (valsR ((rest.map (·.data.toList)).take m)).map fun vs => (K, st, vs) from HGS.out.symm.trans ((gR_vals (by rw [HSPH.out]; exact HHV.out))))
        have hmr : m ≤ rest.length := by have := HNN.out; omega
        have hst0 : GSt w w5 b cs (rest.map (·.data.toList)) (.slice none 0 0) 0 [] := ⟨HB5.out, HBK5.out, World.ownsRow_nil _ _ _ _, rfl, rfl⟩
        have HST0 := Lib.hid hst0
        clear hst0 HGS HSPH HHP HHV HB5 HBK5
        go_wp2_with fail
        go_loopg [12, 13] m (fun gf v12 v13 wr => ∃ (i : Nat) (xs : List Int) (v : Value), v13 = .int .i64 ((i : Int) + 1) ∧ v12 = v ∧ i + gf = m ∧ GSt w wr b cs (rest.map (·.data.toList)) v i xs)
        case atStart => exact ⟨0, [], _, rfl, rfl, by omega, HST0.out⟩
        case round =>
          clear HST0
          obtain ⟨i, xs, v, rfl, rfl, hi, hst⟩ := hrel
          have HST := Lib.hid hst
          cases gk with
          | zero =>
            obtain rfl : i = m := by omega
            obtain ⟨A, c, rfl, _⟩ := own_parts hst.own
            have hr := hst.own
            have hlen := hst.len
            have hfin : Gs = some (K, st, xs) := by rw [HGV.out, hst.vals]; rfl
            rw [← hlen] at hr
            have HFIN := Lib.hid hfin; have HLEN := Lib.hid hlen; have HRD := Lib.hid (Rd.of_own hr)
            have hle : decide ((i : Int) + 1 ≤ (i : Int)) = false := by simp; omega
            have hleI : ¬ ((i : Int) + 1 ≤ (i : Int)) := by omega
            clear hst hr hlen hfin
            go_wp2
            refine bodyPost_ret (v := .tuple #[.int .u8 K, .int .i64 st, .slice A i c, .bool true]) (by simp [results, Tryd.results23, go_sem]) rfl (guessP_yes (A := A) (c := c) HFIN.out HST.out.below (by rw [HLEN.out]) HRD.out)
          | succ gf =>
            have him : i < m := by omega
            have hiI : (i : Int) + 1 ≤ (m : Int) := by omega
            have hib : decide ((i : Int) + 1 ≤ (m : Int)) = true := decide_eq_true hiI
            have hiN : (i : Int) + 1 < (N : Int) := by have := HNN.out; omega
            obtain ⟨x, hx⟩ : ∃ x, rest[i]? = some x := ⟨_, List.getElem?_eq_getElem (by omega)⟩
            have hxl : (rest.map (·.data.toList))[i]? = some x.data.toList := by rw [List.getElem?_map, hx]; rfl
            have hxs := HSM.out x (List.mem_cons_of_mem _ (List.mem_of_getElem? hx))
            have hc1 : wr.cell? ⟨b, i + 1, none⟩ = some (.string x) := by rw [hst.lines.cell]; exact HCS.out i x hx
            have HXL := Lib.hid hxl
            clear hx hxl hst
            go_wp2_with fail
            refine (HWD.out _ x (by omega)).mono ?_
            rintro e w7 ⟨vw, rfl, how, hb7⟩
            obtain ⟨Aw, cw, rfl, _⟩ := own_parts how
            have hspl := fun y (hy : y ∈ spB x) => Nat.le_trans (spB_small hy) hxs
            have hsx := HST.out.on hb7
            by_cases hl : 2 ≤ (spB x).length
            case neg =>
              have hb : decide (((spB x).length : Int) < 2) = true := by simp; omega
              have hbI : ((spB x).length : Int) < 2 := by omega
              have HFIN := Lib.hid (show Gs = none by rw [HGV.out, valsR_stop HXL.out him (valR_short (by omega))]; rfl)
              have HBX := Lib.hid hsx.below
              clear hl how hb7 hspl hsx
              go_wp2_with fail
              exact bodyPost_ret (v := .tuple #[.int .u8 0, .int .i64 0, .slice none 0 0, .bool false]) (by simp [results, Tryd.results23, go_sem]) rfl (guessP_no HFIN.out HBX.out rfl)
            obtain ⟨y0, y1, r, hsp⟩ : ∃ y0 y1 r, spB x = y0 :: y1 :: r := by
              match hq : spB x, hl with
              | y0 :: y1 :: r, _ => exact ⟨y0, y1, r, rfl⟩
            have hvp := valR_of hsp
            rw [hsp] at how hspl hl ⊢
            have hys := hspl y1 (by simp)
            obtain ⟨gx, csx, rfl, hgxl, hbx, hcx⟩ := words_own2 how (by simp)
            have hd1 : csx[1]? = some (.string y1) := by
              have h9 := hcx 1 y1 rfl
              rw [(show Blk w7 gx 9 csx from hbx).cell] at h9
              exact h9
            have d1 := hcx 1 y1 rfl
            obtain ⟨lx, hlx⟩ : ∃ lx, (y0 :: y1 :: r).length = lx := ⟨_, rfl⟩
            rw [hlx] at hl ⊢
            have hlb : decide ((lx : Int) < 2) = false := by simp; omega
            have hlI : ¬ (lx : Int) < 2 := by omega
            have hl1 : 1 < lx := by omega
            have hl2 : (1 : Int) < (lx : Int) := by omega
            have HXS0 := Lib.hid hsx; have HVP := Lib.hid hvp; have HKX := Lib.hid (show Blk w7 gx 9 csx from hbx)
            have HNM := Lib.hid (HNUM2.out w7 y1 (by omega))
            have hnb1 := numD_bd y1.data.toList
            obtain ⟨z, hz⟩ : ∃ z, (numL y1.data.toList).getD (-1) = z := ⟨_, rfl⟩
            rw [hz] at HNM HVP hnb1
            clear hsp hspl hsx hlx how hvp hl hbx hcx hb7 hz
            go_wp2_with fail
            refine HNM.out.mono ?_
            rintro e wX ⟨rfl, h8⟩
            have hxs8 := HXS0.out.on h8
            have d2 : wX.cell? ⟨gx, 1, none⟩ = some (.string y1) := by rw [(HKX.out.below h8 HKX.out.lt).cell]; exact hd1
            have HXS := Lib.hid hxs8
            clear h8 HXS0 HNM hxs8 hd1 d1 HKX
            by_cases hd : y1.data.toList = [45]
            · have hb1 : (y1.toList == [45]) = true := by rw [ByteArray.toList_eq, hd]; rfl
              have HV1 := Lib.hid (show valR x.data.toList = some 4611686018427387904 by rw [HVP.out, if_pos hd]; rfl)
              clear hd
              go_wp2_with (at_builtin; refine wpList_app _ wX rfl (.tmp 95) (.tmp 97) 24 rfl w.heap.size 2 i0 (.int .i64 0) 1 8 Tryd.underlying24 HI0.out HZ0.out hz1 hz2 rfl (by decide) (by decide) _ i _ rfl (Lib.hid HXS.out.own) [.int .i64 4611686018427387904] rfl rfl rfl _ rfl rfl (by omega) HXS.out.below.size ?_; intro v3 w9 h2 h3 h4; have HA := Lib.hid (HXS.out.app HXL.out HV1.out h2.out h3.out h4.out); clear h2 h3 h4)
              go_wp2
              go_roundg gf
              case measure => omega
              case rel => exact ⟨i + 1, _, v3, by go_num, rfl, by omega, HA.out⟩
            · have hb1 : (y1.toList == [45]) = false := by rw [ByteArray.toList_eq]; simpa using hd
              have HV1 := Lib.hid (show valR x.data.toList = some z by rw [HVP.out, if_neg hd])
              clear hd
              go_wp2_with (at_builtin; refine wpList_app _ wX rfl (.tmp 95) (.tmp 97) 24 rfl w.heap.size 2 i0 (.int .i64 0) 1 8 Tryd.underlying24 HI0.out HZ0.out hz1 hz2 rfl (by decide) (by decide) _ i _ rfl (Lib.hid HXS.out.own) [.int .i64 z] rfl rfl rfl _ rfl rfl (by omega) HXS.out.below.size ?_; intro v3 w9 h2 h3 h4; have HA := Lib.hid (HXS.out.app HXL.out HV1.out h2.out h3.out h4.out); clear h2 h3 h4)
              go_wp2
              go_roundg gf
              case measure => omega
              case rel => exact ⟨i + 1, _, v3, by go_num, rfl, by omega, HA.out⟩
end Go.Proofs.YtggegefeagkhkaaDoor
