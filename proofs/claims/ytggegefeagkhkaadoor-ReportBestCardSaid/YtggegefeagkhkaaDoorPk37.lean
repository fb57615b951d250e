/- slices' rotation over a row of places. SymMerge in plain words: where two sorted pieces are cut, their parts in order, the parts merged. -/
import Derived.Test.YtggegefeagkhkaaDoorRpU
import Derived.Test.YtggegefeagkhkaaDoorRpN
namespace Go.Proofs.YtggegefeagkhkaaDoor
open Go.RowKit

set_option maxRecDepth 100000 in
set_option maxHeartbeats 8000000 in
theorem rot_any (w : World) (vs : List Int) (A : Option Addr) (c g gb N : Nat) (P U V Q : List Nat) (f : Value) (a m b : Nat) (h : Srt w vs A c g gb (P ++ (U ++ (V ++ Q)))) (ha : P.length = a) (hm : a + U.length = m) (hb : m + V.length = b) (hU : 0 < U.length) (hV : 0 < V.length) (hN : (P ++ (U ++ (V ++ Q))).length = N) (hl : N ≤ 1000000) :
    Calls Tryd.prog 76 #[.slice (some ⟨g, 0, none⟩) N N, .int .i64 (a : Int), .int .i64 (m : Int), .int .i64 (b : Int), f] w fun e w' => e = .returned (.tuple #[]) ∧ Srt w' vs A c g gb (P ++ (V ++ (U ++ Q))) ∧ w.grownBy w' (some g) := by
  have hNs : a + U.length + V.length + Q.length = N := by rw [← hN]; simp only [List.length_append]; omega
  have HS0 := Lib.hid h; have HA := Lib.hid ha; have HM := Lib.hid hm; have HB := Lib.hid hb; have HU := Lib.hid hU; have HV := Lib.hid hV
  have HSW := Lib.hid (fun (W : World) (P X M Y Q : List Nat) (a b n : Nat) (h : Srt W vs A c g gb (P ++ (X ++ (M ++ (Y ++ Q))))) h1 h2 h3 h4 h5 => swapR_any W vs A c g gb N P X M Y Q f a b n h h1 h2 h3 h4 h5 hl)
  have hab : a ≤ m ∧ m ≤ b ∧ b ≤ N := by omega
  obtain ⟨hab1, hab2, hab3⟩ := hab
  have hd1 : (m : Int) - (a : Int) = (U.length : Int) := by omega
  have hd2 : (b : Int) - (m : Int) = (V.length : Int) := by omega
  have HD := Lib.hid (And.intro hd1 hd2); have HNS := Lib.hid hNs
  clear h ha hm hb hU hV hN hNs hd1 hd2
  go_enter Tryd.func76, Tryd.ntmps76
  go_wp2
  go_loopg [10, 11] (U.length + V.length) (fun gf v10 v11 wr => ∃ (i j : Nat) (A' U' V' B' : List Nat), v10 = .int .i64 i ∧ v11 = .int .i64 j ∧ i + j = gf ∧ U'.length = i ∧ V'.length = j ∧ A'.length + i = m ∧ 0 < i ∧ 0 < j ∧ P ++ (V ++ (U ++ Q)) = A' ++ (V' ++ (U' ++ B')) ∧ Srt wr vs A c g gb (A' ++ (U' ++ (V' ++ B'))) ∧ w.grownBy wr (some g))
  case atStart => exact ⟨U.length, V.length, P, U, V, Q, by rw [HD.out.1], by rw [HD.out.2], rfl, rfl, rfl, by rw [HA.out]; exact HM.out, HU.out, HV.out, rfl, HS0.out, World.grownBy.refl w _⟩
  case round =>
    clear HS0
    obtain ⟨i, j, A', U', V', B', rfl, rfl, hij, hu, hv, hA, hi0, hj0, hT, hst, hgr⟩ := hrel
    have hlen : (A' ++ (U' ++ (V' ++ B'))).length = N := by
      have h9 := congrArg List.length hT
      simp only [List.length_append] at h9 ⊢
      have h8 := HNS.out; have h7 := HA.out
      omega
    have hjm : m + j ≤ N := by
      have h9 := hlen
      simp only [List.length_append] at h9
      omega
    obtain ⟨a', ha'⟩ : ∃ a', A'.length = a' := ⟨_, rfl⟩
    have ham : a' + i = m := by omega
    have hmi : (m : Int) - (i : Int) = (a' : Int) := by omega
    have hiM : (i : Int) ≤ (m : Int) := by omega
    have hmN : (m : Int) ≤ 1000000 := by omega
    have hjN : (j : Int) ≤ 1000000 := by omega
    rcases Nat.lt_trichotomy i j with hlt | heq | hgt
    · have hne : ((i : Int) != (j : Int)) = true := by rw [bne_iff_ne]; omega
      have hgd : decide ((j : Int) < (i : Int)) = false := by simp; omega
      have hgI : ¬ (j : Int) < (i : Int) := by omega
      have hvt : V' = V'.take (j - i) ++ V'.drop (j - i) := (List.take_append_drop _ _).symm
      have hl1 : (V'.take (j - i)).length = j - i := by rw [List.length_take]; omega
      have hl2 : (V'.drop (j - i)).length = i := by rw [List.length_drop]; omega
      obtain ⟨V1, hV1⟩ : ∃ V1, V'.take (j - i) = V1 := ⟨_, rfl⟩
      obtain ⟨V2, hV2⟩ : ∃ V2, V'.drop (j - i) = V2 := ⟨_, rfl⟩
      rw [hV1] at hvt hl1
      rw [hV2] at hvt hl2
      have hst2 : Srt wr vs A c g gb (A' ++ (U' ++ (V1 ++ (V2 ++ B')))) := by rw [hvt] at hst; simpa using hst
      have hsw := HSW.out wr A' U' V1 V2 B' a' (m + j - i) i hst2 hu hl2 ha' (by omega) (by rw [← hlen, hvt]; simp)
      rw [← hmi, show ((m + j - i : Nat) : Int) = (m : Int) + (j : Int) - (i : Int) by omega] at hsw
      have HSW1 := Lib.hid hsw
      have HF := Lib.hid (show P ++ (V ++ (U ++ Q)) = A' ++ (V1 ++ (V2 ++ (U' ++ B'))) by rw [hT, hvt]; simp)
      have HL := Lib.hid (And.intro hl1 hl2); have HAM := Lib.hid (And.intro ha' ham); have HG := Lib.hid hgr
      have hmjI : (m : Int) + (j : Int) ≤ (N : Int) := by omega
      have hlt2 : (i : Int) < (j : Int) := by omega
      have hji : (j : Int) - (i : Int) = ((j - i : Nat) : Int) := by omega
      have HJI := Lib.hid hji
      clear hst hst2 hsw hgr hT hlen hvt hl1 hl2 hV1 hV2 hu hv hA ha' ham hmi hji
      go_wp2_with fail
      (with_reducible refine HSW1.out.mono ?_)
      rintro e w2 ⟨rfl, h2, g2⟩
      have H2 := Lib.hid h2; have G2 := Lib.hid (grown_trans_ HG.out g2)
      clear h2 g2
      go_wp2
      go_roundg (i + (j - i))
      case measure => omega
      case rel => exact ⟨i, j - i, A', V2, V1, U' ++ B', rfl, by rw [HJI.out], rfl, HL.out.2, HL.out.1, by rw [HAM.out.1]; exact HAM.out.2, hi0, by omega, HF.out, by simpa using H2.out, G2.out⟩
    · subst heq
      have hst2 : Srt wr vs A c g gb (A' ++ (U' ++ ([] ++ (V' ++ B')))) := by simpa using hst
      have hsw := HSW.out wr A' U' [] V' B' a' m i hst2 hu hv ha' (by simp; omega) (by rw [← hlen]; simp)
      rw [← hmi] at hsw
      have HSW1 := Lib.hid hsw
      have HF := Lib.hid hT; have HG := Lib.hid hgr
      clear hst hst2 hsw hgr hT hlen hu hv hA ha' hmi
      go_wp2_with fail
      (with_reducible refine HSW1.out.mono ?_)
      rintro e w2 ⟨rfl, h2, g2⟩
      have H2 := Lib.hid (show Srt w2 vs A c g gb (P ++ (V ++ (U ++ Q))) by rw [HF.out]; simpa using h2); have G2 := Lib.hid (grown_trans_ HG.out g2)
      clear h2 g2
      go_wp2
      go_end0
      exact ⟨rfl, H2.out, G2.out⟩
    · have hne : ((i : Int) != (j : Int)) = true := by rw [bne_iff_ne]; omega
      have hgd : decide ((j : Int) < (i : Int)) = true := by simp; omega
      have hgI : (j : Int) < (i : Int) := by omega
      have hut : U' = U'.take j ++ U'.drop j := (List.take_append_drop _ _).symm
      have hl1 : (U'.take j).length = j := by rw [List.length_take]; omega
      have hl2 : (U'.drop j).length = i - j := by rw [List.length_drop]; omega
      obtain ⟨U1, hU1⟩ : ∃ U1, U'.take j = U1 := ⟨_, rfl⟩
      obtain ⟨U2, hU2⟩ : ∃ U2, U'.drop j = U2 := ⟨_, rfl⟩
      rw [hU1] at hut hl1
      rw [hU2] at hut hl2
      have hst2 : Srt wr vs A c g gb (A' ++ (U1 ++ (U2 ++ (V' ++ B')))) := by rw [hut] at hst; simpa using hst
      have hsw := HSW.out wr A' U1 U2 V' B' a' m j hst2 hl1 hv ha' (by omega) (by rw [← hlen, hut]; simp)
      rw [← hmi] at hsw
      have HSW1 := Lib.hid hsw
      have HF := Lib.hid (show P ++ (V ++ (U ++ Q)) = (A' ++ V') ++ (U1 ++ (U2 ++ B')) by rw [hT, hut]; simp)
      have HL := Lib.hid (And.intro hl1 hl2); have HAM := Lib.hid (And.intro ha' ham); have HG := Lib.hid hgr
      have hji : (i : Int) - (j : Int) = ((i - j : Nat) : Int) := by omega
      have HJI := Lib.hid hji; have HV' := Lib.hid hv
      clear hst hst2 hsw hgr hT hlen hut hl1 hl2 hU1 hU2 hu hv hA ha' ham hmi hji
      go_wp2_with fail
      (with_reducible refine HSW1.out.mono ?_)
      rintro e w2 ⟨rfl, h2, g2⟩
      have H2 := Lib.hid h2; have G2 := Lib.hid (grown_trans_ HG.out g2)
      clear h2 g2
      go_wp2
      go_roundg ((i - j) + j)
      case measure => omega
      case rel => exact ⟨i - j, j, A' ++ V', U2, U1, B', by rw [HJI.out], rfl, rfl, HL.out.2, HL.out.1, by rw [List.length_append, HAM.out.1, HV'.out]; have := HAM.out.2; omega, by omega, hj0, HF.out, by simpa using H2.out, G2.out⟩
end Go.Proofs.YtggegefeagkhkaaDoor
namespace Go.Proofs.YtggegefeagkhkaaDoor

theorem sorted_at {vs : List Int} {s : List Nat} (h : s.Pairwise (lt vs)) {i j x y : Nat} (hij : i < j) (hx : s[i]? = some x) (hy : s[j]? = some y) : lt vs x y := by
  obtain ⟨hi, rfl⟩ := List.getElem?_eq_some_iff.1 hx
  obtain ⟨hj, rfl⟩ := List.getElem?_eq_some_iff.1 hy
  exact List.pairwise_iff_getElem.1 h i j hi hj hij
theorem sorted_le {vs : List Int} {s : List Nat} (h : s.Pairwise (lt vs)) {i j x y : Nat} (hij : i ≤ j) (hx : s[i]? = some x) (hy : s[j]? = some y) : x = y ∨ lt vs x y := by
  rcases Nat.lt_or_ge i j with h1 | h1
  · exact .inr (sorted_at h h1 hx hy)
  · obtain rfl : i = j := by omega
    rw [hx] at hy
    injection hy with hy
    exact .inl hy
theorem mem_take_at {α : Type} {s : List α} {n : Nat} {x : α} (h : x ∈ s.take n) : ∃ i, i < n ∧ s[i]? = some x := by
  obtain ⟨i, hi, he⟩ := List.mem_iff_getElem.1 h
  rw [List.length_take] at hi
  refine ⟨i, by omega, ?_⟩
  rw [List.getElem_take] at he
  rw [List.getElem?_eq_getElem (by omega), he]
theorem mem_drop_at {α : Type} {s : List α} {n : Nat} {x : α} (h : x ∈ s.drop n) : ∃ i, n ≤ i ∧ s[i]? = some x := by
  obtain ⟨i, hi, he⟩ := List.mem_iff_getElem.1 h
  rw [List.length_drop] at hi
  refine ⟨n + i, by omega, ?_⟩
  rw [List.getElem_drop] at he
  rw [List.getElem?_eq_getElem (by omega), he]
/-- the part before a cut is ahead of one -/
theorem cut_lt {vs : List Int} {s : List Nat} (h : s.Pairwise (lt vs)) {k e : Nat} (h1 : 0 < k → ∃ x, s[k - 1]? = some x ∧ lt vs x e) : ∀ x ∈ s.take k, lt vs x e := by
  intro x hx
  obtain ⟨i, hi, hxi⟩ := mem_take_at hx
  obtain ⟨y, hy, hl⟩ := h1 (by omega)
  rcases sorted_le h (show i ≤ k - 1 by omega) hxi hy with e | e
  · rw [e]; exact hl
  · exact lt_trans e hl
theorem cut_gt {vs : List Int} {s : List Nat} (h : s.Pairwise (lt vs)) {k e : Nat} (h1 : k < s.length → ∃ y, s[k]? = some y ∧ lt vs e y) : ∀ y ∈ s.drop k, lt vs e y := by
  intro x hx
  obtain ⟨i, hi, hxi⟩ := mem_drop_at hx
  have hil := (List.getElem?_eq_some_iff.1 hxi).1
  obtain ⟨y, hy, hl⟩ := h1 (by omega)
  rcases sorted_le h hi hy hxi with e | e
  · rw [← e]; exact hl
  · exact lt_trans hl e
/-- two sorted pieces, cut: the one's part before is ahead of the other's part behind -/
theorem cut_two {vs : List Int} {s t : List Nat} (hs : s.Pairwise (lt vs)) (ht : t.Pairwise (lt vs)) {i j : Nat} (h1 : 0 < i → j < t.length → ∃ x y, s[i - 1]? = some x ∧ t[j]? = some y ∧ lt vs x y) : ∀ x ∈ s.take i, ∀ y ∈ t.drop j, lt vs x y := by
  intro x hx y hy
  obtain ⟨a, ha, hxa⟩ := mem_take_at hx
  obtain ⟨b, hb, hyb⟩ := mem_drop_at hy
  have hbl := (List.getElem?_eq_some_iff.1 hyb).1
  obtain ⟨x', y', hx', hy', hl⟩ := h1 (by omega) (by omega)
  have h2 : lt vs x y' := by
    rcases sorted_le hs (show a ≤ i - 1 by omega) hxa hx' with e | e
    · rw [e]; exact hl
    · exact lt_trans e hl
  rcases sorted_le ht hb hy' hyb with e | e
  · rw [← e]; exact h2
  · exact lt_trans h2 e
/-- parts in order, each merged: the whole is merged -/
theorem merge_parts {vs : List Int} {u1 u2 v1 v2 t1 t2 : List Nat} (hs : (u1 ++ u2).Pairwise (lt vs)) (ht : (v1 ++ v2).Pairwise (lt vs)) (h1 : ∀ x ∈ u1, ∀ y ∈ v2, lt vs x y) (h2 : ∀ x ∈ v1, ∀ y ∈ u2, lt vs x y)
    (p1 : t1.Perm (u1 ++ v1)) (p2 : t2.Perm (u2 ++ v2)) (q1 : t1.Pairwise (lt vs)) (q2 : t2.Pairwise (lt vs)) : (t1 ++ t2).Perm ((u1 ++ u2) ++ (v1 ++ v2)) ∧ (t1 ++ t2).Pairwise (lt vs) := by
  constructor
  · refine (p1.append p2).trans ?_
    rw [List.append_assoc, List.append_assoc]
    refine List.Perm.append_left u1 ?_
    rw [← List.append_assoc, ← List.append_assoc]
    exact List.Perm.append_right v2 List.perm_append_comm
  · refine List.pairwise_append.2 ⟨q1, q2, fun x hx y hy => ?_⟩
    have hx' := List.mem_append.1 (p1.mem_iff.1 hx)
    have hy' := List.mem_append.1 (p2.mem_iff.1 hy)
    rcases hx' with hx' | hx' <;> rcases hy' with hy' | hy'
    · exact (List.pairwise_append.1 hs).2.2 x hx' y hy'
    · exact h1 x hx' y hy'
    · exact h2 x hx' y hy'
    · exact (List.pairwise_append.1 ht).2.2 x hx' y hy'
/-- one put between -/
theorem put_between {vs : List Int} {t1 t2 : List Nat} {e : Nat} (h : (t1 ++ t2).Pairwise (lt vs)) (h1 : ∀ x ∈ t1, lt vs x e) (h2 : ∀ y ∈ t2, lt vs e y) : (t1 ++ e :: t2).Pairwise (lt vs) := by
  rw [List.pairwise_append] at h ⊢
  obtain ⟨a, b, c⟩ := h
  refine ⟨a, List.pairwise_cons.2 ⟨h2, b⟩, fun x hx y hy => ?_⟩
  rcases List.mem_cons.1 hy with rfl | hy
  · exact h1 x hx
  · exact c x hx y hy
end Go.Proofs.YtggegefeagkhkaaDoor
