/- The reference's store of checkpoints: the step of a file's name; in plain words. The reference's store of checkpoints: step, of a file's name. The reference's store of checkpoints: all, the steps of all files, rising. The reference's disk is small where the program's is. -/
import Derived.Test.YthmcimpdehgaoaaGreatDoorPk7
import Derived.Test.YthmcimpdehgaoaaGreatDoorPk28
import Derived.Test.YthmcimpdehgaoaaGreatDoorPk17
import Derived.Test.YthmcimpdehgaoaaGreatDoorRkP
import Derived.Test.YthmcimpdehgaoaaGreatDoorPk6
namespace Go.Proofs.YthmcimpdehgaoaaGreatDoor
open Go.RowKit

def dvalC (l : List UInt8) : Nat := l.foldl (fun a c => a * 10 + (c.toNat - 48)) 0
theorem dvalC_snoc (l : List UInt8) (c : UInt8) : dvalC (l ++ [c]) = dvalC l * 10 + (c.toNat - 48) := by
  unfold dvalC
  rw [List.foldl_append]
  rfl
theorem dvalC_go : ∀ (l : List UInt8) (a : Nat), (∀ c ∈ l, 48 ≤ c.toNat ∧ c.toNat ≤ 57) → l.foldl (fun a c => a * 10 + (c.toNat - 48)) a < (a + 1) * 10 ^ l.length := by
  intro l
  induction l with
  | nil => intro a _; simp
  | cons c l ih =>
    intro a h
    have h2 := h c List.mem_cons_self
    have h1 := ih (a * 10 + (c.toNat - 48)) (fun x hx => h x (List.mem_cons_of_mem _ hx))
    rw [List.foldl_cons, List.length_cons, Nat.pow_succ]
    refine Nat.lt_of_lt_of_le h1 ?_
    have e : (a + 1) * (10 ^ l.length * 10) = (a * 10 + 10) * 10 ^ l.length := by
      rw [show a * 10 + 10 = (a + 1) * 10 from by omega, Nat.mul_assoc, Nat.mul_comm 10]
    rw [e]
    exact Nat.mul_le_mul_right _ (by omega)
theorem dvalC_lt (l : List UInt8) (h : ∀ c ∈ l, 48 ≤ c.toNat ∧ c.toNat ≤ 57) : dvalC l < 10 ^ l.length := by
  have := dvalC_go l 0 h
  rw [Nat.zero_add, Nat.one_mul] at this
  exact this
theorem decDigits_len : ∀ (k u : Nat), 0 < k → u < 10 ^ k → (Lib.decDigits u).length ≤ k ∧ 0 < (Lib.decDigits u).length := by
  intro k
  induction k with
  | zero => intro u h _; omega
  | succ k ih =>
    intro u _ hu
    rw [Lib.decDigits]
    split
    · exact ⟨by simp, by simp⟩
    · rename_i h
      have hk : 0 < k := by
        by_cases hk : k = 0
        · subst hk; simp at hu; omega
        · omega
      rw [Nat.pow_succ] at hu
      have h1 := ih (u / 10) hk (by omega)
      rw [List.length_append]
      exact ⟨by simp; omega, by simp⟩
/-- what a step's name is like -/
theorem stepOf_shape {T : ByteArray} {m : Nat} (h : stepOf T = some m) : 4 ≤ T.size ∧ T.size ≤ 13 ∧ T.data.toList.take 3 = [99, 107, 46] ∧ (∀ c ∈ T.data.toList.drop 3, 48 ≤ c.toNat ∧ c.toNat ≤ 57) ∧ dvalC (T.data.toList.drop 3) = m ∧ m ≤ 1073741824 ∧ nameC m = T := by
  obtain ⟨hm, rfl⟩ := stepOf_some.1 h
  have hl := decDigits_len 10 m (by decide) (by omega)
  have hs : (nameC m).size = 3 + (Lib.decDigits m).length := by
    have : (nameC m).size = (nameC m).data.toList.length := by simp
    rw [this, nameC_list, List.length_append]
    rfl
  rw [nameC_list]
  refine ⟨by omega, by omega, rfl, fun c hc => decDigits_lt m c hc, ?_, hm, rfl⟩
  exact decDigits_val m
theorem stepOf_none_iff {T : ByteArray} (h : ∀ m, stepOf T ≠ some m) : stepOf T = none := by
  cases hx : stepOf T with
  | none => rfl
  | some m => exact absurd hx (h m)
noncomputable def stepI (T : ByteArray) : Int := match stepOf T with
  | some n => (n : Int)
  | none => -1
theorem stepI_none {T : ByteArray} (h : ∀ m, stepOf T ≠ some m) : stepI T = -1 := by unfold stepI; rw [stepOf_none_iff h]
theorem stepI_some {T : ByteArray} {n : Nat} (h : n ≤ 1073741824) (hn : nameC n = T) : stepI T = n := by unfold stepI; rw [stepOf_some.2 ⟨h, hn⟩]
theorem take_snoc (T : ByteArray) (i : Nat) (h3 : 3 ≤ i) (hi : i < T.size) : (T.data.toList.drop 3).take (i + 1 - 3) = (T.data.toList.drop 3).take (i - 3) ++ [T.get! i] := by
  have hs : T.size = T.data.size := rfl
  rw [show i + 1 - 3 = (i - 3) + 1 from by omega, List.take_add_one, List.getElem?_drop, show 3 + (i - 3) = i from by omega, Array.getElem?_toList, Array.getElem?_eq_getElem (by omega)]
  simp only [ByteArray.get!, getElem!_pos, show i < T.data.size from by omega]
  rfl
end Go.Proofs.YthmcimpdehgaoaaGreatDoor
namespace Go.Proofs.YthmcimpdehgaoaaGreatDoor
open Go.RowKit Go.Maps

theorem toList_ck : (⟨#[99, 107, 46]⟩ : ByteArray).toList = [99, 107, 46] := by rw [ByteArray.toList_eq]
theorem get_idx (T : ByteArray) (i : Nat) (h : i < T.size) : T[i]'h = T.get! i := by
  simp only [ByteArray.get!, getElem!_pos, show i < T.data.size from h]
  rfl
set_option maxRecDepth 100000 in
set_option maxHeartbeats 8000000 in
theorem rcstep_any (w : World) (T : ByteArray) : Calls Tryz.prog 130 #[.string T] w fun e w' => e = .returned (.int .i64 (stepI T)) ∧ w = w' := by
  have hsh := fun m (h : stepOf T = some m) => stepOf_shape h
  obtain ⟨V, hV⟩ : ∃ V, stepI T = V := ⟨_, rfl⟩
  have hno : (∀ m, stepOf T ≠ some m) → V = -1 := fun h => hV.symm.trans (stepI_none h)
  have hyes : ∀ n, n ≤ 1073741824 → nameC n = T → V = (n : Int) := fun n h1 h2 => hV.symm.trans (stepI_some h1 h2)
  rw [hV]
  have HSH := Lib.hid hsh; have HNO := Lib.hid hno; have HYES := Lib.hid hyes
  clear hsh hno hyes hV
  by_cases h4 : T.size < 4
  · have h4I : (T.size : Int) < 4 := by omega
    have h4b : decide ((T.size : Int) < 4) = true := decide_eq_true h4I
    have HF := Lib.hid (HNO.out (fun m h => by have := (HSH.out m h).1; omega))
    go_enter Tryz.func130, Tryz.ntmps130
    go_wp2
    go_ret
    exact ⟨by rw [HF.out]; rfl, rfl⟩
  have h4I : ¬ (T.size : Int) < 4 := by omega
  have h4b : decide ((T.size : Int) < 4) = false := decide_eq_false h4I
  by_cases h13 : 13 < T.size
  · have h13I : (13 : Int) < (T.size : Int) := by omega
    have h13b : decide ((13 : Int) < (T.size : Int)) = true := decide_eq_true h13I
    have HF := Lib.hid (HNO.out (fun m h => by have := (HSH.out m h).2.1; omega))
    go_enter Tryz.func130, Tryz.ntmps130
    go_wp2
    go_ret
    exact ⟨by rw [HF.out]; rfl, rfl⟩
  have h13I : ¬ (13 : Int) < (T.size : Int) := by omega
  have h13b : decide ((13 : Int) < (T.size : Int)) = false := decide_eq_false h13I
  have hsz3 : ¬ T.size < 3 := by omega
  have hpx : (T.extract 0 3).data.toList = T.data.toList.take 3 := by simp [ByteArray.data_extract]
  by_cases hp : T.extract 0 3 = ⟨#[99, 107, 46]⟩
  case neg =>
    have hYb : ((T.extract 0 3).toList == (⟨#[99, 107, 46]⟩ : ByteArray).toList) = false := by rw [cbeq_]; exact decide_eq_false hp
    have hYl : ((T.extract 0 3).toList == [99, 107, 46]) = false := by rw [← toList_ck]; exact hYb
    have hYp : ¬ (T.extract 0 3).toList = [99, 107, 46] := by simpa using hYl
    have HF := Lib.hid (HNO.out (fun m h => hp (by
      have h1 := (HSH.out m h).2.2.1
      rw [← hpx] at h1
      exact ByteArray.ext (Array.toList_inj.1 h1))))
    clear hp hpx
    go_enter Tryz.func130, Tryz.ntmps130
    go_wp2
    go_ret
    exact ⟨by rw [HF.out]; rfl, rfl⟩
  have hYb : ((T.extract 0 3).toList == (⟨#[99, 107, 46]⟩ : ByteArray).toList) = true := by rw [cbeq_]; exact decide_eq_true hp
  have hYl : ((T.extract 0 3).toList == [99, 107, 46]) = true := by rw [← toList_ck]; exact hYb
  have hYp : (T.extract 0 3).toList = [99, 107, 46] := by simpa using hYl
  clear hp hpx
  go_enter Tryz.func130, Tryz.ntmps130
  go_wp2
  clear hYb hYl hYp
  go_loopg [3, 4] (T.size - 3) (fun gf vn vi wr => ∃ i : Nat, vn = .int .i64 (dvalC ((T.data.toList.drop 3).take (i - 3)) : Nat) ∧ vi = .int .i64 i ∧ 3 ≤ i ∧ i + gf = T.size ∧ (∀ c ∈ (T.data.toList.drop 3).take (i - 3), 48 ≤ c.toNat ∧ c.toNat ≤ 57) ∧ w = wr)
  case atStart => exact ⟨3, rfl, rfl, by omega, by omega, by simp, rfl⟩
  case round =>
    obtain ⟨i, rfl, rfl, h3, hi, hdg, rfl⟩ := hrel
    have hlt := dvalC_lt _ hdg
    have hll : ((T.data.toList.drop 3).take (i - 3)).length ≤ 10 := by rw [List.length_take]; omega
    have hlt2 : dvalC ((T.data.toList.drop 3).take (i - 3)) < 10 ^ 10 := Nat.lt_of_lt_of_le hlt (Nat.pow_le_pow_right (by decide) hll)
    cases gk with
    | zero =>
      obtain rfl : i = T.size := by omega
      have hall : (T.data.toList.drop 3).take (T.size - 3) = T.data.toList.drop 3 := List.take_of_length_le (by rw [List.length_drop]; exact Nat.le_refl _)
      rw [hall] at hlt2 ⊢
      have HSM := Lib.hid (fun m (h : stepOf T = some m) => (show dvalC (T.data.toList.drop 3) = m ∧ m ≤ 1073741824 ∧ nameC m = T from let h2 := HSH.out m h; ⟨h2.2.2.2.2.1, h2.2.2.2.2.2⟩))
      obtain ⟨N, hN⟩ : ∃ N, dvalC (T.data.toList.drop 3) = N := ⟨_, rfl⟩
      rw [hN] at hlt2 HSM ⊢
      have HM := Lib.hid (rcmay_any w (N : Int))
      clear hlt hll hall hdg hN hi
      by_cases hm : N ≤ 1073741824
      case neg =>
        rw [decide_eq_false (by omega)] at HM
        have HF := Lib.hid (HNO.out (fun m h => by have := (HSM.out m h).1; have := (HSM.out m h).2.1; omega))
        go_wp2_with fail
        refine HM.out.mono ?_
        rintro e w1 ⟨rfl, rfl⟩
        clear HM
        go_wp2
        go_ret
        exact ⟨by rw [HF.out]; rfl, rfl⟩
      rw [decide_eq_true ⟨by omega, by omega⟩] at HM
      have HNM := Lib.hid (rcname_any w N (by omega))
      by_cases hn : nameC N = T
      · have hYb : ((nameC N).toList == T.toList) = true := by rw [cbeq_]; exact decide_eq_true hn
        have HF := Lib.hid (HYES.out N hm hn)
        obtain ⟨T2, hT2⟩ : ∃ T2, nameC N = T2 := ⟨_, rfl⟩
        rw [hT2] at hYb HNM
        clear hn hT2
        go_wp2_with fail
        refine HM.out.mono ?_
        rintro e w1 ⟨rfl, rfl⟩
        clear HM
        go_wp2_with fail
        refine HNM.out.mono ?_
        rintro e w1 ⟨rfl, rfl⟩
        go_wp2
        go_ret
        exact ⟨by rw [HF.out]; rfl, rfl⟩
      · have hYb : ((nameC N).toList == T.toList) = false := by rw [cbeq_]; exact decide_eq_false hn
        have HF := Lib.hid (HNO.out (fun m h => hn (by have h1 := (HSM.out m h).1; rw [h1]; exact (HSM.out m h).2.2)))
        obtain ⟨T2, hT2⟩ : ∃ T2, nameC N = T2 := ⟨_, rfl⟩
        rw [hT2] at hYb HNM
        clear hn hT2
        go_wp2_with fail
        refine HM.out.mono ?_
        rintro e w1 ⟨rfl, rfl⟩
        clear HM
        go_wp2_with fail
        refine HNM.out.mono ?_
        rintro e w1 ⟨rfl, rfl⟩
        go_wp2
        go_ret
        exact ⟨by rw [HF.out]; rfl, rfl⟩
    | succ gf =>
      have hiI : (i : Int) < (T.size : Int) := by omega
      have hib : decide ((i : Int) < (T.size : Int)) = true := decide_eq_true hiI
      have hts := take_snoc T i h3 (by omega)
      have hmem : T.get! i ∈ T.data.toList.drop 3 := by
        have h1 : T.get! i ∈ (T.data.toList.drop 3).take (i + 1 - 3) := by rw [hts]; exact List.mem_append_right _ (List.mem_singleton_self _)
        exact List.mem_of_mem_take h1
      have hdv := dvalC_snoc ((T.data.toList.drop 3).take (i - 3)) (T.get! i)
      rw [← hts] at hdv
      have HBAD := Lib.hid (fun (h : ¬ (48 ≤ (T.get! i).toNat ∧ (T.get! i).toNat ≤ 57)) => HNO.out (fun m hm => h ((HSH.out m hm).2.2.2.1 _ hmem)))
      have HDG := Lib.hid (fun (h : 48 ≤ (T.get! i).toNat ∧ (T.get! i).toNat ≤ 57) => show ∀ c ∈ (T.data.toList.drop 3).take (i + 1 - 3), 48 ≤ c.toNat ∧ c.toNat ≤ 57 by
        rw [hts]; intro c hc
        rcases List.mem_append.1 hc with hc | hc
        · exact hdg c hc
        · rw [List.mem_singleton.1 hc]; exact h)
      have HDV := Lib.hid hdv
      obtain ⟨N, hN⟩ : ∃ N, dvalC ((T.data.toList.drop 3).take (i - 3)) = N := ⟨_, rfl⟩
      rw [hN] at hlt2 HDV ⊢
      obtain ⟨z, hz⟩ : ∃ z, (T.get! i).toNat = z := ⟨_, rfl⟩
      have hzi : (T[i]'(by omega)).toNat = z := by rw [get_idx]; exact hz
      rw [hz] at HBAD HDG HDV
      have hz256 : z < 256 := by rw [← hz]; exact (T.get! i).toNat_lt
      clear hlt hll hdg hts hmem hdv hN hz
      by_cases h48 : z < 48
      · have h48I : (z : Int) < 48 := by omega
        have h48b : decide ((z : Int) < 48) = true := decide_eq_true h48I
        have HF := Lib.hid (HBAD.out (by omega))
        go_wp2
        go_ret
        exact ⟨by rw [HF.out]; rfl, rfl⟩
      have h48I : ¬ (z : Int) < 48 := by omega
      have h48b : decide ((z : Int) < 48) = false := decide_eq_false h48I
      by_cases h57 : 57 < z
      · have h57I : (57 : Int) < (z : Int) := by omega
        have h57b : decide ((57 : Int) < (z : Int)) = true := decide_eq_true h57I
        have HF := Lib.hid (HBAD.out (by omega))
        go_wp2
        go_ret
        exact ⟨by rw [HF.out]; rfl, rfl⟩
      have h57I : ¬ (57 : Int) < (z : Int) := by omega
      have h57b : decide ((57 : Int) < (z : Int)) = false := decide_eq_false h57I
      have HD := Lib.hid (HDG.out ⟨by omega, by omega⟩)
      have hw1 : IntKind.i64.wrap ((N : Int) * 10) = (N : Int) * 10 := IntWalk.i64_in _ (by omega)
      have hw2 : IntKind.u8.wrap ((z : Int) - 48) = (z : Int) - 48 := by show ((z : Int) - 48) % 256 = _; omega
      have hw3 : IntKind.i64.wrap ((z : Int) - 48) = (z : Int) - 48 := IntWalk.i64_in _ (by omega)
      have hw4 : IntKind.i64.wrap ((N : Int) * 10 + ((z : Int) - 48)) = (N : Int) * 10 + ((z : Int) - 48) := IntWalk.i64_in _ (by omega)
      go_wp2
      go_roundg gf
      case measure => omega
      case rel => exact ⟨i + 1, by rw [HDV.out]; go_num, by go_num, by omega, by omega, HD.out, rfl⟩
end Go.Proofs.YthmcimpdehgaoaaGreatDoor
namespace Go.Proofs.YthmcimpdehgaoaaGreatDoor
open Go.RowKit Go.Maps

theorem ins_perm (l : List Nat) (n k : Nat) : (l.take k ++ [n] ++ l.drop k).Perm (l ++ [n]) := by
  rw [List.append_assoc]
  refine (List.perm_append_comm.append_left (l.take k)).trans ?_
  rw [← List.append_assoc, List.take_append_drop]
theorem ins_sorted {l : List Nat} {n k : Nat} (hs : l.Pairwise (· ≤ ·)) (hgt : ∀ j x, k ≤ j → l[j]? = some x → n < x) (hle : 0 < k → ∀ x, l[k - 1]? = some x → x ≤ n) (hk : k ≤ l.length) : (l.take k ++ [n] ++ l.drop k).Pairwise (· ≤ ·) := by
  have hlo : ∀ a ∈ l.take k, a ≤ n := by
    intro a ha
    obtain ⟨i, hi, he⟩ := List.getElem_of_mem ha
    rw [List.length_take] at hi
    rw [List.getElem_take] at he
    have h1 : l[k - 1]? = some (l[k - 1]'(by omega)) := List.getElem?_eq_getElem (by omega)
    have h2 := hle (by omega) _ h1
    by_cases h : i = k - 1
    · subst h; omega
    · have := List.pairwise_iff_getElem.1 hs i (k - 1) (by omega) (by omega) (by omega)
      omega
  have hhi : ∀ b ∈ l.drop k, n < b := by
    intro b hb
    obtain ⟨i, hi, he⟩ := List.getElem_of_mem hb
    rw [List.length_drop] at hi
    rw [List.getElem_drop] at he
    exact hgt (k + i) b (by omega) (by rw [List.getElem?_eq_getElem (by omega), he])
  refine List.pairwise_append.2 ⟨List.pairwise_append.2 ⟨hs.sublist (List.take_sublist _ _), by simp, fun a ha b hb => by rw [List.mem_singleton.1 hb]; exact hlo a ha⟩, hs.sublist (List.drop_sublist _ _), fun a ha b hb => ?_⟩
  have hb2 := hhi b hb
  rcases List.mem_append.1 ha with ha | ha
  · exact Nat.le_trans (hlo a ha) (Nat.le_of_lt hb2)
  · rw [List.mem_singleton.1 ha]; exact Nat.le_of_lt hb2
theorem sorted_eq {a b : List Nat} (hs : a.Pairwise (· ≤ ·)) (hp : a.Perm b) : a = b.mergeSort := by
  refine List.Perm.eq_of_pairwise (le := fun a b : Nat => a ≤ b) (fun a b _ _ h1 h2 => Nat.le_antisymm h1 h2) hs ?_ (hp.trans (List.mergeSort_perm _ _).symm)
  refine List.Pairwise.imp ?_ (List.pairwise_mergeSort (le := fun a b : Nat => decide (a ≤ b)) (fun a b c h1 h2 => by simp at h1 h2 ⊢; omega) (fun a b => by simp; omega) _)
  intro a b hab
  exact of_decide_eq_true hab
theorem intsN_append (a b : List Nat) : intsN (a ++ b) = intsN a ++ intsN b := by unfold intsN; rw [List.map_append]
theorem intsN_one (l : List Nat) : ∀ u ∈ intsN l, u.oneCell' = true := by
  intro u hu
  unfold intsN at hu
  obtain ⟨n, _, rfl⟩ := List.mem_map.1 hu
  rfl
theorem intsN_len (l : List Nat) : (intsN l).length = l.length := by unfold intsN; rw [List.length_map]
def encI (n : Nat) : List Value := [.int .i64 (n : Int)]
theorem encI_len (n : Nat) : (encI n).length = 1 := rfl
theorem rcs_ints : ∀ l : List Nat, rcs encI l = intsN l := by
  intro l
  induction l with
  | nil => rfl
  | cons a l ih => rw [show a :: l = [a] ++ l from rfl, rcs_append, ih, intsN_append]; rfl
theorem Sl.takeI {w : World} {A : Option Addr} {l : List Nat} (h : Sl w 1 A l.length (intsN l)) (k : Nat) (hk : k ≤ l.length) : Sl w 1 A k (intsN (l.take k)) := by
  have h1 := Rs.take (enc := encI) (k := 1) encI_len (l := l) (w := w) (A := A) (by unfold Rs; rw [rcs_ints]; exact h) k
  unfold Rs at h1
  rw [rcs_ints, List.length_take, Nat.min_eq_left hk] at h1
  exact h1
theorem Sl.cutI {w : World} {A : Option Addr} {l : List Nat} (h : Sl w 1 A l.length (intsN l)) {c : Nat} (k : Nat) (hc : l.length ≤ c) : Sl w 1 (cutA A c k 1) (l.length - k) (intsN (l.drop k)) := by
  have h1 := Rs.cut (enc := encI) (k := 1) encI_len (l := l) (w := w) (A := A) (by unfold Rs; rw [rcs_ints]; exact h) (c := c) (i := k) hc
  unfold Rs at h1
  rw [rcs_ints, List.length_drop] at h1
  exact h1
theorem Sl.atI {w : World} {A : Option Addr} {l : List Nat} (h : Sl w 1 A l.length (intsN l)) {k x : Nat} (hx : l[k]? = some x) : ∃ b o, A = some ⟨b, o, none⟩ ∧ w.cell? ⟨b, o + k, none⟩ = some (.int .i64 (x : Int)) := by
  have hk := (List.getElem?_eq_some_iff.1 hx).1
  obtain ⟨b, o, h1, _, h3⟩ := h.2 (by omega)
  exact ⟨b, o, h1, h3 k _ (by unfold intsN; rw [List.getElem?_map, hx]; rfl)⟩
noncomputable def stepsR (rows : List RF) : List Nat := rows.filterMap fun x => stepOf x.1
set_option maxRecDepth 100000 in
set_option maxHeartbeats 16000000 in
theorem rcall_any (w : World) (B p gs : Nat) (R : RDisk) (h : RkIs w B p R) (hl : R.files.length ≤ 100000000) (hs : RcSt w gs p) :
    Calls Tryz.prog 99 #[.pointer (some ⟨gs, 0, none⟩)] w fun e w' => ∃ A c, e = .returned (.slice A (allRC R).length c) ∧ w'.ownsRow w.heap.size 3 1 (.slice A (allRC R).length c) (allRC R).length (intsN (allRC R)) ∧ Below w.heap.size w w' := by
  obtain ⟨i0, hi0, hz0, hz1, hz2⟩ := parts infoInt
  obtain ⟨-, vf, vs, hb, ⟨rows, hrr, hrows⟩, -⟩ := id h
  have hlen : rows.length ≤ 100000000 := by rw [← hrows, List.length_map] at hl; exact hl
  have hall : allRC R = (stepsR rows).mergeSort := by
    unfold allRC stepsR
    rw [← hrows, List.map_map, List.filterMap_map]
    rfl
  obtain ⟨Q, hQ⟩ : ∃ Q, allRC R = Q := ⟨_, rfl⟩
  rw [hQ] at hall ⊢
  obtain ⟨A, c, rfl, -⟩ := id hrr
  have hcs : ∀ W, Below w.heap.size w W → W.cell? ⟨gs, 0, none⟩ = some (.pointer (some ⟨p, 0, none⟩)) := fun W hW => Blk.cell (hs.below hW) 0
  have hcp : ∀ W, Below w.heap.size w W → W.cell? ⟨p, 0, none⟩ = some (.slice A rows.length c) := fun W hW => by
    have h0 := Blk.cell (Blk.below hb hW hb.lt) 0
    exact h0
  have HRR := Lib.hid hrr; have HCS := Lib.hid hcs; have HCP := Lib.hid hcp; have HALL := Lib.hid hall; have HI0 := Lib.hid hi0; have HZ0 := Lib.hid hz0
  clear h hl hs hb hrr hrows hcs hcp hQ hall hi0 hz0
  go_enter Tryz.func99, Tryz.ntmps99
  go_wp2
  go_loopg [3, 4] rows.length (fun gf vl vi wr => ∃ (i : Nat) (l : List Nat) (Al : Option Addr) (cl : Nat), vl = .slice Al l.length cl ∧ vi = .int .i64 i ∧ i + gf = rows.length ∧ wr.ownsRow w.heap.size 3 1 (.slice Al l.length cl) l.length (intsN l) ∧ l.Pairwise (· ≤ ·) ∧ l.Perm (stepsR (rows.take i)) ∧ l.length ≤ i ∧ Below w.heap.size w wr)
  case atStart => exact ⟨0, [], none, 0, rfl, rfl, by omega, World.ownsRow_nil _ _ _ _, List.Pairwise.nil, List.Perm.nil, by simp, Below.refl _ _⟩
  case round =>
    obtain ⟨i, l, Al, cl, rfl, rfl, hi, hown, hsd, hpm, hli, hB⟩ := hrel
    have x0 := HCS.out wr hB
    have x1 := HCP.out wr hB
    cases gk with
    | zero =>
      obtain rfl : i = rows.length := by omega
      rw [List.take_length] at hpm
      have hq : l = Q := by rw [HALL.out]; exact sorted_eq hsd hpm
      subst hq
      have HO := Lib.hid hown; have HB := Lib.hid hB
      clear hown hB hsd hpm
      go_wp2
      go_ret
      exact ⟨Al, cl, rfl, HO.out, HB.out⟩
    | succ gf =>
      have hiI : (i : Int) < (rows.length : Int) := by omega
      have hib : decide ((i : Int) < (rows.length : Int)) = true := decide_eq_true hiI
      obtain ⟨b, o, rfl, hlt, nm, Ax, cx, bx, hx, y0, -, -⟩ := (RRow.keep HRR.out (KeepF.of_below hB)).at_ (i := i) (by omega)
      have hstep : stepsR (rows.take (i + 1)) = stepsR (rows.take i) ++ (match stepOf nm with | some n => [n] | none => []) := by
        unfold stepsR
        rw [List.take_add_one, hx, List.filterMap_append]
        simp only [Option.toList_some, List.filterMap_cons, List.filterMap_nil]
        cases stepOf nm <;> rfl
      have HST := Lib.hid (rcstep_any wr nm)
      have hsl := Sl.of_own hown
      have HO := Lib.hid hown; have HB := Lib.hid hB; have HSD := Lib.hid hsd; have HPM := Lib.hid hpm; have HSL := Lib.hid hsl
      clear hown hB hsd hpm hsl hx hlt
      go_wp2_with fail
      refine HST.out.mono ?_
      rintro e w1 ⟨rfl, rfl⟩
      clear HST x0 x1 y0
      unfold stepI
      cases hso : stepOf nm with
      | none =>
        rw [hso] at hstep
        have HP2 := Lib.hid (show l.Perm (stepsR (rows.take (i + 1))) by rw [hstep]; simpa using HPM.out)
        clear hstep hso
        dsimp only
        go_wp2
        go_roundg gf
        case measure => omega
        case rel => exact ⟨i + 1, l, Al, cl, rfl, by go_num, by omega, HO.out, HSD.out, HP2.out, by omega, HB.out⟩
      | some n =>
        have hn30 : n ≤ 1073741824 := (stepOf_shape hso).2.2.2.2.2.1
        rw [hso] at hstep
        have HSTP := Lib.hid (show stepsR (rows.take (i + 1)) = stepsR (rows.take i) ++ [n] from hstep)
        clear hstep hso
        dsimp only
        have hnI : ¬ (n : Int) < 0 := by omega
        have hnb : decide ((n : Int) < 0) = false := decide_eq_false hnI
        go_wp2
        go_loopg [6] l.length (fun gf2 vk wx => vk = .int .i64 (gf2 : Nat) ∧ gf2 ≤ l.length ∧ (∀ j x, gf2 ≤ j → l[j]? = some x → n < x) ∧ wr = wx)
        case atStart => exact ⟨rfl, Nat.le_refl _, fun j x hj hx => absurd (List.getElem?_eq_some_iff.1 hx).1 (by omega), rfl⟩
        case round =>
          obtain ⟨rfl, hkl, hgt, rfl⟩ := hrel
          by_cases hC : 0 < gk ∧ ∃ x, l[gk - 1]? = some x ∧ n < x
          · obtain ⟨hk0, x, hx, hnx⟩ := hC
            obtain ⟨g, rfl⟩ : ∃ g, gk = g + 1 := ⟨gk - 1, by omega⟩
            rw [Nat.add_sub_cancel] at hx
            obtain ⟨ba, oa, rfl, y1⟩ := HSL.out.atI hx
            have hnxI : (n : Int) < (x : Int) := by omega
            have hnxb : decide ((n : Int) < (x : Int)) = true := decide_eq_true hnxI
            have hglI : (g : Int) < (l.length : Int) := by omega
            have HG := Lib.hid (show ∀ j x, g ≤ j → l[j]? = some x → n < x from fun j y hj hy => by
              by_cases h : j = g
              · subst h; rw [hx] at hy; injection hy with hy; omega
              · exact hgt j y (by omega) hy)
            clear hgt hx
            go_wp2
            go_roundg g
            case measure => omega
            case rel => exact ⟨by go_num, by omega, HG.out, rfl⟩
          · have hle : 0 < gk → ∀ x, l[gk - 1]? = some x → x ≤ n := fun h0 x hx => by
              by_cases h : n < x
              · exact absurd ⟨h0, x, hx, h⟩ hC
              · omega
            obtain ⟨k, hk⟩ : ∃ k, gk = k := ⟨_, rfl⟩
            subst hk
            have hins := ins_sorted HSD.out hgt hle hkl
            have hper := (ins_perm l n gk).trans ((HPM.out.append_right [n]).trans (by rw [← HSTP.out]))
            have hln : (l.take gk ++ [n] ++ l.drop gk).length = gk + 1 + (l.length - gk) := by rw [List.length_append, List.length_append, List.length_take, List.length_drop, List.length_singleton]; omega
            obtain ⟨l2, hl2⟩ : ∃ l2, l.take gk ++ [n] ++ l.drop gk = l2 := ⟨_, rfl⟩
            have hlist : intsN (l.take gk) ++ [.int .i64 (n : Int)] ++ intsN (l.drop gk) = intsN l2 := by rw [← hl2, intsN_append, intsN_append]; rfl
            rw [hl2] at hins hper hln
            have hlc2 : l.length ≤ cl := by
              obtain ⟨A', c', he, h'⟩ := own_parts HO.out
              injection he with _ _ he
              omega
            have HSD2 := Lib.hid hins; have HPM2 := Lib.hid hper; have HLN := Lib.hid hln; have HLS := Lib.hid hlist
            have HRT := Lib.hid (HSL.out.takeI gk hkl); have HCU := Lib.hid (HSL.out.cutI (c := cl) gk hlc2)
            have HS1 := Lib.hid (intsN_one (l.take gk)); have HS2 := Lib.hid (intsN_one (l.drop gk))
            have hkc : gk ≤ cl := by omega
            have hwb := HB.out.size
            have hown : Hid (wr.ownsRow wr.heap.size 3 1 (.slice none 0 0) 0 []) := Lib.hid (World.ownsRow_nil _ _ _ _)
            clear hgt hins hper hln hlist hl2 hC
            by_cases hk0 : 0 < gk
            case' pos =>
              obtain ⟨x, hx⟩ : ∃ x, l[gk - 1]? = some x := ⟨_, List.getElem?_eq_getElem (by omega)⟩
              have hxn := hle hk0 x hx
              obtain ⟨ba, oa, rfl, y1⟩ := HSL.out.atI hx
              have hk1 : ((gk - 1 : Nat) : Int) = (gk : Int) - 1 := by omega
              have hnxI : ¬ (n : Int) < (x : Int) := by omega
              have hnxb : decide ((n : Int) < (x : Int)) = false := decide_eq_false hnxI
              have hk0I : (0 : Int) < (gk : Int) := by omega
              have hk0b : decide ((0 : Int) < (gk : Int)) = true := decide_eq_true hk0I
            case' neg =>
              have hk0I : ¬ (0 : Int) < (gk : Int) := by omega
              have hk0b : decide ((0 : Int) < (gk : Int)) = false := decide_eq_false hk0I
            all_goals
              clear hle
              go_upto_region 11 with (fail)
              go_upto_region 12 with (first | (refine wpList_upto (o := ⟨some 52, _, _, _, _, _⟩) rfl 34 3 (.tmp 50) (.tmp 51) rfl i0 Tryz.underlying34 HI0.out _ l.length cl gk rfl rfl hkc ?_) | (at_builtin; refine wpList_cat _ rfl (.tmp 49) (.tmp 52) 34 rfl wr.heap.size 3 i0 (.int .i64 0) 1 8 Tryz.underlying34 HI0.out HZ0.out hz1 hz2 rfl (by decide) (by decide) _ 0 _ rfl hown _ gk _ (intsN (l.take gk)) rfl HRT HS1.out (by omega) (by omega) ?_; intro v1 w4 h2 h3 h4; have HO1 := Lib.hid h2.out; have HB4 := Lib.hid h4.out; clear h2 h3 h4))
              have hown4 : w4.ownsRow wr.heap.size 3 1 v1 gk (intsN (l.take gk)) := by have h1 := HO1.out; rw [Nat.zero_add, List.nil_append] at h1; exact h1
              have hbs4 := HB4.out.size
              have HO4 := Lib.hid hown4
              clear hown4 HO1 hown
              go_upto_region 13 with (at_builtin; refine wpList_app _ w4 rfl (.tmp 54) (.tmp 56) 34 rfl wr.heap.size 3 i0 (.int .i64 0) 1 8 Tryz.underlying34 HI0.out HZ0.out hz1 hz2 rfl (by decide) (by decide) _ gk _ rfl HO4 [.int .i64 (n : Int)] rfl rfl rfl _ rfl rfl (by omega) (by omega) ?_; intro v2 w5 h2 h3 h4; have HO5 := Lib.hid h2.out; have HB5 := Lib.hid h4.out; clear h2 h3 h4)
              have hbs5 := HB5.out.size
              have hb15 := HB4.out.trans HB5.out
              have HCU5 := Lib.hid (Sl.below HCU.out hb15); have HB15 := Lib.hid hb15
              clear hb15
              go_wp2_with (first | (refine wpList_from (o := ⟨some 61, _, _, _, _, _⟩) rfl 34 3 (.tmp 59) (.tmp 60) rfl i0 Tryz.underlying34 HI0.out _ l.length cl gk 1 hz1 rfl rfl hkl ?_) | (at_builtin; refine wpList_cat _ rfl (.tmp 58) (.tmp 61) 34 rfl wr.heap.size 3 i0 (.int .i64 0) 1 8 Tryz.underlying34 HI0.out HZ0.out hz1 hz2 rfl (by decide) (by decide) _ (gk + 1) _ rfl HO5 _ (l.length - gk) _ (intsN (l.drop gk)) rfl HCU5 HS2.out (by omega) (by omega) ?_; intro v3 w6 h2 h3 h4; have HO6 := Lib.hid h2.out; have HB6 := Lib.hid h4.out; clear h2 h3 h4))
              have hown6 := HO6.out
              rw [HLS.out, ← HLN.out] at hown6
              obtain ⟨A6, c6, rfl, -⟩ := own_parts hown6
              have HO7 := Lib.hid hown6
              have HB16 := Lib.hid (HB15.out.trans HB6.out)
              have hl2l : l2.length ≤ i + 1 := by rw [HLN.out]; omega
              clear hown6 HO6 HO5 HO4 HB15 HB6 HB5 HB4 HCU5
              go_wp2
              go_roundg gf
              case measure => omega
              case rel => exact ⟨i + 1, l2, A6, c6, rfl, by go_num, by omega, own_mono HO7.out hwb, HSD2.out, HPM2.out, hl2l, HB.out.trans (HB16.out.mono hwb)⟩
end Go.Proofs.YthmcimpdehgaoaaGreatDoor
namespace Go.Proofs.YthmcimpdehgaoaaGreatDoor
open Go.RowKit

theorem sim_fit {D : DiskD} {R : RDisk} {n : Nat} (h : Sim D R) (hf : FitN D n) : RFit R := by
  have h1 := hf.files; have h2 := hf.used; have h3 := hf.steps
  refine ⟨?_, ?_, ?_, by rw [h.done]; exact hf.steps0, by rw [h.done]; omega, by rw [h.left]; exact hf.left, by rw [h.left]; exact hf.left1⟩
  · rw [h.files]
    unfold seenL
    rw [List.length_map]; omega
  · rw [h.safe]
    unfold safeL
    rw [List.length_map]
    have := List.length_filter_le (fun f : FileD => decide (f.safe ≠ -1)) D.files
    omega
  · rw [h.files, longP_seen]
    unfold DiskD.used at h2
    omega
theorem sim_new (q : Int) : Sim ⟨[], max 0 q, 0, -1, false⟩ ⟨[], [], max 0 q, 0, -1, false⟩ :=
  ⟨List.Pairwise.nil, (fun _ h => by cases h), rfl, rfl, rfl, rfl, rfl, rfl, by show (-1 : Int) ≤ -1; decide, (fun _ h => by cases h)⟩
end Go.Proofs.YthmcimpdehgaoaaGreatDoor
