/- Plain: what is printed of a graph is read as it was; turned twice it is what it was. No program stands in this text. Plain: turned twice a graph is what it was; what was read may be; how many edges there are, vertex by vertex. No program stands in this text. For GraphKnown: Mill; a text that is too long. Plain: graphs at their limits. No program stands in this text. -/
import Derived.Test.YtknigkjbnaoldaaDoorGrPr
import Derived.Test.YtknigkjbnaoldaaDoorNumL
import Derived.Test.YtknigkjbnaoldaaDoorGrV
import Derived.Lib.TrimAscii
import Derived.Test.YtknigkjbnaoldaaDoorGrTu
namespace Go.Proofs.YtknigkjbnaoldaaDoor
open Go.Lib

/-- a word of plain letters and digits -/
def AscW (l : List UInt8) : Prop := l ≠ [] ∧ ∀ b ∈ l, 35 < b.toNat ∧ b.toNat < 127
def ac (b : UInt8) : Chunk := (b.toNat, [b])
theorem ac_flat (l : List UInt8) : flat (l.map ac) = l := by
  unfold flat
  induction l with
  | nil => rfl
  | cons b l ih => rw [List.map_cons, List.flatMap_cons, ih]; rfl
theorem asc_facts : ∀ n : Nat, n < 127 → 35 < n → ctl n = false ∧ blankN n = false := by
  intro n h1 h2
  unfold ctl blankN
  simp
  omega
theorem ac_word {l : List UInt8} (h : AscW l) : WordC (l.map ac) := by
  refine ⟨by simpa using h.1, fun c hc => ?_⟩
  obtain ⟨b, hb, rfl⟩ := List.mem_map.1 hc
  obtain ⟨h1, h2⟩ := h.2 b hb
  obtain ⟨h3, h4⟩ := asc_facts b.toNat h2 h1
  have hbr : brk (ac b) = false := by unfold brk ac; simp; omega
  refine ⟨⟨by simp [ac], hbr, fun m => decodeL_ascii b m (by omega)⟩, ?_, ?_, h4⟩
  · unfold okC; rw [hbr]; show (!false && !ctl b.toNat) = true; rw [h3]; rfl
  · show b.toNat ≠ 35; omega
theorem words_asc (L : List (List UInt8)) (h : ∀ g ∈ L, AscW g) : wordsP (jT (L.map ba) L.length) = some (L.map ba) := by
  have h1 := wordsC_join (L.map fun g => g.map ac) (fun g hg => by
    obtain ⟨x, hx, rfl⟩ := List.mem_map.1 hg
    exact ac_word (h x hx))
  have h2 := jT_jC (L.map fun g => g.map ac) L.length (by simp)
  have h3 : (L.map fun g => g.map ac).map (fun g => ba (flat g)) = L.map ba := by
    rw [List.map_map]
    refine List.map_congr_left fun g _ => ?_
    show ba (flat (g.map ac)) = ba g
    rw [ac_flat]
  rw [h3] at h1 h2
  rw [List.length_map] at h1
  rw [h2, wordsP_eq, ba_toList]
  exact h1
/-- a number's digits -/
def numD (n : Int) : List UInt8 := (digs 19 n.toNat).flatMap (ek 0)
theorem numD_ba {n : Int} (hn : 0 ≤ n) : printOf n 0 = ba (numD n) := by
  unfold printOf numD
  rw [if_pos ⟨hn, by omega, by omega⟩]
  exact encD_ba 0 (.inl rfl) _ (digs_lt 19 n.toNat)
theorem numD_mem {n : Int} : ∀ b ∈ numD n, 35 < b.toNat ∧ b.toNat < 127 := by
  intro b hb
  obtain ⟨d, hd, hb⟩ := List.mem_flatMap.1 hb
  have hd2 := digs_lt 19 n.toNat d hd
  rw [ek_bytes 0 (.inl rfl) d hd2, if_pos rfl] at hb
  simp only [List.mem_singleton] at hb
  subst hb
  rw [UInt8.toNat_ofNat']
  omega
theorem numD_asc {n : Int} (hn : 0 ≤ n) (h2 : n ≤ 4611686018427387904) : AscW (numD n) ∧ numW (ba (numD n)) = (n, 0) := by
  obtain ⟨h3, h4⟩ := print_read n 0 hn (.inl rfl) (by omega)
  rw [numD_ba hn] at h3 h4
  rw [if_neg (by omega)] at h4
  exact ⟨⟨fun e => h3 (by rw [e]; rfl), numD_mem⟩, h4⟩
def vW : List UInt8 := [118, 101, 114, 116, 105, 99, 101, 115]
def eW : List UInt8 := [101, 100, 103, 101]
theorem vW_asc : AscW vW := by unfold AscW; decide +kernel
theorem eW_asc : AscW eW := by unfold AscW; decide +kernel
/-- a line's bytes -/
def vL (n : Int) : List UInt8 := vW ++ 32 :: numD n
def eL (e : Edg) : List UInt8 := eW ++ 32 :: (numD e.1 ++ 32 :: (numD e.2.1 ++ 32 :: numD e.2.2))
theorem vL_line {n : Int} (hn : 0 ≤ n) : lineT wVertices [n] = ba (vL n ++ [10]) := by
  have h := numD_ba hn
  unfold lineT numsT wSp wNl wVertices
  simp only [List.foldl_cons, List.foldl_nil]
  rw [h]
  apply ByteArray.ext
  simp [ByteArray.data_append, ba, vL, vW]
theorem eL_line {e : Edg} (h1 : 0 ≤ e.1) (h2 : 0 ≤ e.2.1) (h3 : 0 ≤ e.2.2) : lineT wEdge [e.1, e.2.1, e.2.2] = ba (eL e ++ [10]) := by
  unfold lineT numsT wSp wNl wEdge
  simp only [List.foldl_cons, List.foldl_nil]
  rw [numD_ba h1, numD_ba h2, numD_ba h3]
  apply ByteArray.ext
  simp [ByteArray.data_append, ba, eL, eW]
theorem vL_words {n : Int} (hn : 0 ≤ n) (h2 : n ≤ 4611686018427387904) : wordsP (ba (vL n)) = some [ba vW, ba (numD n)] := by
  have h := words_asc [vW, numD n] (by
    intro g hg
    simp only [List.mem_cons, List.not_mem_nil, or_false] at hg
    rcases hg with rfl | rfl
    · exact vW_asc
    · exact (numD_asc hn h2).1)
  have e : jT ([vW, numD n].map ba) [vW, numD n].length = ba (vL n) := by
    apply ByteArray.ext
    simp [jT, vL, ba, ByteArray.data_append]
  rw [e] at h
  exact h
theorem eL_words {e : Edg} (h : (0 ≤ e.1 ∧ e.1 ≤ 4611686018427387904) ∧ (0 ≤ e.2.1 ∧ e.2.1 ≤ 4611686018427387904) ∧ (0 ≤ e.2.2 ∧ e.2.2 ≤ 4611686018427387904)) : wordsP (ba (eL e)) = some [ba eW, ba (numD e.1), ba (numD e.2.1), ba (numD e.2.2)] := by
  have h0 := words_asc [eW, numD e.1, numD e.2.1, numD e.2.2] (by
    intro g hg
    simp only [List.mem_cons, List.not_mem_nil, or_false] at hg
    rcases hg with rfl | rfl | rfl | rfl
    · exact eW_asc
    · exact (numD_asc h.1.1 h.1.2).1
    · exact (numD_asc h.2.1.1 h.2.1.2).1
    · exact (numD_asc h.2.2.1 h.2.2.2).1)
  have e' : jT ([eW, numD e.1, numD e.2.1, numD e.2.2].map ba) [eW, numD e.1, numD e.2.1, numD e.2.2].length = ba (eL e) := by
    apply ByteArray.ext
    simp [jT, eL, ba, ByteArray.data_append]
  rw [e'] at h0
  exact h0
theorem asc_no {l : List UInt8} (h : ∀ b ∈ l, b.toNat = 32 ∨ 35 < b.toNat) : (10 : UInt8) ∉ l ∧ endL l = l := by
  refine ⟨fun hm => ?_, trim_no l 13 fun hm => ?_⟩
  · have := h _ hm; revert this; decide
  · have := h _ hm; revert this; decide
theorem vL_mem (n : Int) : ∀ b ∈ vL n, b.toNat = 32 ∨ 35 < b.toNat := by
  intro b hb
  unfold vL at hb
  simp only [List.mem_append, List.mem_cons] at hb
  rcases hb with hb | rfl | hb
  · exact .inr (vW_asc.2 b hb).1
  · exact .inl rfl
  · exact .inr (numD_mem b hb).1
theorem eL_mem (e : Edg) : ∀ b ∈ eL e, b.toNat = 32 ∨ 35 < b.toNat := by
  intro b hb
  unfold eL at hb
  simp only [List.mem_append, List.mem_cons] at hb
  rcases hb with hb | rfl | hb | rfl | hb | rfl | hb
  · exact .inr (eW_asc.2 b hb).1
  · exact .inl rfl
  · exact .inr (numD_mem b hb).1
  · exact .inl rfl
  · exact .inr (numD_mem b hb).1
  · exact .inl rfl
  · exact .inr (numD_mem b hb).1
theorem edgesT_ba (t : List UInt8) : ∀ l : List Edg, (∀ e ∈ l, 0 ≤ e.1 ∧ 0 ≤ e.2.1 ∧ 0 ≤ e.2.2) → edgesT (ba t) l = ba (t ++ (l.map eL).flatMap fun g => g ++ [10]) := by
  intro l
  induction l generalizing t with
  | nil => intro _; simp [edgesT]
  | cons e l ih =>
    intro h
    obtain ⟨h1, h2, h3⟩ := h e (by simp)
    have e1 : edgesT (ba t) (e :: l) = edgesT (ba (t ++ (eL e ++ [10]))) l := by
      rw [← ba_append, ← eL_line h1 h2 h3]; rfl
    rw [e1, ih _ fun x hx => h x (List.mem_cons_of_mem _ hx)]
    simp
theorem print_lines {n : Int} {l : List Edg} (hn : 0 ≤ n) (h : ∀ e ∈ l, 0 ≤ e.1 ∧ 0 ≤ e.2.1 ∧ 0 ≤ e.2.2) : linesP (printG (n, l)) = ba (vL n) :: l.map fun e => ba (eL e) := by
  have e : printG (n, l) = ba ((vL n :: l.map eL).flatMap fun g => g ++ [10]) := by
    unfold printG
    rw [vL_line hn, edgesT_ba _ l h]
    simp
  rw [e, linesP_eq, ba_toList, lin_lT]
  · simp
  · intro g hg
    rcases List.mem_cons.1 hg with rfl | hg
    · exact asc_no (vL_mem n)
    · obtain ⟨x, _, rfl⟩ := List.mem_map.1 hg
      exact asc_no (eL_mem x)
theorem atE_all {l : List Edg} {e : Edg} (h : ∀ x ∈ l, aheadE x e = true) : atE l e = l.length := by
  unfold atE
  congr 1
  induction l with
  | nil => rfl
  | cons x l ih => rw [List.takeWhile_cons, if_pos (h x (by simp)), ih fun y hy => h y (List.mem_cons_of_mem _ hy)]
/-- the lines of edges, read one by one -/
theorem go_edges {n : Int} (hn : n ≠ 0) : ∀ (m p : List Edg) (i : Nat), SortedE (p ++ m) → (p ++ m).length ≤ 8192 → (∀ e ∈ m, fitsE e n = true) → n ≤ 512 → goL wordsP (lineR numW) i (n, p) (m.map fun e => ba (eL e)) = .inr (n, p ++ m) := by
  intro m
  induction m with
  | nil => intro p i _ _ _ _; simp [goL]
  | cons e m ih =>
    intro p i hs hl hf h5
    have he := hf e (by simp)
    have he2 := he
    unfold fitsE at he2
    have he2 := of_decide_eq_true he2
    have hw := eL_words (e := e) (by omega)
    have n1 := (numD_asc (n := e.1) (by omega) (by omega)).2
    have n2 := (numD_asc (n := e.2.1) (by omega) (by omega)).2
    have n3 := (numD_asc (n := e.2.2) (by omega) (by omega)).2
    have hahead : ∀ x ∈ p, aheadE x e = true := fun x hx => (List.pairwise_append.1 hs).2.2 x hx e (by simp)
    have hadd : addR n p e = some (p ++ [e]) := by
      unfold addR
      rw [if_neg (by rw [he]; simp at hl ⊢; omega), atE_all hahead, List.getElem?_eq_none (Nat.le_refl _)]
    have hline : lineR numW (n, p) [ba eW, ba (numD e.1), ba (numD e.2.1), ba (numD e.2.2)] = some (n, p ++ [e]) := by
      unfold lineR
      rw [if_neg hn]
      have heq : ba eW = wEdge := rfl
      have hnb : ba eW ≠ wBoth := by decide
      simp only [n1, n2, n3]
      rw [if_pos ⟨.inl heq, trivial, trivial, trivial, by omega, by omega⟩]
      unfold edgeR
      rw [show ((e.1, e.2.1, e.2.2) : Edg) = e from rfl, hadd]
      simp [hnb]
    rw [List.map_cons]
    unfold goL
    rw [hw]
    dsimp only
    rw [hline]
    dsimp only
    rw [ih (p ++ [e]) (i + 1) (by simpa using hs) (by simpa using hl) (fun x hx => hf x (List.mem_cons_of_mem _ hx)) h5]
    simp
/-- WHAT IS PRINTED IS READ AS IT WAS -/
theorem doc_print {n : Int} {l : List Edg} (h : checkL (n, l) = 0) : docG (printG (n, l)) = ((n, l), 0, 0) := by
  obtain ⟨h1, h2, h3, h4, h5⟩ := check_ok h
  dsimp only at h1 h2 h3 h4 h5
  have hp := print_lines (n := n) (l := l) (by omega) (fun e he => by
    have := h4 e he
    unfold fitsE at this
    have := of_decide_eq_true this
    omega)
  have hw := vL_words (n := n) (by omega) (by omega)
  have n1 := (numD_asc (n := n) (by omega) (by omega)).2
  have hline : lineR numW (0, []) [ba vW, ba (numD n)] = some (n, []) := by
    unfold lineR
    rw [if_pos rfl]
    simp only [n1]
    rw [if_pos ⟨rfl, trivial, h1, h2⟩]
  have hgo : goL wordsP (lineR numW) 0 (0, []) (ba (vL n) :: l.map fun e => ba (eL e)) = .inr (n, l) := by
    unfold goL
    rw [hw]
    dsimp only
    rw [hline]
    dsimp only
    have := go_edges (n := n) (by omega) l [] 1 (by simpa using h5) (by simpa using h3) h4 h2
    simpa using this
  unfold docG textL
  rw [hp, hgo]
  dsimp only
  rw [if_neg (by omega)]
end Go.Proofs.YtknigkjbnaoldaaDoor
namespace Go.Proofs.YtknigkjbnaoldaaDoor

/-- how many edges lead to (from) the first vertices -/
def cntTo (l : List Edg) (u : Nat) : Nat := (l.filter fun e => decide (0 ≤ e.2.1 ∧ e.2.1 < (u : Int))).length
def cntOf (l : List Edg) (u : Nat) : Nat := (l.filter fun e => decide (0 ≤ e.1 ∧ e.1 < (u : Int))).length
theorem cntTo_zero (l : List Edg) : cntTo l 0 = 0 := by
  unfold cntTo
  rw [List.length_eq_zero_iff, List.filter_eq_nil_iff]
  intro e _
  simp only [decide_eq_true_eq]
  omega
theorem cntOf_zero (l : List Edg) : cntOf l 0 = 0 := by
  unfold cntOf
  rw [List.length_eq_zero_iff, List.filter_eq_nil_iff]
  intro e _
  simp only [decide_eq_true_eq]
  omega
theorem cntTo_succ (l : List Edg) (u : Nat) : cntTo l (u + 1) = cntTo l u + (backL l u).length := by
  unfold cntTo backL
  induction l with
  | nil => rfl
  | cons e l ih =>
    by_cases h1 : 0 ≤ e.2.1 ∧ e.2.1 < (u : Int)
    · have h2 : 0 ≤ e.2.1 ∧ e.2.1 < ((u + 1 : Nat) : Int) := by omega
      have h3 : (e.2.1 == (u : Int)) = false := by simp; omega
      rw [List.filter_cons_of_pos (by simpa using h2), List.filter_cons_of_pos (by simpa using h1), List.filter_cons_of_neg (by simp [h3])]
      simp only [List.length_cons]
      omega
    · by_cases h3 : e.2.1 = (u : Int)
      · have h2 : 0 ≤ e.2.1 ∧ e.2.1 < ((u + 1 : Nat) : Int) := by omega
        rw [List.filter_cons_of_pos (by simpa using h2), List.filter_cons_of_neg (by simpa using h1), List.filter_cons_of_pos (by simp [h3])]
        simp only [List.length_cons]
        omega
      · have h2 : ¬ (0 ≤ e.2.1 ∧ e.2.1 < ((u + 1 : Nat) : Int)) := by omega
        rw [List.filter_cons_of_neg (by simpa using h2), List.filter_cons_of_neg (by simpa using h1), List.filter_cons_of_neg (by simpa using h3)]
        exact ih
theorem cntOf_succ (l : List Edg) (u : Nat) : cntOf l (u + 1) = cntOf l u + (outL l u).length := by
  unfold cntOf outL
  induction l with
  | nil => rfl
  | cons e l ih =>
    by_cases h1 : 0 ≤ e.1 ∧ e.1 < (u : Int)
    · have h2 : 0 ≤ e.1 ∧ e.1 < ((u + 1 : Nat) : Int) := by omega
      have h3 : (e.1 == (u : Int)) = false := by simp; omega
      rw [List.filter_cons_of_pos (by simpa using h2), List.filter_cons_of_pos (by simpa using h1), List.filter_cons_of_neg (by simp [h3])]
      simp only [List.length_cons]
      omega
    · by_cases h3 : e.1 = (u : Int)
      · have h2 : 0 ≤ e.1 ∧ e.1 < ((u + 1 : Nat) : Int) := by omega
        rw [List.filter_cons_of_pos (by simpa using h2), List.filter_cons_of_neg (by simpa using h1), List.filter_cons_of_pos (by simp [h3])]
        simp only [List.length_cons]
        omega
      · have h2 : ¬ (0 ≤ e.1 ∧ e.1 < ((u + 1 : Nat) : Int)) := by omega
        rw [List.filter_cons_of_neg (by simpa using h2), List.filter_cons_of_neg (by simpa using h1), List.filter_cons_of_neg (by simpa using h3)]
        exact ih
theorem cnt_all {l : List Edg} {n : Nat} (hf : ∀ e ∈ l, fitsE e n = true) : cntTo l n = l.length ∧ cntOf l n = l.length := by
  have h : ∀ e ∈ l, (0 ≤ e.1 ∧ e.1 < (n : Int)) ∧ (0 ≤ e.2.1 ∧ e.2.1 < (n : Int)) := fun e he => by
    have := hf e he
    unfold fitsE at this
    have := of_decide_eq_true this
    omega
  unfold cntTo cntOf
  rw [List.filter_eq_self.2 fun e he => decide_eq_true (h e he).2, List.filter_eq_self.2 fun e he => decide_eq_true (h e he).1]
  exact ⟨rfl, rfl⟩
theorem turnR_count (l : List Edg) (u : Nat) : (turnR l u).length = cntTo l u := by
  induction u with
  | zero => rw [cntTo_zero]; rfl
  | succ u ih => rw [turnR_succ, List.length_append, List.length_map, ih, cntTo_succ]
theorem fits_swap {e : Edg} {n : Int} (h : fitsE e n = true) : fitsE (swapE e) n = true := by
  unfold fitsE at h ⊢
  have := of_decide_eq_true h
  refine decide_eq_true ?_
  show 0 ≤ e.2.1 ∧ e.2.1 < n ∧ 0 ≤ e.1 ∧ e.1 < n ∧ 0 ≤ e.2.2 ∧ e.2.2 < 2147483648
  omega
/-- a graph that may be, turned: it may be; turned again it is what it was -/
theorem turn_good {n : Nat} {l : List Edg} (h : checkL ((n : Int), l) = 0) : turnG ((n : Int), l) = ((n : Int), turnR l n) ∧ checkL ((n : Int), turnR l n) = 0 ∧ turnR (turnR l n) n = l := by
  obtain ⟨h1, h2, h3, h4, h5⟩ := check_ok h
  dsimp only at h1 h2 h3 h4 h5
  have hm := turn_mem (l := l) (n := n) h4
  have hf : ∀ e ∈ turnR l n, fitsE e n = true := fun e he => by
    obtain ⟨x, hx, rfl⟩ := List.mem_map.1 ((hm e).1 he)
    exact fits_swap (h4 x hx)
  have hs := turn_sorted (l := l) (n := n) h5
  refine ⟨by unfold turnG; rw [if_pos h]; rfl, check_of h1 h2 ?_ hf hs, (turn_is hf hs h5 fun p => ?_).symm⟩
  · show (turnR l n).length ≤ 8192
    rw [turnR_count, (cnt_all h4).1]
    exact h3
  · constructor
    · intro hp
      exact List.mem_map.2 ⟨swapE p, (hm _).2 (List.mem_map_of_mem hp), swap_swap p⟩
    · intro hp
      obtain ⟨x, hx, rfl⟩ := List.mem_map.1 hp
      obtain ⟨y, hy, rfl⟩ := List.mem_map.1 ((hm x).1 hx)
      exact hy
theorem addP_fitq {n : Int} {l l1 : List Edg} {e : Edg} (h : addP n l e = some l1) : fitsE e n = true ∧ l1 = l ++ [e] := by
  refine ⟨?_, (addP_some h).1⟩
  unfold addP at h
  split at h
  · cases h
  · rename_i hn
    cases hf : fitsE e n with
    | true => rfl
    | false => exact absurd (.inl hf) hn
def GoodG (g : Gr) : Prop := (0 ≤ g.1 ∧ g.1 ≤ 512) ∧ g.2.length ≤ 8192 ∧ (∀ e ∈ g.2, fitsE e g.1 = true) ∧ (g.1 = 0 → g.2 = [])
theorem edgeP_good {n : Int} {l : List Edg} {both : Bool} {e : Edg} {g : Gr} (h : edgeP n l both e = some g) (hf : ∀ x ∈ l, fitsE x n = true) : g.1 = n ∧ ∀ x ∈ g.2, fitsE x n = true := by
  unfold edgeP at h
  cases h1 : addP n l e with
  | none => rw [h1] at h; cases h
  | some l1 =>
    rw [h1] at h
    dsimp only at h
    obtain ⟨f1, rfl⟩ := addP_fitq h1
    have hf1 : ∀ x ∈ l ++ [e], fitsE x n = true := fun x hx => by
      rcases List.mem_append.1 hx with hx | hx
      · exact hf x hx
      · simp only [List.mem_singleton] at hx; rw [hx]; exact f1
    split at h
    · cases h2 : addP n (l ++ [e]) (e.2.1, e.1, e.2.2) with
      | none => rw [h2] at h; cases h
      | some l2 =>
        rw [h2] at h
        simp only [Option.map_some, Option.some.injEq] at h
        subst h
        obtain ⟨f2, rfl⟩ := addP_fitq h2
        refine ⟨rfl, fun x hx => ?_⟩
        rcases List.mem_append.1 hx with hx | hx
        · exact hf1 x hx
        · simp only [List.mem_singleton] at hx; rw [hx]; exact f2
    · simp only [Option.some.injEq] at h
      subst h
      exact ⟨rfl, hf1⟩
theorem lineP_good {g g' : Gr} {ws : List ByteArray} (h : lineP numW g ws = some g') (hg : GoodG g) : GoodG g' := by
  obtain ⟨hn, hl, hf, h0⟩ := hg
  have h2 := lineP_few h hn hl
  refine ⟨h2.1, h2.2, ?_⟩
  by_cases hz : g.1 = 0
  · have he := h0 hz
    have : g'.2 = [] := by
      unfold lineP at h
      rw [if_pos hz] at h
      split at h
      · split at h
        · simp only [Option.some.injEq] at h; rw [← h]; exact he
        · cases h
      · cases h
    rw [this]
    exact ⟨by simp, fun _ => rfl⟩
  · have : g'.1 = g.1 ∧ ∀ x ∈ g'.2, fitsE x g.1 = true := by
      unfold lineP at h
      rw [if_neg hz] at h
      split at h
      all_goals first
        | (split at h
           · exact edgeP_good h hf
           · cases h)
        | cases h
    rw [this.1]
    exact ⟨this.2, fun e => absurd e hz⟩
theorem goL_good : ∀ (ls : List ByteArray) (i : Nat) (g g' : Gr), GoodG g → goL wordsP (lineP numW) i g ls = .inr g' → GoodG g' := by
  intro ls
  induction ls with
  | nil => intro i g g' hg h; injection h with h; rw [← h]; exact hg
  | cons s ls ih =>
    intro i g g' hg h
    unfold goL at h
    cases hw : wordsP s with
    | none => rw [hw] at h; cases h
    | some w =>
      rw [hw] at h
      cases w with
      | nil => exact ih _ _ _ hg h
      | cons x w =>
        dsimp only at h
        cases hl : lineP numW g (x :: w) with
        | none => rw [hl] at h; cases h
        | some g2 => rw [hl] at h; exact ih _ _ _ (lineP_good hl hg) h
/-- what was read may be -/
theorem doc_good {s : ByteArray} (h : (docG s).2.2 = 0) : checkL (docG s).1 = 0 := by
  obtain ⟨h1, h2⟩ := text_rel numW wordsP (linesP s)
  have h3 : (textL wordsP (lineP numW) (linesP s)).2.2 = 0 := by rw [h1]; exact h
  have hg : GoodG (textL wordsP (lineP numW) (linesP s)).1 ∧ (textL wordsP (lineP numW) (linesP s)).1.1 ≠ 0 := by
    unfold textL at h3 ⊢
    cases hgo : goL wordsP (lineP numW) 0 (0, []) (linesP s) with
    | inl i => rw [hgo] at h3; cases h3
    | inr g =>
      rw [hgo] at h3
      dsimp only at h3 ⊢
      by_cases hz : g.1 = 0
      · rw [if_pos hz] at h3; cases h3
      · rw [if_neg hz]
        exact ⟨goL_good _ _ _ _ ⟨by simp, by simp, by simp, fun _ => rfl⟩ hgo, hz⟩
  obtain ⟨⟨hn, hl, hf, _⟩, hz⟩ := hg
  have e1 : (textL wordsP (lineP numW) (linesP s)).1.1 = (docG s).1.1 := h2.n
  rw [e1] at hn hf hz
  refine check_of (by omega) (by omega) (doc_few s) (fun e he => hf e (h2.perm.mem_iff.1 he)) h2.sorted
end Go.Proofs.YtknigkjbnaoldaaDoor
namespace Go.Proofs.YtknigkjbnaoldaaDoor
open Go.RowKit

def millL : List Edg := [(0, 1, 4), (0, 2, 1), (1, 3, 5), (2, 1, 2), (4, 4, 7)]
theorem mill_cells : rcs edgC millL = [.int .i64 0, .int .i64 1, .int .i64 4, .int .i64 0, .int .i64 2, .int .i64 1, .int .i64 1, .int .i64 3, .int .i64 5, .int .i64 2, .int .i64 1, .int .i64 2, .int .i64 4, .int .i64 4, .int .i64 7] := rfl
set_option maxRecDepth 100000 in
set_option maxHeartbeats 2000000 in
theorem mill_any (w : World) : Calls Tryd.prog 26 #[] w fun e w' => ∃ A c, e = .returned (.agg #[.int .i64 6, .slice A 5 c]) ∧ Rs edgC 3 w' A millL ∧ Below w.heap.size w w' := by
  have hB := ((Below.refl w.heap.size w).alloc (Nat.le_refl _) (.cells #[.int .i64 6, .slice (some ⟨w.heap.size + 1, 0, none⟩) 5 5] 25)).alloc (by simp) (.cells (rcs edgC millL).toArray 35)
  have hs := Sl.new (w.alloc (.cells #[.int .i64 6, .slice (some ⟨w.heap.size + 1, 0, none⟩) 5 5] 25)) (rcs edgC millL) 35 3 5 rfl (w.heap.size + 1) (by simp)
  have HB2 := Lib.hid hB; have HR := Lib.hid hs
  clear hs hB
  rw [mill_cells] at *
  go_enter Tryd.func26, Tryd.ntmps26
  go_wp2
  refine bodyPost_ret (v := .agg #[.int .i64 6, .slice (some ⟨w.heap.size + 1, 0, none⟩) 5 5]) (by simp [results, Tryd.results26, go_sem]) rfl ?_
  exact ⟨_, _, rfl, HR.out, HB2.out⟩
set_option maxHeartbeats 2000000 in
theorem parse_limit (s : ByteArray) (w : World) (hs : 262144 < s.size) : Calls Tryd.prog 10 #[.string s] w fun R w' => R = .returned (.tuple #[.agg #[.int .i64 0, .slice none 0 0], .int .i64 0, .int .i64 3]) ∧ Below w.heap.size w w' := by
  have hsI : (262144 : Int) < (s.size : Int) := by omega
  have hB := (Below.refl w.heap.size w).alloc (Nat.le_refl _) (.cells #[.int .i64 0, .slice none 0 0] 25)
  have HB2 := Lib.hid hB
  clear hB
  go_enter Tryd.func10, Tryd.ntmps10
  go_wp2
  refine bodyPost_ret (v := .tuple #[.agg #[.int .i64 0, .slice none 0 0], .int .i64 0, .int .i64 3]) (by simp [results, Tryd.results10, go_sem]) rfl ?_
  exact ⟨rfl, HB2.out⟩
end Go.Proofs.YtknigkjbnaoldaaDoor
namespace Go.Proofs.YtknigkjbnaoldaaDoor
open Go.Lib

theorem fits_pos' {e : Edg} {n : Int} (h : fitsE e n = true) : 0 ≤ e.1 ∧ 0 ≤ e.2.1 ∧ 0 ≤ e.2.2 := by
  unfold fitsE at h
  have := of_decide_eq_true h
  omega
/-- the edges of the limit's graph -/
def fullE (i : Nat) : Edg := (((i / 32 : Nat) : Int), ((i % 32 : Nat) : Int), 0)
def fullL (k : Nat) : List Edg := (List.range k).map fullE
theorem fullL_len (k : Nat) : (fullL k).length = k := by simp [fullL]
theorem fullL_succ (k : Nat) : fullL (k + 1) = fullL k ++ [fullE k] := by unfold fullL; rw [List.range_succ, List.map_append]; rfl
theorem fullL_take {k m : Nat} (h : k ≤ m) : (fullL m).take k = fullL k := by
  unfold fullL
  rw [← List.map_take, List.take_range, Nat.min_eq_left h]
theorem full_mem {k : Nat} {e : Edg} (h : e ∈ fullL k) : ∃ i, i < k ∧ e = fullE i := by
  obtain ⟨i, hi, rfl⟩ := List.mem_map.1 h
  exact ⟨i, List.mem_range.1 hi, rfl⟩
theorem full_fits {k : Nat} (hk : k ≤ 8192) : ∀ e ∈ fullL k, fitsE e 512 = true := by
  intro e he
  obtain ⟨i, hi, rfl⟩ := full_mem he
  unfold fitsE fullE
  refine decide_eq_true ?_
  dsimp only
  omega
theorem full_sorted (k : Nat) : SortedE (fullL k) := by
  unfold SortedE fullL
  rw [List.pairwise_map]
  refine (List.pairwise_lt_range (n := k)).imp fun {a b} hab => ?_
  unfold aheadE fullE
  refine decide_eq_true ?_
  dsimp only
  omega
theorem full_good {k : Nat} (hk : k ≤ 8192) : checkL (512, fullL k) = 0 :=
  check_of (g := (512, fullL k)) (show (1 : Int) ≤ 512 by decide) (show (512 : Int) ≤ 512 by decide) (show (fullL k).length ≤ 8192 by rw [fullL_len]; exact hk) (full_fits hk) (full_sorted _)
theorem full_over {k : Nat} (hk : 8192 < k) : checkL (512, fullL k) = 3 := check_big (.inr (by rw [fullL_len]; omega))
theorem numD_small : ∀ n : Nat, n < 256 → (numD (n : Int)).length ≤ 3 := by decide +kernel
theorem full_size {k : Nat} (hk : k ≤ 8192) : (printG (512, fullL k)).size ≤ 140000 := by
  have h0 : ∀ e ∈ fullL k, 0 ≤ e.1 ∧ 0 ≤ e.2.1 ∧ 0 ≤ e.2.2 := fun e he => fits_pos' (full_fits hk e he)
  show (edgesT (lineT wVertices [512]) (fullL k)).size ≤ _
  rw [vL_line (by decide), edgesT_ba _ _ h0]
  have hs : ∀ l : List UInt8, (ba l).size = l.length := fun l => by simp [ba, ByteArray.size]
  rw [hs, List.length_append]
  have h1 : ∀ m : List Edg, (∀ e ∈ m, ∃ i, i < 8192 ∧ e = fullE i) → ((m.map eL).flatMap fun g => g ++ [10]).length ≤ 17 * m.length := by
    intro m
    induction m with
    | nil => intro _; simp
    | cons e m ih =>
      intro h
      have := ih fun x hx => h x (List.mem_cons_of_mem _ hx)
      obtain ⟨i, hi, rfl⟩ := h e (by simp)
      rw [List.map_cons, List.flatMap_cons, List.length_append, List.length_cons]
      have a1 := numD_small (i / 32) (by omega); have a2 := numD_small (i % 32) (by omega); have a3 := numD_small 0 (by decide)
      have a4 : eW.length = 4 := rfl
      have a5 : (eL (fullE i) ++ [10]).length = eW.length + 1 + (numD ((i / 32 : Nat) : Int)).length + 1 + (numD ((i % 32 : Nat) : Int)).length + 1 + (numD ((0 : Nat) : Int)).length + 1 := by unfold eL fullE; simp; omega
      omega
  have h2 := h1 (fullL k) fun e he => (full_mem he).imp fun i hi => ⟨by omega, hi.2⟩
  rw [fullL_len] at h2
  have h3 : (vL 512 ++ [10]).length ≤ 20 := by decide +kernel
  omega
/-- the lines of edges, read one by one, and what stands behind them -/
theorem go_edges_on {n : Int} (hn : n ≠ 0) (rest : List ByteArray) : ∀ (m p : List Edg) (i : Nat), SortedE (p ++ m) → (p ++ m).length ≤ 8192 → (∀ e ∈ m, fitsE e n = true) → n ≤ 512 → goL wordsP (lineR numW) i (n, p) ((m.map fun e => ba (eL e)) ++ rest) = goL wordsP (lineR numW) (i + m.length) (n, p ++ m) rest := by
  intro m
  induction m with
  | nil => intro p i _ _ _ _; simp
  | cons e m ih =>
    intro p i hs hl hf h5
    have he := hf e (by simp)
    have he2 := he
    unfold fitsE at he2
    have he2 := of_decide_eq_true he2
    have hw := eL_words (e := e) (by omega)
    have n1 := (numD_asc (n := e.1) (by omega) (by omega)).2
    have n2 := (numD_asc (n := e.2.1) (by omega) (by omega)).2
    have n3 := (numD_asc (n := e.2.2) (by omega) (by omega)).2
    have hahead : ∀ x ∈ p, aheadE x e = true := fun x hx => (List.pairwise_append.1 hs).2.2 x hx e (by simp)
    have hadd : addR n p e = some (p ++ [e]) := by
      unfold addR
      rw [if_neg (by rw [he]; simp at hl ⊢; omega), atE_all hahead, List.getElem?_eq_none (Nat.le_refl _)]
    have hline : lineR numW (n, p) [ba eW, ba (numD e.1), ba (numD e.2.1), ba (numD e.2.2)] = some (n, p ++ [e]) := by
      unfold lineR
      rw [if_neg hn]
      have heq : ba eW = wEdge := rfl
      have hnb : ba eW ≠ wBoth := by decide
      simp only [n1, n2, n3]
      rw [if_pos ⟨.inl heq, trivial, trivial, trivial, by omega, by omega⟩]
      unfold edgeR
      rw [show ((e.1, e.2.1, e.2.2) : Edg) = e from rfl, hadd]
      simp [hnb]
    rw [List.map_cons, List.cons_append]
    rw [show goL wordsP (lineR numW) i (n, p) (ba (eL e) :: ((m.map fun e => ba (eL e)) ++ rest)) = goL wordsP (lineR numW) (i + 1) (n, p ++ [e]) ((m.map fun e => ba (eL e)) ++ rest) from by
      conv => lhs; unfold goL
      rw [hw]
      dsimp only
      rw [hline]]
    rw [ih (p ++ [e]) (i + 1) (by simpa using hs) (by simpa using hl) (fun x hx => hf x (List.mem_cons_of_mem _ hx)) h5]
    simp [Nat.add_assoc, Nat.add_comm 1]
/-- the last line: one edge too many -/
def oneL : List UInt8 := [101, 100, 103, 101, 32, 53, 49, 49, 32, 48]
theorem oneL_words : wordsP (ba oneL) = some [ba eW, ba [53, 49, 49], ba [48]] := by decide +kernel
theorem full_more {k : Nat} (hk : k = 8192) : docG (printG (512, fullL k) ++ ⟨#[101, 100, 103, 101, 32, 53, 49, 49, 32, 48, 10]⟩) = ((0, []), 8194, 41) := by
  have h0 : ∀ e ∈ fullL k, 0 ≤ e.1 ∧ 0 ≤ e.2.1 ∧ 0 ≤ e.2.2 := fun e he => fits_pos' (full_fits (Nat.le_of_eq hk) e he)
  have hp : printG (512, fullL k) ++ ⟨#[101, 100, 103, 101, 32, 53, 49, 49, 32, 48, 10]⟩ = ba ((vL 512 :: ((fullL k).map eL ++ [oneL])).flatMap fun g => g ++ [10]) := by
    have e1 : (⟨#[101, 100, 103, 101, 32, 53, 49, 49, 32, 48, 10]⟩ : ByteArray) = ba (oneL ++ [10]) := rfl
    show edgesT (lineT wVertices [512]) (fullL k) ++ _ = _
    rw [vL_line (by decide), edgesT_ba _ _ h0, e1, ba_append]
    simp
  have hlines : linesP (printG (512, fullL k) ++ ⟨#[101, 100, 103, 101, 32, 53, 49, 49, 32, 48, 10]⟩) = ba (vL 512) :: (((fullL k).map fun e => ba (eL e)) ++ [ba oneL]) := by
    rw [hp, linesP_eq, ba_toList, lin_lT]
    · simp
    · intro g hg
      rcases List.mem_cons.1 hg with rfl | hg
      · exact asc_no (vL_mem 512)
      · rcases List.mem_append.1 hg with hg | hg
        · obtain ⟨x, _, rfl⟩ := List.mem_map.1 hg
          exact asc_no (eL_mem x)
        · simp only [List.mem_singleton] at hg
          subst hg
          exact asc_no (by decide +kernel)
  have hw := vL_words (n := 512) (by decide) (by decide)
  have n1 := (numD_asc (n := 512) (by decide) (by decide)).2
  have hline : lineR numW (0, []) [ba vW, ba (numD 512)] = some (512, []) := by
    unfold lineR
    rw [if_pos rfl]
    simp only [n1]
    rw [if_pos ⟨rfl, trivial, by decide, by decide⟩]
  have hlast : lineR numW (512, fullL k) [ba eW, ba [53, 49, 49], ba [48]] = none := by
    have m1 : numW (ba [53, 49, 49]) = (511, 0) := by decide +kernel
    have m2 : numW (ba [48]) = (0, 0) := by decide +kernel
    have hadd : ∀ e, addR 512 (fullL k) e = none := fun e => by
      unfold addR
      rw [if_pos (.inr (by rw [fullL_len]; omega))]
    unfold lineR
    rw [if_neg (show ¬ (512 : Int) = 0 by decide)]
    simp only [m1, m2]
    split
    · unfold edgeR
      rw [hadd]
    · rfl
  have hgo : goL wordsP (lineR numW) 0 (0, []) (ba (vL 512) :: (((fullL k).map fun e => ba (eL e)) ++ [ba oneL])) = .inl 8194 := by
    unfold goL
    rw [hw]
    dsimp only
    rw [hline]
    dsimp only
    rw [go_edges_on (by decide) [ba oneL] (fullL k) [] 1 (by simpa using full_sorted k) (by rw [List.nil_append, fullL_len]; omega) (full_fits (Nat.le_of_eq hk)) (by decide), fullL_len, List.nil_append]
    unfold goL
    rw [oneL_words]
    dsimp only
    rw [hlast]
    dsimp only
    rw [hk]
  unfold docG textL
  rw [hlines, hgo]
end Go.Proofs.YtknigkjbnaoldaaDoor
