/- Plain: what is printed of a graph is read as it was; turned twice it is what it was. No program stands in this text. -/
import Derived.Test.YtknigkjbnaoldaaDoorGrPr
import Derived.Test.YtknigkjbnaoldaaDoorNumL
import Derived.Test.YtknigkjbnaoldaaDoorGrV
import Derived.Lib.TrimAscii
namespace Go.Proofs.YtknigkjbnaoldaaDoor
open Go.Lib

/-- a word of plain letters and digits -/
def AscW (l : List UInt8) : Prop := l ≠ [] ∧ ∀ b ∈ l, 35 < b.toNat ∧ b.toNat < 127
def ac (b : UInt8) : Chunk := (b.toNat, [b])
theorem ac_flat (l : List UInt8) : flat (l.map ac) = l := by
  unfold flat
  induction l with
  | nil => rfl
  | cons b l ih => rw [List.map_cons, List.flatMap_cons, ih]; rfl
theorem asc_facts : ∀ n : Nat, n < 127 → 35 < n → ctl n = false ∧ blankN n = false := by
  intro n h1 h2
  unfold ctl blankN
  simp
  omega
theorem ac_word {l : List UInt8} (h : AscW l) : WordC (l.map ac) := by
  refine ⟨by simpa using h.1, fun c hc => ?_⟩
  obtain ⟨b, hb, rfl⟩ := List.mem_map.1 hc
  obtain ⟨h1, h2⟩ := h.2 b hb
  obtain ⟨h3, h4⟩ := asc_facts b.toNat h2 h1
  have hbr : brk (ac b) = false := by unfold brk ac; simp; omega
  refine ⟨⟨by simp [ac], hbr, fun m => decodeL_ascii b m (by omega)⟩, ?_, ?_, h4⟩
  · unfold okC; rw [hbr]; show (!false && !ctl b.toNat) = true; rw [h3]; rfl
  · show b.toNat ≠ 35; omega
theorem words_asc (L : List (List UInt8)) (h : ∀ g ∈ L, AscW g) : wordsP (jT (L.map ba) L.length) = some (L.map ba) := by
  have h1 := wordsC_join (L.map fun g => g.map ac) (fun g hg => by
    obtain ⟨x, hx, rfl⟩ := List.mem_map.1 hg
    exact ac_word (h x hx))
  have h2 := jT_jC (L.map fun g => g.map ac) L.length (by simp)
  have h3 : (L.map fun g => g.map ac).map (fun g => ba (flat g)) = L.map ba := by
    rw [List.map_map]
    refine List.map_congr_left fun g _ => ?_
    show ba (flat (g.map ac)) = ba g
    rw [ac_flat]
  rw [h3] at h1 h2
  rw [List.length_map] at h1
  rw [h2, wordsP_eq, ba_toList]
  exact h1
/-- a number's digits -/
def numD (n : Int) : List UInt8 := (digs 19 n.toNat).flatMap (ek 0)
theorem numD_ba {n : Int} (hn : 0 ≤ n) : printOf n 0 = ba (numD n) := by
  unfold printOf numD
  rw [if_pos ⟨hn, by omega, by omega⟩]
  exact encD_ba 0 (.inl rfl) _ (digs_lt 19 n.toNat)
theorem numD_mem {n : Int} : ∀ b ∈ numD n, 35 < b.toNat ∧ b.toNat < 127 := by
  intro b hb
  obtain ⟨d, hd, hb⟩ := List.mem_flatMap.1 hb
  have hd2 := digs_lt 19 n.toNat d hd
  rw [ek_bytes 0 (.inl rfl) d hd2, if_pos rfl] at hb
  simp only [List.mem_singleton] at hb
  subst hb
  rw [UInt8.toNat_ofNat']
  omega
theorem numD_asc {n : Int} (hn : 0 ≤ n) (h2 : n ≤ 4611686018427387904) : AscW (numD n) ∧ numW (ba (numD n)) = (n, 0) := by
  obtain ⟨h3, h4⟩ := print_read n 0 hn (.inl rfl) (by omega)
  rw [numD_ba hn] at h3 h4
  rw [if_neg (by omega)] at h4
  exact ⟨⟨fun e => h3 (by rw [e]; rfl), numD_mem⟩, h4⟩
def vW : List UInt8 := [118, 101, 114, 116, 105, 99, 101, 115]
def eW : List UInt8 := [101, 100, 103, 101]
theorem vW_asc : AscW vW := by unfold AscW; decide +kernel
theorem eW_asc : AscW eW := by unfold AscW; decide +kernel
/-- a line's bytes -/
def vL (n : Int) : List UInt8 := vW ++ 32 :: numD n
def eL (e : Edg) : List UInt8 := eW ++ 32 :: (numD e.1 ++ 32 :: (numD e.2.1 ++ 32 :: numD e.2.2))
theorem vL_line {n : Int} (hn : 0 ≤ n) : lineT wVertices [n] = ba (vL n ++ [10]) := by
  have h := numD_ba hn
  unfold lineT numsT wSp wNl wVertices
  simp only [List.foldl_cons, List.foldl_nil]
  rw [h]
  apply ByteArray.ext
  simp [ByteArray.data_append, ba, vL, vW]
theorem eL_line {e : Edg} (h1 : 0 ≤ e.1) (h2 : 0 ≤ e.2.1) (h3 : 0 ≤ e.2.2) : lineT wEdge [e.1, e.2.1, e.2.2] = ba (eL e ++ [10]) := by
  unfold lineT numsT wSp wNl wEdge
  simp only [List.foldl_cons, List.foldl_nil]
  rw [numD_ba h1, numD_ba h2, numD_ba h3]
  apply ByteArray.ext
  simp [ByteArray.data_append, ba, eL, eW]
theorem vL_words {n : Int} (hn : 0 ≤ n) (h2 : n ≤ 4611686018427387904) : wordsP (ba (vL n)) = some [ba vW, ba (numD n)] := by
  have h := words_asc [vW, numD n] (by
    intro g hg
    simp only [List.mem_cons, List.not_mem_nil, or_false] at hg
    rcases hg with rfl | rfl
    · exact vW_asc
    · exact (numD_asc hn h2).1)
  have e : jT ([vW, numD n].map ba) [vW, numD n].length = ba (vL n) := by
    apply ByteArray.ext
    simp [jT, vL, ba, ByteArray.data_append]
  rw [e] at h
  exact h
theorem eL_words {e : Edg} (h : (0 ≤ e.1 ∧ e.1 ≤ 4611686018427387904) ∧ (0 ≤ e.2.1 ∧ e.2.1 ≤ 4611686018427387904) ∧ (0 ≤ e.2.2 ∧ e.2.2 ≤ 4611686018427387904)) : wordsP (ba (eL e)) = some [ba eW, ba (numD e.1), ba (numD e.2.1), ba (numD e.2.2)] := by
  have h0 := words_asc [eW, numD e.1, numD e.2.1, numD e.2.2] (by
    intro g hg
    simp only [List.mem_cons, List.not_mem_nil, or_false] at hg
    rcases hg with rfl | rfl | rfl | rfl
    · exact eW_asc
    · exact (numD_asc h.1.1 h.1.2).1
    · exact (numD_asc h.2.1.1 h.2.1.2).1
    · exact (numD_asc h.2.2.1 h.2.2.2).1)
  have e' : jT ([eW, numD e.1, numD e.2.1, numD e.2.2].map ba) [eW, numD e.1, numD e.2.1, numD e.2.2].length = ba (eL e) := by
    apply ByteArray.ext
    simp [jT, eL, ba, ByteArray.data_append]
  rw [e'] at h0
  exact h0
theorem asc_no {l : List UInt8} (h : ∀ b ∈ l, b.toNat = 32 ∨ 35 < b.toNat) : (10 : UInt8) ∉ l ∧ endL l = l := by
  refine ⟨fun hm => ?_, trim_no l 13 fun hm => ?_⟩
  · have := h _ hm; revert this; decide
  · have := h _ hm; revert this; decide
theorem vL_mem (n : Int) : ∀ b ∈ vL n, b.toNat = 32 ∨ 35 < b.toNat := by
  intro b hb
  unfold vL at hb
  simp only [List.mem_append, List.mem_cons] at hb
  rcases hb with hb | rfl | hb
  · exact .inr (vW_asc.2 b hb).1
  · exact .inl rfl
  · exact .inr (numD_mem b hb).1
theorem eL_mem (e : Edg) : ∀ b ∈ eL e, b.toNat = 32 ∨ 35 < b.toNat := by
  intro b hb
  unfold eL at hb
  simp only [List.mem_append, List.mem_cons] at hb
  rcases hb with hb | rfl | hb | rfl | hb | rfl | hb
  · exact .inr (eW_asc.2 b hb).1
  · exact .inl rfl
  · exact .inr (numD_mem b hb).1
  · exact .inl rfl
  · exact .inr (numD_mem b hb).1
  · exact .inl rfl
  · exact .inr (numD_mem b hb).1
theorem edgesT_ba (t : List UInt8) : ∀ l : List Edg, (∀ e ∈ l, 0 ≤ e.1 ∧ 0 ≤ e.2.1 ∧ 0 ≤ e.2.2) → edgesT (ba t) l = ba (t ++ (l.map eL).flatMap fun g => g ++ [10]) := by
  intro l
  induction l generalizing t with
  | nil => intro _; simp [edgesT]
  | cons e l ih =>
    intro h
    obtain ⟨h1, h2, h3⟩ := h e (by simp)
    have e1 : edgesT (ba t) (e :: l) = edgesT (ba (t ++ (eL e ++ [10]))) l := by
      rw [← ba_append, ← eL_line h1 h2 h3]; rfl
    rw [e1, ih _ fun x hx => h x (List.mem_cons_of_mem _ hx)]
    simp
theorem print_lines {n : Int} {l : List Edg} (hn : 0 ≤ n) (h : ∀ e ∈ l, 0 ≤ e.1 ∧ 0 ≤ e.2.1 ∧ 0 ≤ e.2.2) : linesP (printG (n, l)) = ba (vL n) :: l.map fun e => ba (eL e) := by
  have e : printG (n, l) = ba ((vL n :: l.map eL).flatMap fun g => g ++ [10]) := by
    unfold printG
    rw [vL_line hn, edgesT_ba _ l h]
    simp
  rw [e, linesP_eq, ba_toList, lin_lT]
  · simp
  · intro g hg
    rcases List.mem_cons.1 hg with rfl | hg
    · exact asc_no (vL_mem n)
    · obtain ⟨x, _, rfl⟩ := List.mem_map.1 hg
      exact asc_no (eL_mem x)
theorem atE_all {l : List Edg} {e : Edg} (h : ∀ x ∈ l, aheadE x e = true) : atE l e = l.length := by
  unfold atE
  congr 1
  induction l with
  | nil => rfl
  | cons x l ih => rw [List.takeWhile_cons, if_pos (h x (by simp)), ih fun y hy => h y (List.mem_cons_of_mem _ hy)]
/-- the lines of edges, read one by one -/
theorem go_edges {n : Int} (hn : n ≠ 0) : ∀ (m p : List Edg) (i : Nat), SortedE (p ++ m) → (p ++ m).length ≤ 8192 → (∀ e ∈ m, fitsE e n = true) → n ≤ 512 → goL wordsP (lineR numW) i (n, p) (m.map fun e => ba (eL e)) = .inr (n, p ++ m) := by
  intro m
  induction m with
  | nil => intro p i _ _ _ _; simp [goL]
  | cons e m ih =>
    intro p i hs hl hf h5
    have he := hf e (by simp)
    have he2 := he
    unfold fitsE at he2
    have he2 := of_decide_eq_true he2
    have hw := eL_words (e := e) (by omega)
    have n1 := (numD_asc (n := e.1) (by omega) (by omega)).2
    have n2 := (numD_asc (n := e.2.1) (by omega) (by omega)).2
    have n3 := (numD_asc (n := e.2.2) (by omega) (by omega)).2
    have hahead : ∀ x ∈ p, aheadE x e = true := fun x hx => (List.pairwise_append.1 hs).2.2 x hx e (by simp)
    have hadd : addR n p e = some (p ++ [e]) := by
      unfold addR
      rw [if_neg (by rw [he]; simp at hl ⊢; omega), atE_all hahead, List.getElem?_eq_none (Nat.le_refl _)]
    have hline : lineR numW (n, p) [ba eW, ba (numD e.1), ba (numD e.2.1), ba (numD e.2.2)] = some (n, p ++ [e]) := by
      unfold lineR
      rw [if_neg hn]
      have heq : ba eW = wEdge := rfl
      have hnb : ba eW ≠ wBoth := by decide
      simp only [n1, n2, n3]
      rw [if_pos ⟨.inl heq, trivial, trivial, trivial, by omega, by omega⟩]
      unfold edgeR
      rw [show ((e.1, e.2.1, e.2.2) : Edg) = e from rfl, hadd]
      simp [hnb]
    rw [List.map_cons]
    unfold goL
    rw [hw]
    dsimp only
    rw [hline]
    dsimp only
    rw [ih (p ++ [e]) (i + 1) (by simpa using hs) (by simpa using hl) (fun x hx => hf x (List.mem_cons_of_mem _ hx)) h5]
    simp
/-- WHAT IS PRINTED IS READ AS IT WAS -/
theorem doc_print {n : Int} {l : List Edg} (h : checkL (n, l) = 0) : docG (printG (n, l)) = ((n, l), 0, 0) := by
  obtain ⟨h1, h2, h3, h4, h5⟩ := check_ok h
  dsimp only at h1 h2 h3 h4 h5
  have hp := print_lines (n := n) (l := l) (by omega) (fun e he => by
    have := h4 e he
    unfold fitsE at this
    have := of_decide_eq_true this
    omega)
  have hw := vL_words (n := n) (by omega) (by omega)
  have n1 := (numD_asc (n := n) (by omega) (by omega)).2
  have hline : lineR numW (0, []) [ba vW, ba (numD n)] = some (n, []) := by
    unfold lineR
    rw [if_pos rfl]
    simp only [n1]
    rw [if_pos ⟨rfl, trivial, h1, h2⟩]
  have hgo : goL wordsP (lineR numW) 0 (0, []) (ba (vL n) :: l.map fun e => ba (eL e)) = .inr (n, l) := by
    unfold goL
    rw [hw]
    dsimp only
    rw [hline]
    dsimp only
    have := go_edges (n := n) (by omega) l [] 1 (by simpa using h5) (by simpa using h3) h4 h2
    simpa using this
  unfold docG textL
  rw [hp, hgo]
  dsimp only
  rw [if_neg (by omega)]
end Go.Proofs.YtknigkjbnaoldaaDoor
