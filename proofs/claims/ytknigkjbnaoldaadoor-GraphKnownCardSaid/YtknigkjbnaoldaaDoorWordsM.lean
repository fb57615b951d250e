/- Plain: what the program's Words gathers is what the reference's gathers; one blank between, they are read again. No program stands in this text. -/
import Derived.Test.YtknigkjbnaoldaaDoorWordsL
namespace Go.Proofs.YtknigkjbnaoldaaDoor
open Go.Lib

theorem decodeL_fffd (m : List UInt8) : decodeL (239 :: 191 :: 189 :: m) = (65533, 3) := by
  rw [decodeL_N]
  simp [decodeN]
theorem pfx_wide (l : List UInt8) (hne : l ≠ []) (h : (decodeL l).1 = 65533) : hasPrefix l [239, 191, 189] = true ↔ ¬ (decodeL l).2 = 1 := by
  constructor
  · intro hp
    unfold hasPrefix at hp
    obtain ⟨m, rfl⟩ := List.isPrefixOf_iff_prefix.1 hp
    rw [show [239, 191, 189] ++ m = 239 :: 191 :: 189 :: m from rfl, decodeL_fffd]
    simp
  · intro hw
    have k0 := (l.getD 0 0).toNat_lt
    have k1 := (l.getD 1 0).toNat_lt
    have k2 := (l.getD 2 0).toNat_lt
    rw [decodeL_N] at h hw
    rcases decodeN_shape l.length (l.getD 0 0).toNat (l.getD 1 0).toNat (l.getD 2 0).toNat (l.getD 3 0).toNat with ⟨c, e⟩ | ⟨c1, c2, c3, cv, e⟩ | ⟨c1, c2, c3, c4, cv, cs, e⟩ | ⟨c1, c2, c3, c4, c5, cv, cw, e⟩ | e
    · rw [e] at h; dsimp only at h; omega
    · rw [e] at h; dsimp only at h; omega
    · rw [e] at h; dsimp only at h
      have e0 : (l.getD 0 0).toNat = 239 := by omega
      have e1 : (l.getD 1 0).toNat = 191 := by omega
      have e2 : (l.getD 2 0).toNat = 189 := by omega
      have ea : l.getD 0 0 = 239 := UInt8.toNat_inj.1 e0
      have eb : l.getD 1 0 = 191 := UInt8.toNat_inj.1 e1
      have ec : l.getD 2 0 = 189 := UInt8.toNat_inj.1 e2
      have ht : [239, 191, 189] = l.take 3 := by rw [takeC l c2, ea, eb, ec]
      unfold hasPrefix
      rw [ht]
      exact List.isPrefixOf_iff_prefix.2 (List.take_prefix 3 l)
    · rw [e] at h; dsimp only at h; omega
    · rw [e] at hw; simp at hw
/-- the first character from a place on -/
theorem drop_ne (s : ByteArray) (pos : Nat) (h : pos < s.size) : s.data.toList.drop pos ≠ [] := by
  intro e
  have := congrArg List.length e
  rw [List.length_drop, ← size_eq] at this
  simp at this; omega
theorem chunks_at (s : ByteArray) (pos : Nat) (h : pos < s.size) : chunks (s.data.toList.drop pos) = ((Utf8.decode s pos).1, (s.data.toList.drop pos).take (Utf8.decode s pos).2) :: chunks (s.data.toList.drop (pos + (Utf8.decode s pos).2)) := by
  rw [chunks_cons _ (drop_ne s pos h), dec_drop, List.drop_drop]
theorem take_dec (s : ByteArray) (pos : Nat) (h : pos < s.size) : ((s.data.toList.drop pos).take (Utf8.decode s pos).2).length = (Utf8.decode s pos).2 := by
  have := chunks_width _ (drop_ne s pos h)
  rw [← dec_drop] at this
  exact this
theorem pfx_brk (s : ByteArray) (pos : Nat) (h : pos < s.size) : ((Utf8.decode s pos).1 = 65533 ∧ pfx s pos = false) ↔ brk ((Utf8.decode s pos).1, (s.data.toList.drop pos).take (Utf8.decode s pos).2) = true := by
  unfold brk
  dsimp only
  rw [take_dec s pos h]
  by_cases h1 : (Utf8.decode s pos).1 = 65533
  · have hp := pfx_wide (s.data.toList.drop pos) (drop_ne s pos h) (by rw [← dec_drop]; exact h1)
    rw [← dec_drop] at hp
    have hx : (s.extract pos s.size).data.toList = s.data.toList.drop pos := by
      rw [extract_data, List.take_of_length_le]
      rw [List.length_drop, size_eq]; exact Nat.le_refl _
    unfold pfx
    rw [hx]
    cases hq : hasPrefix (s.data.toList.drop pos) [239, 191, 189] with
    | true => rw [hq] at hp; simp at hp; simp [hp]
    | false => rw [hq] at hp; simp at hp; simp [h1, hp]
  · simp [h1]

theorem scanP_eq (s : ByteArray) : ∀ (f pos : Nat), s.size ≤ pos + f → pos ≤ s.size →
    scanP s f pos = if (pre (chunks (s.data.toList.drop pos))).all okC = true then some (pos + (flat (pre (chunks (s.data.toList.drop pos)))).length) else none := by
  have hend : ∀ pos, pos ≤ s.size → ¬ pos < s.size → chunks (s.data.toList.drop pos) = [] := by
    intro pos h1 h2
    rw [List.drop_eq_nil_of_le (by rw [← size_eq]; omega), chunks_nil]
  intro f
  induction f with
  | zero =>
    intro pos h1 h2
    rw [hend pos h2 (by omega)]
    simp [scanP, pre, flat]; omega
  | succ f ih =>
    intro pos h1 h2
    unfold scanP
    by_cases hp : pos < s.size
    · have hw := width_pos s pos
      have hf := dec_fits s pos hp
      rw [if_pos hp, chunks_at s pos hp, pre]
      by_cases h35 : (Utf8.decode s pos).1 = 35
      · rw [if_pos h35, if_pos h35]; simp [flat]
      · rw [if_neg h35, if_neg h35, List.all_cons]
        by_cases hb : ((Utf8.decode s pos).1 = 65533 ∧ pfx s pos = false) ∨ ctl (Utf8.decode s pos).1 = true
        · rw [if_pos hb, pfx_brk s pos hp] at *
          have : okC ((Utf8.decode s pos).1, (s.data.toList.drop pos).take (Utf8.decode s pos).2) = false := by
            unfold okC
            rcases hb with h | h <;> simp [h]
          simp [this]
        · rw [if_neg hb]
          rw [pfx_brk s pos hp] at hb
          have : okC ((Utf8.decode s pos).1, (s.data.toList.drop pos).take (Utf8.decode s pos).2) = true := by
            unfold okC
            have h1 := Bool.eq_false_iff.2 fun h => hb (.inl h)
            have h2 := Bool.eq_false_iff.2 fun h => hb (.inr h)
            simp [h1, h2]
          rw [this, Bool.true_and, ih (pos + (Utf8.decode s pos).2) (by omega) hf]
          congr 2
          simp only [flat, List.flatMap_cons, List.length_append, take_dec s pos hp]
          omega
    · rw [if_neg hp, hend pos h2 hp]
      simp [pre, flat]; omega

theorem spansP_eq (s : ByteArray) : ∀ (f pos : Nat) (st : Option Nat) (acc : List (Nat × Nat)) (cur : List Chunk), s.size ≤ pos + f → pos ≤ s.size →
    (match st with | none => cur = [] | some a => a ≤ pos ∧ cur ≠ [] ∧ ba (flat cur) = s.extract a pos) →
    (closeSpans s (spansFromP blankN s f pos st acc)).map (fun x => s.extract x.1 x.2) = acc.map (fun x => s.extract x.1 x.2) ++ (fields (chunks (s.data.toList.drop pos)) cur).map fun g => ba (flat g) := by
  have hend : ∀ (pos : Nat) (f : Nat) (st : Option Nat) (acc : List (Nat × Nat)) (cur : List Chunk), pos = s.size → (match st with | none => cur = [] | some a => a ≤ pos ∧ cur ≠ [] ∧ ba (flat cur) = s.extract a pos) →
      (closeSpans s (spansFromP blankN s f pos st acc)).map (fun x => s.extract x.1 x.2) = acc.map (fun x => s.extract x.1 x.2) ++ (fields (chunks (s.data.toList.drop pos)) cur).map fun g => ba (flat g) := by
    intro pos f st acc cur hp hst
    rw [spansFromP_end blankN s f pos st acc (by omega), List.drop_eq_nil_of_le (by rw [← size_eq]; omega), chunks_nil]
    cases st with
    | none => dsimp only at hst; subst hst; simp [closeSpans, fields]
    | some a =>
      dsimp only at hst
      obtain ⟨h1, h2, h3⟩ := hst
      simp [closeSpans, fields, h2, h3, hp]
  intro f
  induction f with
  | zero => intro pos st acc cur h1 h2 hst; exact hend pos 0 st acc cur (by omega) hst
  | succ f ih =>
    intro pos st acc cur h1 h2 hst
    by_cases hp : pos < s.size
    · have hw := width_pos s pos
      have hf := dec_fits s pos hp
      unfold spansFromP
      rw [if_pos hp, chunks_at s pos hp]
      have hone : ba (flat [((Utf8.decode s pos).1, (s.data.toList.drop pos).take (Utf8.decode s pos).2)]) = s.extract pos (pos + (Utf8.decode s pos).2) := by
        rw [extract_drop]; simp [flat]
      by_cases hb : blankN (Utf8.decode s pos).1 = true
      · rw [if_pos hb]
        cases st with
        | none =>
          dsimp only at hst; subst hst
          dsimp only
          rw [ih _ none acc [] (by omega) hf rfl, fields]
          simp [hb]
        | some a =>
          dsimp only at hst
          obtain ⟨g1, g2, g3⟩ := hst
          dsimp only
          rw [ih _ none _ [] (by omega) hf rfl, fields]
          simp [hb, g2, g3]
      · rw [if_neg hb]
        cases st with
        | none =>
          dsimp only at hst; subst hst
          dsimp only
          rw [ih _ (some pos) acc [((Utf8.decode s pos).1, (s.data.toList.drop pos).take (Utf8.decode s pos).2)] (by omega) hf ⟨by omega, by simp, hone⟩, fields]
          simp [hb]
        | some a =>
          dsimp only at hst
          obtain ⟨g1, g2, g3⟩ := hst
          dsimp only
          rw [ih _ (some a) acc (cur ++ [((Utf8.decode s pos).1, (s.data.toList.drop pos).take (Utf8.decode s pos).2)]) (by omega) hf ⟨by omega, by simp, ?_⟩, fields]
          · simp [hb]
          · have : flat (cur ++ [((Utf8.decode s pos).1, (s.data.toList.drop pos).take (Utf8.decode s pos).2)]) = flat cur ++ flat [((Utf8.decode s pos).1, (s.data.toList.drop pos).take (Utf8.decode s pos).2)] := by simp [flat]
            rw [this, ← ba_append, g3, hone, ByteArray.extract_append_extract]
            congr 1 <;> omega
    · exact hend pos (f + 1) st acc cur (by omega) hst
theorem goFieldsP_fields (s : ByteArray) : goFieldsP blankN s = (fields (chunks s.data.toList) []).map fun g => ba (flat g) := by
  have h := spansP_eq s s.size 0 none [] [] (by omega) (Nat.zero_le _) rfl
  rw [List.drop_zero] at h
  simpa [goFieldsP, spansOfP] using h

theorem pre_split : ∀ cs : List Chunk, ∃ r, cs = pre cs ++ r := by
  intro cs
  induction cs with
  | nil => exact ⟨[], rfl⟩
  | cons c cs ih =>
    obtain ⟨r, hr⟩ := ih
    rw [pre]
    split
    · exact ⟨c :: cs, rfl⟩
    · exact ⟨r, by rw [List.cons_append, ← hr]⟩
theorem okC_brk {c : Chunk} (h : okC c = true) : brk c = false := by
  unfold okC at h
  cases hb : brk c
  · rfl
  · rw [hb] at h; simp at h
theorem pre_sub {cs : List Chunk} : ∀ c ∈ pre cs, c ∈ cs ∧ c.1 ≠ 35 := by
  induction cs with
  | nil => intro c h; simp [pre] at h
  | cons d cs ih =>
    intro c h
    rw [pre] at h
    split at h
    · simp at h
    · rename_i h35
      rcases List.mem_cons.1 h with rfl | h
      · exact ⟨by simp, h35⟩
      · exact ⟨by simp [(ih c h).1], (ih c h).2⟩

/-- THE PROGRAM: what its road comes to -/
theorem wordsP_eq (s : ByteArray) : wordsP s = wordsC s.data.toList := by
  unfold wordsP wordsC
  rw [scanP_eq s s.size 0 (by omega) (Nat.zero_le _), List.drop_zero]
  split
  · rename_i hok
    rw [Option.map_some, Nat.zero_add]
    congr 1
    rw [goFieldsP_fields]
    have hl : (s.extract 0 (flat (pre (chunks s.data.toList))).length).data.toList = flat (pre (chunks s.data.toList)) := by
      rw [extract_data, List.drop_zero, Nat.sub_zero]
      obtain ⟨r, hr⟩ := pre_split (chunks s.data.toList)
      have hf : s.data.toList = flat (pre (chunks s.data.toList)) ++ flat r := by
        have h1 : flat (chunks s.data.toList) = s.data.toList := chunks_flat _
        have h2 : flat (chunks s.data.toList) = flat (pre (chunks s.data.toList)) ++ flat r := by
          conv => lhs; rw [hr]
          simp [flat]
        exact h1.symm.trans h2
      conv => lhs; arg 2; rw [hf]
      exact List.take_left
    rw [hl]
    congr 2
    exact chunks_of_whole _ fun c hc => chunks_whole _ c (pre_sub c hc).1 (okC_brk (List.all_eq_true.1 hok c hc))
  · rfl
theorem words_eq (s : ByteArray) : wordsP s = wordsR s := by rw [wordsP_eq, wordsR_eq]

/-- words with one blank between, as the law puts them -/
def jT (l : List ByteArray) : Nat → ByteArray
  | 0 => ByteArray.empty
  | i + 1 => (if 0 < i then jT l i ++ ba [32] else jT l i) ++ l.getD i ByteArray.empty
def jC (l : List (List Chunk)) : Nat → List Chunk
  | 0 => []
  | i + 1 => (if 0 < i then jC l i ++ [(32, [32])] else jC l i) ++ l.getD i []
theorem jT_jC (l : List (List Chunk)) : ∀ i, i ≤ l.length → jT (l.map fun g => ba (flat g)) i = ba (flat (jC l i)) := by
  intro i
  induction i with
  | zero => intro _; rfl
  | succ i ih =>
    intro h
    rw [jT, jC, ih (by omega)]
    have hg : (l.map fun g => ba (flat g)).getD i ByteArray.empty = ba (flat (l.getD i [])) := by
      rw [List.getD_eq_getElem?_getD, List.getD_eq_getElem?_getD, List.getElem?_map, List.getElem?_eq_getElem (by omega)]
      rfl
    rw [hg]
    split
    · rw [ba_append, ba_append]; simp [flat]
    · rw [ba_append]; simp [flat]
/-- a word's row of characters -/
def WordC (g : List Chunk) : Prop := g ≠ [] ∧ ∀ c ∈ g, Whole c ∧ okC c = true ∧ c.1 ≠ 35 ∧ blankN c.1 = false
theorem fields_cut (b : Chunk) (hb : blankN b.1 = true) (cs2 : List Chunk) : ∀ (cs cur : List Chunk), fields (cs ++ b :: cs2) cur = fields cs cur ++ fields cs2 [] := by
  intro cs
  induction cs with
  | nil =>
    intro cur
    rw [List.nil_append]
    conv => lhs; rw [fields, if_pos hb]
    conv => rhs; arg 1; rw [fields]
    split <;> simp
  | cons c cs ih =>
    intro cur
    rw [List.cons_append, fields, fields]
    split
    · split
      · exact ih []
      · rw [ih [], List.cons_append]
    · exact ih _
theorem fields_word : ∀ (g cur : List Chunk), (∀ c ∈ g, blankN c.1 = false) → fields g cur = if cur ++ g = [] then [] else [cur ++ g] := by
  intro g
  induction g with
  | nil => intro cur _; rw [fields, List.append_nil]
  | cons c g ih =>
    intro cur h
    rw [fields, if_neg (by rw [h c (by simp)]; simp), ih _ fun x hx => h x (by simp [hx])]
    simp
theorem fields_jC (l : List (List Chunk)) (h : ∀ g ∈ l, WordC g) : ∀ i, i ≤ l.length → fields (jC l i) [] = l.take i := by
  intro i
  induction i with
  | zero => intro _; simp [jC, fields]
  | succ i ih =>
    intro hi
    have hg : l.getD i [] = l[i] := by rw [List.getD_eq_getElem?_getD, List.getElem?_eq_getElem (by omega)]; rfl
    have hw := h l[i] (List.getElem_mem _)
    have hf : fields l[i] [] = [l[i]] := by
      rw [fields_word _ _ fun c hc => (hw.2 c hc).2.2.2, List.nil_append, if_neg hw.1]
    rw [jC, hg, List.take_add_one, List.getElem?_eq_getElem (by omega)]
    split
    · rw [List.append_assoc]
      rw [show [((32 : Nat), [(32 : UInt8)])] ++ l[i] = (32, [32]) :: l[i] from rfl, fields_cut _ (by rfl), ih (by omega), hf]; rfl
    · have : i = 0 := by omega
      subst this
      simp only [jC, List.nil_append]
      rw [hf]; rfl
theorem whole_blank : Whole (32, [32]) := by
  refine ⟨by simp, by decide, fun m => ?_⟩
  rw [decodeL_N]
  simp [decodeN]
theorem jC_mem (l : List (List Chunk)) (h : ∀ g ∈ l, WordC g) : ∀ i, i ≤ l.length → ∀ c ∈ jC l i, Whole c ∧ okC c = true ∧ c.1 ≠ 35 := by
  intro i
  induction i with
  | zero => intro _ c hc; simp [jC] at hc
  | succ i ih =>
    intro hi c hc
    have hg : l.getD i [] = l[i] := by rw [List.getD_eq_getElem?_getD, List.getElem?_eq_getElem (by omega)]; rfl
    have hw := h l[i] (List.getElem_mem _)
    rw [jC, hg] at hc
    rcases List.mem_append.1 hc with hc | hc
    · split at hc
      · rcases List.mem_append.1 hc with hc | hc
        · exact ih (by omega) c hc
        · simp at hc; subst hc; exact ⟨whole_blank, by decide, by decide⟩
      · exact ih (by omega) c hc
    · obtain ⟨h1, h2, h3, _⟩ := hw.2 c hc; exact ⟨h1, h2, h3⟩
theorem pre_all : ∀ cs : List Chunk, (∀ c ∈ cs, c.1 ≠ 35) → pre cs = cs := by
  intro cs
  induction cs with
  | nil => intro _; rfl
  | cons c cs ih => intro h; rw [pre, if_neg (h c (by simp)), ih fun x hx => h x (by simp [hx])]
theorem wordsC_join (l : List (List Chunk)) (h : ∀ g ∈ l, WordC g) : wordsC (flat (jC l l.length)) = some (l.map fun g => ba (flat g)) := by
  have hm := jC_mem l h l.length (Nat.le_refl _)
  have hc : chunks (flat (jC l l.length)) = jC l l.length := chunks_of_whole _ fun c hc => (hm c hc).1
  unfold wordsC
  rw [hc, pre_all _ fun c hc => (hm c hc).2.2, if_pos (List.all_eq_true.2 fun c hc => (hm c hc).2.1), fields_jC l h _ (Nat.le_refl _), List.take_length]
theorem fields_words : ∀ (cs cur : List Chunk), (∀ c ∈ cs, Whole c ∧ okC c = true ∧ c.1 ≠ 35) → (∀ c ∈ cur, Whole c ∧ okC c = true ∧ c.1 ≠ 35 ∧ blankN c.1 = false) → ∀ g ∈ fields cs cur, WordC g := by
  intro cs
  induction cs with
  | nil =>
    intro cur _ hc g hg
    rw [fields] at hg
    split at hg
    · simp at hg
    · rename_i hne; simp at hg; subst hg; exact ⟨hne, hc⟩
  | cons c cs ih =>
    intro cur h hc g hg
    have hr : ∀ c ∈ cs, Whole c ∧ okC c = true ∧ c.1 ≠ 35 := fun x hx => h x (by simp [hx])
    rw [fields] at hg
    split at hg
    · split at hg
      · exact ih [] hr (by simp) g hg
      · rename_i hne
        rcases List.mem_cons.1 hg with rfl | hg
        · exact ⟨hne, hc⟩
        · exact ih [] hr (by simp) g hg
    · rename_i hb
      refine ih _ hr (fun x hx => ?_) g hg
      rcases List.mem_append.1 hx with hx | hx
      · exact hc x hx
      · simp at hx; subst hx
        obtain ⟨h1, h2, h3⟩ := h x (by simp)
        exact ⟨h1, h2, h3, by simpa using hb⟩
/-- THE WORDS: none is empty; one blank between, they are read again -/
theorem words_again (s : ByteArray) (ws : List ByteArray) (h : wordsP s = some ws) : (∀ w ∈ ws, w ≠ ByteArray.empty) ∧ wordsP (jT ws ws.length) = some ws := by
  rw [wordsP_eq] at h
  unfold wordsC at h
  split at h
  · rename_i hok
    injection h with h
    subst h
    have hW : ∀ g ∈ fields (pre (chunks s.data.toList)) [], WordC g := fields_words _ _ (fun c hc => ⟨chunks_whole _ c (pre_sub c hc).1 (okC_brk (List.all_eq_true.1 hok c hc)), List.all_eq_true.1 hok c hc, (pre_sub c hc).2⟩) (by simp)
    refine ⟨fun w hw => ?_, ?_⟩
    · obtain ⟨g, hg, rfl⟩ := List.mem_map.1 hw
      intro e
      have h1 := hW g hg
      have h2 : flat g = [] := by
        have := congrArg ByteArray.size e
        rw [size_ba] at this
        exact List.length_eq_zero_iff.1 (by simpa using this)
      exact h1.1 ((flat_nil_iff fun c hc => (h1.2 c hc).1.1).1 h2)
    · rw [List.length_map, jT_jC _ _ (Nat.le_refl _), wordsP_eq, ba_toList, wordsC_join _ hW]
  · cases h
theorem jT_size (l : List ByteArray) : ∀ i, i ≤ l.length → (jT l i).size ≤ ((l.take i).map fun w => w.size + 1).sum := by
  intro i
  induction i with
  | zero => intro _; simp [jT]
  | succ i ih =>
    intro h
    have h1 := ih (by omega)
    have hg : l.getD i ByteArray.empty = l[i] := by rw [List.getD_eq_getElem?_getD, List.getElem?_eq_getElem (by omega)]; rfl
    rw [jT, hg, sumS _ l i (by omega)]
    split <;> simp only [ByteArray.size_append, size_ba, List.length_cons, List.length_nil] <;> omega
theorem fields_size : ∀ cs cur : List Chunk, ((fields cs cur).map fun g => (flat g).length + 1).sum ≤ (flat cs).length + (flat cur).length + cs.length + 1 := by
  intro cs
  induction cs with
  | nil => intro cur; rw [fields]; split <;> simp [flat]
  | cons c cs ih =>
    intro cur
    rw [fields]
    have h0 := ih []
    simp only [flat, List.flatMap_nil, List.length_nil, List.flatMap_cons, List.length_append, List.length_cons] at h0 ⊢
    split
    · split
      · omega
      · simp only [List.map_cons, List.sum_cons]; omega
    · have h1 := ih (cur ++ [c])
      simp only [flat, List.flatMap_append, List.length_append, List.flatMap_cons, List.flatMap_nil, List.length_nil] at h1
      omega
theorem len_flat : ∀ cs : List Chunk, (∀ c ∈ cs, c.2 ≠ []) → cs.length ≤ (flat cs).length := by
  intro cs
  induction cs with
  | nil => intro _; simp
  | cons c cs ih =>
    intro h
    have h1 := ih fun x hx => h x (by simp [hx])
    have h2 := List.length_pos_iff.2 (h c (by simp))
    simp only [flat, List.flatMap_cons, List.length_append, List.length_cons] at h1 ⊢
    omega
/-- how long they are, one blank between -/
theorem flat_pre_le : ∀ cs : List Chunk, (flat (pre cs)).length ≤ (flat cs).length := by
  intro cs
  obtain ⟨r, hr⟩ := pre_split cs
  conv => rhs; rw [hr]
  simp [flat]
theorem words_size (s : ByteArray) (ws : List ByteArray) (h : wordsP s = some ws) : (ws.map fun w => w.size + 1).sum ≤ 2 * s.size + 1 := by
  rw [wordsP_eq] at h
  unfold wordsC at h
  split at h
  · injection h with h
    subst h
    have h1 := fields_size (pre (chunks s.data.toList)) []
    have h2 := flat_pre_le (chunks s.data.toList)
    have h3 := len_flat (pre (chunks s.data.toList)) fun c hc => chunks_ne _ c (pre_sub c hc).1
    have h4 : (flat (chunks s.data.toList)).length = s.size := by rw [size_eq]; exact congrArg List.length (chunks_flat _)
    rw [List.map_map]
    have h5 : ((fun w : ByteArray => w.size + 1) ∘ fun g => ba (flat g)) = fun g => (flat g).length + 1 := by funext g; simp [size_ba]
    rw [h5]
    simp only [flat, List.flatMap_nil, List.length_nil] at h1 h2 h3 h4 ⊢
    omega
  · cases h
theorem words_joined (s : ByteArray) (ws : List ByteArray) (h : wordsP s = some ws) (i : Nat) (hi : i ≤ ws.length) : (jT ws i).size ≤ 2 * s.size + 1 := by
  have h1 := words_size s ws h
  have h2 := jT_size ws i hi
  have h3 : ((ws.take i).map fun w => w.size + 1).sum ≤ (ws.map fun w => w.size + 1).sum := by
    conv => rhs; rw [← List.take_append_drop i ws]
    rw [List.map_append, List.sum_append]
    omega
  omega
end Go.Proofs.YtknigkjbnaoldaaDoor
