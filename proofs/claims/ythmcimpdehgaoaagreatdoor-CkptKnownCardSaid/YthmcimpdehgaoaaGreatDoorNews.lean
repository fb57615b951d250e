/- A region that draws its order, in which several operations make new memory: all orders at once, by what each has left in its slot. -/
import Derived.Test.YthmcimpdehgaoaaGreatDoorMem
import Derived.Deep.RegionHeld
import Derived.Great.BuildSlice
import Derived.Great.CaseRows
namespace Go.Proofs.YthmcimpdehgaoaaGreatDoor
open Go.RowKit

/-- values put, one behind the other -/
def putsA (a : Act) : List (Nat × Value) → Act
  | [] => a
  | x :: r => putsA (a.put (some x.1) x.2) r
theorem put_put (a : Act) (d : Nat) (u v : Value) : (a.put (some d) u).put (some d) v = a.put (some d) v := by simp [Act.put]
theorem puts_comm : ∀ (l : List (Nat × Value)) (a : Act) (d : Nat) (v : Value), d ∉ l.map (·.1) → (putsA a l).put (some d) v = putsA (a.put (some d) v) l := by
  intro l
  induction l with
  | nil => intro a d v _; rfl
  | cons x r ih =>
    intro a d v h
    rw [List.map_cons, List.mem_cons, not_or] at h
    show (putsA (a.put (some x.1) x.2) r).put (some d) v = putsA ((a.put (some d) v).put (some x.1) x.2) r
    rw [ih _ d v h.2, Act.put_comm a x.2 v (fun e he => by injection he with he; subst he; intro h2; injection h2 with h2; exact h.1 h2)]
theorem puts_put : ∀ (ds : List Nat) (vs : List Value) (a : Act) (n d : Nat) (v : Value), ds.Nodup → vs.length = ds.length → ds[n]? = some d → (putsA a (ds.zip vs)).put (some d) v = putsA a (ds.zip (vs.set n v)) := by
  intro ds
  induction ds with
  | nil => intro vs a n d v _ _ h; cases h
  | cons x ds ih =>
    intro vs a n d v hn hl hd
    obtain ⟨hx, hn2⟩ := List.nodup_cons.1 hn
    cases vs with
    | nil => cases hl
    | cons u vs =>
      have hl2 : vs.length = ds.length := by simpa using hl
      cases n with
      | zero =>
        obtain rfl : x = d := by simpa using hd
        show (putsA (a.put (some x) u) (ds.zip vs)).put (some x) v = putsA (a.put (some x) v) (ds.zip vs)
        rw [puts_comm _ _ _ _ (fun h => hx (by rw [List.map_fst_zip (by omega)] at h; exact h)), put_put]
      | succ n => exact ih vs (a.put (some x) u) n d v hn2 hl2 (by simpa using hd)
theorem put_size (a : Act) (d : Nat) (v : Value) : (a.put (some d) v).tmps.size = a.tmps.size := by simp [Act.put]
theorem puts_size : ∀ (l : List (Nat × Value)) (a : Act), (putsA a l).tmps.size = a.tmps.size := by
  intro l
  induction l with
  | nil => intro a; rfl
  | cons x r ih => intro a; show (putsA (a.put (some x.1) x.2) r).tmps.size = _; rw [ih, put_size]
theorem puts_far : ∀ (l : List (Nat × Value)) (a : Act) (d : Nat), d ∉ l.map (·.1) → (putsA a l).tmps[d]? = a.tmps[d]? := by
  intro l
  induction l with
  | nil => intro a d _; rfl
  | cons x r ih =>
    intro a d h
    rw [List.map_cons, List.mem_cons, not_or] at h
    show (putsA (a.put (some x.1) x.2) r).tmps[d]? = _
    rw [ih _ d h.2]
    simp only [Act.put]
    rw [Array.getElem?_setIfInBounds_ne (fun e => h.1 e.symm)]
theorem puts_at : ∀ (ds : List Nat) (vs : List Value) (a : Act) (n d : Nat), ds.Nodup → vs.length = ds.length → ds[n]? = some d → d < a.tmps.size → (putsA a (ds.zip vs)).tmps[d]? = vs[n]? := by
  intro ds
  induction ds with
  | nil => intro vs a n d _ _ h; cases h
  | cons x ds ih =>
    intro vs a n d hn hl hd hs
    obtain ⟨hx, hn2⟩ := List.nodup_cons.1 hn
    cases vs with
    | nil => cases hl
    | cons u vs =>
      have hl2 : vs.length = ds.length := by simpa using hl
      cases n with
      | zero =>
        obtain rfl : x = d := by simpa using hd
        show (putsA (a.put (some x) u) (ds.zip vs)).tmps[x]? = _
        rw [puts_far _ _ _ (fun h => hx (by rw [List.map_fst_zip (by omega)] at h; exact h))]
        simp [Act.put, hs]
      | succ n => exact ih vs (a.put (some x) u) n d hn2 hl2 (by simpa using hd) (by rw [put_size]; exact hs)
theorem puts_self : ∀ (ds : List Nat) (a : Act), (∀ d ∈ ds, d < a.tmps.size) → putsA a (ds.zip (ds.map fun d => (a.tmps[d]?).getD undef)) = a := by
  intro ds
  induction ds with
  | nil => intro a _; rfl
  | cons x ds ih =>
    intro a h
    have hx := h x (List.mem_cons_self ..)
    have hp : a.put (some x) ((a.tmps[x]?).getD undef) = a := by
      simp only [Act.put]
      rw [Array.getElem?_eq_getElem hx, Option.getD_some]
      have : a.tmps.setIfInBounds x a.tmps[x] = a.tmps := by
        apply Array.ext
        · simp
        · intro i h1 h2
          rw [Array.getElem_setIfInBounds]
          split
          · rename_i e; subst e; rfl
          · rfl
      rw [this]
    show putsA (a.put (some x) ((a.tmps[x]?).getD undef)) (ds.zip (ds.map fun d => (a.tmps[d]?).getD undef)) = a
    rw [hp]
    exact ih a fun d hd => h d (List.mem_cons_of_mem _ hd)
/-- does one operation wait for another one, at once? -/
def bindsOn (md : Region.Mode) (ops : Array Oper) (i j : Nat) : Bool := ((ops[i]?).map fun o => o.after.any fun e => Region.binds md e && e.on == j).getD false
/-- does it wait for it, through operations of a row? -/
def waitsFor (md : Region.Mode) (ops : Array Oper) (ks : List Nat) : Nat → Nat → Nat → Bool
  | 0, i, j => bindsOn md ops i j
  | f + 1, i, j => bindsOn md ops i j || ks.any fun k => bindsOn md ops i k && waitsFor md ops ks f k j
/-- the row of those that make memory (K: numbers and slots): each waits for what came up, or for earlier ones of the row; all others that have not come up wait for each of them -/
def newsOk (md : Region.Mode) (ops : Array Oper) (L0 : Array Bool) (K : List (Nat × Nat)) (f : Nat) : Bool :=
  (K.all fun k => L0[k.1]? == some false) && decide (K.map (·.1)).Nodup && decide (K.map (·.2)).Nodup &&
  ((List.range K.length).all fun n => ((ops[(K.getD n (0, 0)).1]?).map fun o => o.after.all fun e => !Region.binds md e || L0.getD e.on false || ((K.take n).map (·.1)).contains e.on).getD false) &&
  ((List.range ops.size).all fun i => L0.getD i true || (K.map (·.1)).contains i || (K.map (·.1)).all fun k => waitsFor md ops (K.map (·.1)) f i k)
def listedAll (L0 : Array Bool) : List (Nat × Nat) → Array Bool
  | [] => L0
  | k :: r => listedAll (L0.setIfInBounds k.1 true) r
section
variable {P : Program} {ops : Array Oper} {Q : Exit → Act → World → Prop} {md : Region.Mode} {S : World → Prop}
def left (listed : Array Bool) (K : List (Nat × Nat)) : Nat := (K.filter fun k => !listed.getD k.1 false).length
theorem left_set : ∀ (K : List (Nat × Nat)) (listed : Array Bool) (i : Nat), (K.map (·.1)).Nodup → i ∈ K.map (·.1) → listed.getD i false = false → i < listed.size → left (listed.setIfInBounds i true) K + 1 = left listed K := by
  intro K
  induction K with
  | nil => intro _ _ _ h; cases h
  | cons k r ih =>
    intro listed i hn hi hu hlt
    rw [List.map_cons] at hn hi
    obtain ⟨hk, hn2⟩ := List.nodup_cons.1 hn
    by_cases hki : k.1 = i
    · subst hki
      have h1 : (listed.setIfInBounds k.1 true).getD k.1 false = true := by simp [hlt]
      have h2 : ∀ x ∈ r, ((listed.setIfInBounds k.1 true).getD x.1 false) = listed.getD x.1 false := fun x hx => getD_set_ne false (fun e => hk (e ▸ List.mem_map_of_mem hx))
      unfold left
      rw [List.filter_cons, List.filter_cons, h1, hu, List.filter_congr fun x hx => by rw [h2 x hx]]
      simp
    · have hi2 : i ∈ r.map (·.1) := by
        rcases List.mem_cons.1 hi with e | h
        · exact absurd e.symm hki
        · exact h
      have h1 : (listed.setIfInBounds i true).getD k.1 false = listed.getD k.1 false := getD_set_ne false (fun e => hki e.symm)
      have := ih listed i hn2 hi2 hu hlt
      unfold left at this ⊢
      rw [List.filter_cons, List.filter_cons, h1]
      split
      · rw [List.length_cons, List.length_cons]; omega
      · exact this
/-- what came up hangs together: none ahead of what it waits for -/
def Closed (md : Region.Mode) (ops : Array Oper) (ks : List Nat) (listed : Array Bool) : Prop :=
  ∀ i ∈ ks, listed.getD i false = true → ∀ o, ops[i]? = some o → ∀ e ∈ o.after, Region.binds md e = true → listed.getD e.on false = true
theorem bindsOn_spec {i j : Nat} (h : bindsOn md ops i j = true) : ∃ o, ops[i]? = some o ∧ ∃ e ∈ o.after, Region.binds md e = true ∧ e.on = j := by
  unfold bindsOn at h
  cases ho : ops[i]? with
  | none => simp [ho] at h
  | some o =>
    simp only [ho, Option.map_some, Option.getD_some, Array.any_eq_true] at h
    obtain ⟨n, hn, he⟩ := h
    simp only [Bool.and_eq_true, beq_iff_eq] at he
    exact ⟨o, rfl, _, Array.getElem_mem hn, he.1, he.2⟩
theorem waits_spec {ks : List Nat} {listed : Array Bool} (hc : Closed md ops ks listed) : ∀ (f i k : Nat), waitsFor md ops ks f i k = true → listed.getD k false = false → ∃ o, ops[i]? = some o ∧ ∃ e ∈ o.after, Region.binds md e = true ∧ listed.getD e.on false = false := by
  intro f
  induction f with
  | zero =>
    intro i k h hk
    obtain ⟨o, ho, e, he, hb, hon⟩ := bindsOn_spec h
    exact ⟨o, ho, e, he, hb, by rw [hon]; exact hk⟩
  | succ f ih =>
    intro i k h hk
    rw [waitsFor, Bool.or_eq_true] at h
    rcases h with h | h
    · obtain ⟨o, ho, e, he, hb, hon⟩ := bindsOn_spec h
      exact ⟨o, ho, e, he, hb, by rw [hon]; exact hk⟩
    · obtain ⟨k', hk', h2⟩ := List.any_eq_true.1 h
      rw [Bool.and_eq_true] at h2
      obtain ⟨o', ho', e', he', hb', hl'⟩ := ih k' k h2.2 hk
      obtain ⟨o, ho, e, he, hb, hon⟩ := bindsOn_spec h2.1
      refine ⟨o, ho, e, he, hb, ?_⟩
      rw [hon]
      cases hx : listed.getD k' false with
      | false => rfl
      | true =>
        have := hc k' hk' hx o' ho' e' he' hb'
        rw [hl'] at this
        cases this
theorem listedAll_size : ∀ (K : List (Nat × Nat)) (L0 : Array Bool), (listedAll L0 K).size = L0.size := by
  intro K
  induction K with
  | nil => intro _; rfl
  | cons k r ih => intro L0; show (listedAll (L0.setIfInBounds k.1 true) r).size = _; rw [ih]; simp
theorem listedAll_far : ∀ (K : List (Nat × Nat)) (L0 : Array Bool) (i : Nat), i ∉ K.map (·.1) → (listedAll L0 K)[i]? = L0[i]? := by
  intro K
  induction K with
  | nil => intro _ _ _; rfl
  | cons k r ih =>
    intro L0 i h
    rw [List.map_cons, List.mem_cons, not_or] at h
    show (listedAll (L0.setIfInBounds k.1 true) r)[i]? = _
    rw [ih _ i h.2, Array.getElem?_setIfInBounds_ne (fun e => h.1 e.symm)]
theorem listedAll_at : ∀ (K : List (Nat × Nat)) (L0 : Array Bool) (i : Nat), i ∈ K.map (·.1) → i < L0.size → (listedAll L0 K)[i]? = some true := by
  intro K
  induction K with
  | nil => intro _ _ h; cases h
  | cons k r ih =>
    intro L0 i h hlt
    show (listedAll (L0.setIfInBounds k.1 true) r)[i]? = _
    by_cases hr : i ∈ r.map (·.1)
    · exact ih _ i hr (by simpa using hlt)
    · rw [listedAll_far _ _ _ hr]
      rw [List.map_cons] at h
      rcases List.mem_cons.1 h with rfl | h
      · simp [hlt]
      · exact absurd h hr
/-- ALL ORDERS AT ONCE. G n v w: what the row's operation n left, v, in the world w. -/
theorem wpAnyH_news {w0 : World} {a0 : Act} {L0 : Array Bool} (B : Nat) (K : List (Nat × Nat)) (G : Nat → Value → World → Prop) (f fuel0 : Nat) (hok : newsOk md ops L0 K f = true)
    (hB : B ≤ w0.heap.size) (hds : ∀ d ∈ K.map (·.2), d < a0.tmps.size) (hS : ∀ w, Below B w0 w → S w) (hG : ∀ n v w w', Below w.heap.size w w' → G n v w → G n v w')
    (hstep : ∀ n k o vs w, K[n]? = some k → ops[k.1]? = some o → vs.length = K.length → Below B w0 w →
      (∀ m k', K[m]? = some k' → (∃ e ∈ o.after, Region.binds md e = true ∧ e.on = k'.1) → G m (vs.getD m undef) w) →
      ∀ Kt : Act → World → Prop, (∀ v w', Below w.heap.size w w' → G n v w' → Kt ((putsA a0 ((K.map (·.2)).zip vs)).put (some k.2) v) w') → wpOp P ops Q k.1 Kt (putsA a0 ((K.map (·.2)).zip vs)) w)
    (hdone : ∀ vs w, vs.length = K.length → Below B w0 w → S w → (∀ n, n < K.length → G n (vs.getD n undef) w) → wpAnyH P md ops Q S fuel0 (listedAll L0 K) (putsA a0 ((K.map (·.2)).zip vs)) w) :
    wpAnyH P md ops Q S (fuel0 + K.length) L0 a0 w0 := by
  unfold newsOk at hok
  simp only [Bool.and_eq_true, List.all_eq_true, decide_eq_true_eq, beq_iff_eq, List.mem_range] at hok
  obtain ⟨⟨⟨⟨h1, hn1⟩, hn2⟩, htop⟩, hblk⟩ := hok
  have main : ∀ m listed vs w, left listed K = m → vs.length = K.length → Below B w0 w → listed.size = L0.size → (∀ i, i ∉ K.map (·.1) → listed[i]? = L0[i]?) → Closed md ops (K.map (·.1)) listed →
      (∀ n k, K[n]? = some k → listed.getD k.1 false = true → G n (vs.getD n undef) w) → wpAnyH P md ops Q S (fuel0 + m) listed (putsA a0 ((K.map (·.2)).zip vs)) w := by
    intro m
    induction m with
    | zero =>
      intro listed vs w hm hvs hb hsz hfar hcl hg
      have hall : ∀ k ∈ K, listed.getD k.1 false = true := fun k hk => by
        unfold left at hm
        have := List.filter_eq_nil_iff.1 (List.eq_nil_of_length_eq_zero hm) k hk
        simpa using this
      have heq : listed = listedAll L0 K := by
        apply Array.ext_getElem?
        intro i
        by_cases hi : i ∈ K.map (·.1)
        · obtain ⟨k, hk, rfl⟩ := List.mem_map.1 hi
          have hlt : k.1 < L0.size := (Array.getElem?_eq_some_iff.1 (h1 k hk)).1
          rw [listedAll_at K L0 k.1 hi hlt]
          have := hall k hk
          rw [Array.getElem?_eq_getElem (by omega)]
          simpa [hsz, hlt] using this
        · rw [hfar i hi, listedAll_far K L0 i hi]
      rw [heq]
      refine hdone vs w hvs hb (hS w hb) fun n hn => ?_
      exact hg n K[n] (List.getElem?_eq_getElem hn) (hall _ (List.getElem_mem hn))
    | succ m ih =>
      intro listed vs w hm hvs hb hsz hfar hcl hg
      have hfar' : ∀ i, i ∉ K.map (·.1) → listed.getD i true = L0.getD i true := fun i hi => by simp [hfar i hi]
      have hin : ∀ k ∈ K, k.1 < listed.size := fun k hk => by rw [hsz]; exact (Array.getElem?_eq_some_iff.1 (h1 k hk)).1
      have hgd : ∀ k ∈ K, listed.getD k.1 true = listed.getD k.1 false := fun k hk => by simp [hin k hk]
      -- one that has not come up, with all earlier ones come up
      have hex : ∃ n k, K[n]? = some k ∧ listed.getD k.1 false = false ∧ ∀ x ∈ K.take n, listed.getD x.1 false = true := by
        have hne : ∃ n, n < K.length ∧ listed.getD (K.getD n (0, 0)).1 false = false := by
          have hpos : 0 < (K.filter fun k => !listed.getD k.1 false).length := by unfold left at hm; omega
          obtain ⟨k, hk⟩ := List.exists_mem_of_length_pos hpos
          obtain ⟨hk1, hk2⟩ := List.mem_filter.1 hk
          obtain ⟨n, hn, rfl⟩ := List.mem_iff_getElem.1 hk1
          exact ⟨n, hn, by rw [List.getD_eq_getElem?_getD, List.getElem?_eq_getElem hn]; simpa using hk2⟩
        obtain ⟨n0, hn0⟩ := hne
        have hmin : ∀ j n, n ≤ j → n < K.length ∧ listed.getD (K.getD n (0, 0)).1 false = false → ∃ n, (n < K.length ∧ listed.getD (K.getD n (0, 0)).1 false = false) ∧ ∀ i, i < n → listed.getD (K.getD i (0, 0)).1 false = true := by
          intro j
          induction j with
          | zero => intro n hn h; exact ⟨n, h, fun i hi => by omega⟩
          | succ j ihj =>
            intro n hn h
            by_cases hc : ∃ i, i < n ∧ listed.getD (K.getD i (0, 0)).1 false = false
            · obtain ⟨i, hi, hf⟩ := hc
              exact ihj i (by omega) ⟨by omega, hf⟩
            · refine ⟨n, h, fun i hi => ?_⟩
              cases hx : listed.getD (K.getD i (0, 0)).1 false with
              | true => rfl
              | false => exact absurd ⟨i, hi, hx⟩ hc
        obtain ⟨n, ⟨hn, hf⟩, hlow⟩ := hmin n0 n0 (Nat.le_refl _) hn0
        refine ⟨n, K[n], List.getElem?_eq_getElem hn, ?_, fun x hx => ?_⟩
        · rw [List.getD_eq_getElem?_getD, List.getElem?_eq_getElem hn] at hf; exact hf
        · obtain ⟨i, hi, rfl⟩ := List.mem_iff_getElem.1 hx
          rw [List.length_take] at hi
          have := hlow i (by omega)
          rw [List.getElem_take]
          rw [List.getD_eq_getElem?_getD, List.getElem?_eq_getElem (by omega)] at this
          exact this
      refine ⟨fun hr => ?_, fun i hi => ?_⟩
      · obtain ⟨n, k, hk, hu, hlow⟩ := hex
        have hkm := List.mem_of_getElem? hk
        have ht := htop n (List.getElem?_eq_some_iff.1 hk).1
        rw [List.getD_eq_getElem?_getD, hk, Option.getD_some] at ht
        cases ho : ops[k.1]? with
        | none => rw [ho] at ht; cases ht
        | some o =>
          simp only [ho, Option.map_some, Option.getD_some, Array.all_eq_true_iff_forall_mem, Bool.or_eq_true, Bool.not_eq_true', List.contains_iff_mem] at ht
          have : k.1 ∈ Region.ready md ops listed := mem_ready.2 ⟨by rw [hgd k hkm]; exact hu, o, ho, fun e he hb2 => by
            rcases ht e he with (h | h) | h
            · rw [hb2] at h; cases h
            · by_cases hin2 : e.on ∈ K.map (·.1)
              · obtain ⟨k', hk', hke⟩ := List.mem_map.1 hin2
                have := h1 k' hk'
                rw [← hke] at h
                simp [this] at h
              · have := hfar e.on hin2
                simp only [Array.getD_eq_getD_getElem?] at h ⊢
                rw [this]; exact h
            · obtain ⟨x, hx, hxe⟩ := List.mem_map.1 h
              rw [← hxe]
              exact hlow x hx⟩
          rw [hr] at this
          cases this
      · obtain ⟨hun, o, ho, hall⟩ := mem_ready.1 hi
        have hiK : i ∈ K.map (·.1) := by
          by_cases hiK : i ∈ K.map (·.1)
          · exact hiK
          · exfalso
            have hlt : i < ops.size := (Array.getElem?_eq_some_iff.1 ho).1
            have hb := hblk i hlt
            rw [Bool.or_eq_true, Bool.or_eq_true] at hb
            rcases hb with (h | h) | h
            · rw [hfar' i hiK, h] at hun; cases hun
            · exact hiK (List.contains_iff_mem.1 h)
            · obtain ⟨n, k, hk, hu, _⟩ := hex
              have h := List.all_eq_true.1 h k.1 (List.mem_map_of_mem (List.mem_of_getElem? hk))
              obtain ⟨o', ho', e, he, hb2, hl⟩ := waits_spec hcl f i k.1 h hu
              rw [ho] at ho'
              injection ho' with ho'
              subst ho'
              have := hall e he hb2
              rw [hl] at this
              cases this
        obtain ⟨k, hk, rfl⟩ := List.mem_map.1 hiK
        obtain ⟨n, hn, hkn⟩ := List.mem_iff_getElem.1 hk
        have hkn' : K[n]? = some k := by rw [List.getElem?_eq_getElem hn, hkn]
        have hu : listed.getD k.1 false = false := by rw [← hgd k hk]; exact hun
        refine hstep n k o vs w hkn' ho hvs hb (fun m' k' hm' ⟨e, he, hb2, hon⟩ => hg m' k' hm' (by rw [← hon]; exact hall e he hb2)) _ fun v w' hb' hgv => ?_
        have hb2 : Below B w0 w' := hb.trans (hb'.mono (Nat.le_trans hB hb.size))
        refine ⟨hS w' hb2, ?_⟩
        rw [puts_put (K.map (·.2)) vs a0 n k.2 v hn2 (by rw [List.length_map]; exact hvs) (by rw [List.getElem?_map, hkn']; rfl)]
        refine ih (listed.setIfInBounds k.1 true) (vs.set n v) w' ?_ (by rw [List.length_set]; exact hvs) hb2 (by simpa using hsz) (fun j hj => ?_) (fun j hj hl o' ho' e he hbe => ?_) (fun j k' hk' hl => ?_)
        · have := left_set K listed k.1 hn1 hiK hu (hin k hk)
          omega
        · rw [Array.getElem?_setIfInBounds_ne (fun e => hj (by rw [← e]; exact hiK))]; exact hfar j hj
        · by_cases hjk : k.1 = j
          · subst hjk
            rw [ho] at ho'
            injection ho' with ho'
            subst ho'
            exact getD_set_true (hall e he hbe)
          · rw [getD_set_ne false hjk] at hl
            exact getD_set_true (hcl j hj hl o' ho' e he hbe)
        · by_cases hjn : n = j
          · subst hjn
            have e1 : (vs.set n v).getD n undef = v := by
              rw [List.getD_eq_getElem?_getD, List.getElem?_set_self (by rw [hvs]; exact hn)]; rfl
            rw [e1]; exact hgv
          · have hne : k.1 ≠ k'.1 := fun e => by
              obtain ⟨hj2, hkj⟩ := List.getElem?_eq_some_iff.1 hk'
              have hnd := List.pairwise_iff_getElem.1 hn1
              have h9 : (K.map (·.1))[n]'(by rw [List.length_map]; exact hn) = (K.map (·.1))[j]'(by rw [List.length_map]; exact hj2) := by rw [List.getElem_map, List.getElem_map, hkn, hkj, e]
              rcases Nat.lt_or_gt_of_ne hjn with hlt | hlt
              · exact hnd n j _ _ hlt h9
              · exact hnd j n _ _ hlt h9.symm
            rw [getD_set_ne false hne] at hl
            have e1 : (vs.set n v).getD j undef = vs.getD j undef := by
              rw [List.getD_eq_getElem?_getD, List.getD_eq_getElem?_getD, List.getElem?_set_ne hjn]
            rw [e1]
            exact hG j _ w w' hb' (hg j k' hk' hl)
  have hz : left L0 K = K.length := by
    unfold left
    rw [List.filter_eq_self.2 fun k hk => by have := h1 k hk; simp [this]]
  have := main K.length L0 ((K.map (·.2)).map fun d => (a0.tmps[d]?).getD undef) w0 hz (by simp) (Below.refl _ _ |>.mono hB) rfl (fun _ _ => rfl) (fun i hi hl => ?_) (fun n k hk hl => ?_)
  · rw [puts_self _ a0 hds] at this
    exact this
  · obtain ⟨k, hk, rfl⟩ := List.mem_map.1 hi
    have := h1 k hk
    simp [this] at hl
  · have := h1 k (List.mem_of_getElem? hk)
    simp [this] at hl
theorem wpOp_plain {i : Nat} {o : Oper} {a : Act} {w : World} {Kt : Act → World → Prop} (hi : ops[i]? = some o) (hg : o.guard = none) (h : o.wp P a w Kt Q) : wpOp P ops Q i Kt a w := by
  unfold wpOp
  simp only [hi]
  rw [if_pos (by simp [Region.wanted, hg])]
  exact .inl h
/-- a slice of numbers, written out -/
theorem wpOp_flat {i : Nat} {o : Oper} {a : Act} {w : World} {Kt : Act → World → Prop} (hi : ops[i]? = some o) (hg : o.guard = none) (t e : TypeId) (len : Nat) (parts : Array (Nat × Operand)) (ho : o.op = .buildSlice t len parts) (d : Nat) (hd : o.dst = some d)
    (k : IntKind) (zs : List Int) (hu : P.underlying t = some (.slice e)) (hsz : (P.info? e).map (·.size) = some 1) (hz : ((P.info? e).bind (·.zero)).isSome = true)
    (hlen : len = zs.length) (hpos : 0 < len) (hsmall : len ≤ 2 ^ 24) (hparts : parts.toList = (zs.zipIdx 0).map fun x => (x.2, Operand.const (Value.int k x.1)))
    (h : Kt (a.put (some d) (.slice (some ⟨w.heap.size, 0, none⟩) len len)) (w.alloc (.cells (zs.map (Value.int k)).toArray e))) : wpOp P ops Q i Kt a w := by
  refine wpOp_plain hi hg ?_
  cases hie : P.info? e with
  | none => simp [hie] at hsz
  | some ie =>
    simp only [hie, Option.map_some, Option.some.injEq, Option.bind_some] at hsz hz
    obtain ⟨z, hzz⟩ := Option.isSome_iff_exists.1 hz
    refine wp_buildSlice t e len parts ho _ ie z hu hie hzz (by rw [hsz]; omega) (by rw [hsz]; omega) ?_ (by rw [hd]; exact h)
    rw [parts_eval a parts k zs hparts, hsz]
    exact Great.fill_flat _ _ (fun v hv => by obtain ⟨n, _, rfl⟩ := List.mem_map.1 hv; rfl) (by simp [hlen])
/-- a struct, written out -/
theorem wpOp_build {i : Nat} {o : Oper} {a : Act} {w : World} {Kt : Act → World → Prop} (hi : ops[i]? = some o) (hg : o.guard = none) (t : TypeId) (parts : Array (Nat × Operand)) (ho : o.op = .build t parts) (d : Nat) (hd : o.dst = some d)
    (cells : Array Value) (hf : P.built t (parts.map fun (i, x) => (i, a.eval x)).toList = some cells) (h : Kt (a.put (some d) (.agg cells)) w) : wpOp P ops Q i Kt a w := by
  refine wpOp_plain hi hg (wp_build t parts ho (by rw [hf]; rfl) ?_)
  rw [hf, hd]
  exact h
/-- a slice of rows that lie in slots -/
theorem wp_rowsN {o : Oper} {a : Act} {w : World} {Kt : Act → World → Prop} (t e : TypeId) (parts : Array (Nat × Operand)) (s : Nat) (vs : List Value)
    (ho : o.op = .buildSlice t vs.length parts) (ix : Nat → Nat)
    (hu : P.underlying t = some (.slice e)) (hsz : (P.info? e).map (·.size) = some s) (hz : ((P.info? e).bind (·.zero)).isSome = true)
    (hs : 0 < s) (hpos : 0 < vs.length) (hsmall : vs.length * s ≤ 2 ^ 24)
    (hparts : parts.toList = (List.range vs.length).map fun i => (i, Operand.tmp (ix i)))
    (h1 : ∀ v ∈ vs, v.cells.size = s) (hev : ∀ i (h : i < vs.length), a.eval (.tmp (ix i)) = vs[i])
    (h : Kt (a.put o.dst (.slice (some ⟨w.heap.size, 0, none⟩) vs.length vs.length)) (w.alloc (.cells (vs.flatMap fun v => v.cells.toList).toArray e))) : o.wp P a w Kt Q := by
  cases hie : P.info? e with
  | none => simp [hie] at hsz
  | some ie =>
    simp only [hie, Option.map_some, Option.some.injEq, Option.bind_some] at hsz hz
    obtain ⟨z, hzz⟩ := Option.isSome_iff_exists.1 hz
    have hp := Nat.mul_pos hpos hs
    refine wp_buildSlice t e vs.length parts ho _ ie z hu hie hzz (by rw [hsz]; omega) (by rw [hsz]; omega) ?_ h
    have e1 : (parts.map fun (i, x) => (i, a.eval x)).toList = (vs.zipIdx 0).map fun x => (x.2, x.1) := by
      rw [Array.toList_map, hparts, List.map_map]
      apply List.ext_getElem
      · simp
      · intro i h1 h2
        have hi : i < vs.length := by simpa using h1
        simp only [List.getElem_map, List.getElem_range, Function.comp, List.getElem_zipIdx, Nat.zero_add]
        rw [hev i hi]
    rw [e1, hsz]
    exact Great.fill_whole hs vs ((Array.range (vs.length * s)).map (z.cells[· % z.cells.size]!)) h1 (by simp)
end
/-- what lies in a slot of the row -/
theorem puts_eval {a : Act} {ds : List Nat} {vs : List Value} {n d : Nat} (hn : ds.Nodup) (hl : vs.length = ds.length) (hd : ds[n]? = some d) (hs : d < a.tmps.size) : (putsA a (ds.zip vs)).eval (.tmp d) = vs.getD n undef := by
  have := puts_at ds vs a n d hn hl hd hs
  simp only [Act.eval, Array.getD_eq_getD_getElem?]
  rw [this, List.getD_eq_getElem?_getD]
/-- what a struct literal yields -/
theorem run_build_ {P : Program} {o : Oper} {a : Act} {t : TypeId} {parts : Array (Nat × Operand)} (ho : o.op = .build t parts) {cells : Array Value} (hf : P.built t (parts.map fun (i, x) => (i, a.eval x)).toList = some cells) (w : World) : (execOp a.eval o).run P w = .ok (.value (.agg cells)) w := by
  unfold execOp
  simp only [ho, Sem.run_bind, run_build w t _ cells hf, Result.andThen_ok]
  rfl
theorem wpAnyH_fuel {P : Program} {ops : Array Oper} {Q : Exit → Act → World → Prop} {md : Region.Mode} {S : World → Prop} {n m : Nat} {l : Array Bool} {a : Act} {w : World} (h : wpAnyH P md ops Q S n l a w) (e : n = m) : wpAnyH P md ops Q S m l a w := e ▸ h
theorem wpAnyH_abs {P : Program} {ops : Array Oper} {Q : Exit → Act → World → Prop} {md : Region.Mode} {S : World → Prop} {n : Nat} {l : Array Bool} {a : Act} {w : World} (h : ∀ a0, a0 = a → wpAnyH P md ops Q S n l a0 w) : wpAnyH P md ops Q S n l a w := h a rfl
section
variable {P : Program} {ops : Array Oper} {rest : List Oper} {o : Oper} {a : Act} {w : World} {Q : Exit → Act → World → Prop}
theorem wpList_mvN (hg : o.guard = none) (x : Operand) (ho : o.op = .move x) (d : Nat) (hd : o.dst = some d) (v : Value) (hv : a.eval x = v) (h : wpList P ops Q rest (a.put (some d) v) w) : wpList P ops Q (o :: rest) a w := by
  subst hv
  refine wpList_plain hg fun _ hK => ?_
  unfold Oper.wp execOp
  simp only [ho, Sem.run_pure]
  exact hK _ _ (by rw [hd]; exact h)
theorem wpList_asN (hg : o.guard = none) (x : Operand) (ho : o.op = .assign x) (d : Nat) (hd : o.dst = some d) (v : Value) (hv : a.eval x = v) (h : wpList P ops Q rest (a.put (some d) v) w) : wpList P ops Q (o :: rest) a w := by
  subst hv
  refine wpList_plain hg fun _ hK => ?_
  unfold Oper.wp execOp
  simp only [ho, Sem.run_pure]
  exact hK _ _ (by rw [hd]; exact h)
/-- a slice of numbers, written out: the new world and the new block are letters -/
theorem wpList_flatN (hg : o.guard = none) (t e : TypeId) (len : Nat) (parts : Array (Nat × Operand)) (ho : o.op = .buildSlice t len parts) (k : IntKind) (zs : List Int) (d : Nat) (hd : o.dst = some d)
    (hu : P.underlying t = some (.slice e)) (hsz : (P.info? e).map (·.size) = some 1) (hz : ((P.info? e).bind (·.zero)).isSome = true)
    (hlen : len = zs.length) (hpos : 0 < len) (hsmall : len ≤ 2 ^ 24) (hparts : parts.toList = (zs.zipIdx 0).map fun x => (x.2, Operand.const (Value.int k x.1)))
    (h : ∀ w' g, Below w.heap.size w w' → Blk w' g e (zs.map (Value.int k)).toArray → wpList P ops Q rest (a.put (some d) (.slice (some ⟨g, 0, none⟩) len len)) w') : wpList P ops Q (o :: rest) a w :=
  wpList_buildFlatAt hg t e len parts ho k zs w.heap.size rfl (some d) hd hu hsz hz hlen hpos hsmall hparts (h _ _ ((Below.refl w.heap.size w).alloc (Nat.le_refl _) _) (Blk.new w _ _))
/-- a slice of rows, written out: likewise -/
theorem wpList_rowsN (hg : o.guard = none) (t e : TypeId) (parts : Array (Nat × Operand)) (s : Nat) (vs : List Value) (ho : o.op = .buildSlice t vs.length parts) (ix : Nat → Nat) (d : Nat) (hd : o.dst = some d)
    (hu : P.underlying t = some (.slice e)) (hsz : (P.info? e).map (·.size) = some s) (hz : ((P.info? e).bind (·.zero)).isSome = true)
    (hs : 0 < s) (hpos : 0 < vs.length) (hsmall : vs.length * s ≤ 2 ^ 24) (hparts : parts.toList = (List.range vs.length).map fun i => (i, Operand.tmp (ix i)))
    (h1 : ∀ v ∈ vs, v.cells.size = s) (hev : ∀ i (h : i < vs.length), a.eval (.tmp (ix i)) = vs[i])
    (h : ∀ w' g, Below w.heap.size w w' → Blk w' g e (vs.flatMap fun v => v.cells.toList).toArray → wpList P ops Q rest (a.put (some d) (.slice (some ⟨g, 0, none⟩) vs.length vs.length)) w') : wpList P ops Q (o :: rest) a w :=
  Great.wpList_buildRows hg t e parts s vs ho ix w.heap.size rfl (some d) hd hu hsz hz hs hpos hsmall hparts h1 hev (h _ _ ((Below.refl w.heap.size w).alloc (Nat.le_refl _) _) (Blk.new w _ _))
end
/-- a slice whose parts are any operands -/
theorem wpList_rowsX {P : Program} {ops : Array Oper} {rest : List Oper} {o : Oper} {a : Act} {w : World} {Q : Exit → Act → World → Prop} (hg : o.guard = none) (t e : TypeId) (parts : Array (Nat × Operand)) (s : Nat) (vs : List Value) (ho : o.op = .buildSlice t vs.length parts) (ix : Nat → Operand) (d : Nat) (hd : o.dst = some d)
    (hu : P.underlying t = some (.slice e)) (hsz : (P.info? e).map (·.size) = some s) (hz : ((P.info? e).bind (·.zero)).isSome = true)
    (hs : 0 < s) (hpos : 0 < vs.length) (hsmall : vs.length * s ≤ 2 ^ 24) (hparts : parts.toList = (List.range vs.length).map fun i => (i, ix i))
    (h1 : ∀ v ∈ vs, v.cells.size = s) (hev : ∀ i (h : i < vs.length), a.eval (ix i) = vs[i])
    (h : ∀ w' g, Below w.heap.size w w' → Blk w' g e (vs.flatMap fun v => v.cells.toList).toArray → wpList P ops Q rest (a.put (some d) (.slice (some ⟨g, 0, none⟩) vs.length vs.length)) w') : wpList P ops Q (o :: rest) a w := by
  cases hie : P.info? e with
  | none => simp [hie] at hsz
  | some ie =>
    simp only [hie, Option.map_some, Option.some.injEq, Option.bind_some] at hsz hz
    obtain ⟨z, hzz⟩ := Option.isSome_iff_exists.1 hz
    have hp := Nat.mul_pos hpos hs
    refine wpList_buildSlice hg t e vs.length parts ho _ ie z hu hie hzz (by rw [hsz]; omega) (by rw [hsz]; omega) ?_ (by rw [hd]; exact h _ _ ((Below.refl w.heap.size w).alloc (Nat.le_refl _) _) (Blk.new w _ _))
    have e1 : (parts.map fun (i, x) => (i, a.eval x)).toList = (vs.zipIdx 0).map fun x => (x.2, x.1) := by
      rw [Array.toList_map, hparts, List.map_map]
      apply List.ext_getElem
      · simp
      · intro i h1 h2
        have hi : i < vs.length := by simpa using h1
        simp only [List.getElem_map, List.getElem_range, Function.comp, List.getElem_zipIdx, Nat.zero_add]
        rw [hev i hi]
    rw [e1, hsz]
    exact Great.fill_whole hs vs ((Array.range (vs.length * s)).map (z.cells[· % z.cells.size]!)) h1 (by simp)
/-- the same, of an operation under a guard that says yes -/
theorem wpList_rowsW {P : Program} {ops : Array Oper} {rest : List Oper} {o : Oper} {a : Act} {w : World} {Q : Exit → Act → World → Prop} (hw : Region.wanted o (yielded ops a.tmps) = true) (t e : TypeId) (parts : Array (Nat × Operand)) (s : Nat) (vs : List Value) (ho : o.op = .buildSlice t vs.length parts) (ix : Nat → Operand) (d : Nat) (hd : o.dst = some d)
    (hu : P.underlying t = some (.slice e)) (hsz : (P.info? e).map (·.size) = some s) (hz : ((P.info? e).bind (·.zero)).isSome = true)
    (hs : 0 < s) (hpos : 0 < vs.length) (hsmall : vs.length * s ≤ 2 ^ 24) (hparts : parts.toList = (List.range vs.length).map fun i => (i, ix i))
    (h1 : ∀ v ∈ vs, v.cells.size = s) (hev : ∀ i (h : i < vs.length), a.eval (ix i) = vs[i])
    (h : ∀ w' g, Below w.heap.size w w' → Blk w' g e (vs.flatMap fun v => v.cells.toList).toArray → wpList P ops Q rest (a.put (some d) (.slice (some ⟨g, 0, none⟩) vs.length vs.length)) w') : wpList P ops Q (o :: rest) a w := by
  refine wpList_step fun K hK => ?_
  rw [if_pos hw]
  cases hie : P.info? e with
  | none => simp [hie] at hsz
  | some ie =>
    simp only [hie, Option.map_some, Option.some.injEq, Option.bind_some] at hsz hz
    obtain ⟨z, hzz⟩ := Option.isSome_iff_exists.1 hz
    have hp := Nat.mul_pos hpos hs
    refine wp_buildSlice t e vs.length parts ho _ ie z hu hie hzz (by rw [hsz]; omega) (by rw [hsz]; omega) ?_ (hK _ _ (by rw [hd]; exact h _ _ ((Below.refl w.heap.size w).alloc (Nat.le_refl _) _) (Blk.new w _ _)))
    have e1 : (parts.map fun (i, x) => (i, a.eval x)).toList = (vs.zipIdx 0).map fun x => (x.2, x.1) := by
      rw [Array.toList_map, hparts, List.map_map]
      apply List.ext_getElem
      · simp
      · intro i h1 h2
        have hi : i < vs.length := by simpa using h1
        simp only [List.getElem_map, List.getElem_range, Function.comp, List.getElem_zipIdx, Nat.zero_add]
        rw [hev i hi]
    rw [e1, hsz]
    exact Great.fill_whole hs vs ((Array.range (vs.length * s)).map (z.cells[· % z.cells.size]!)) h1 (by simp)
theorem wpList_flatW {P : Program} {ops : Array Oper} {rest : List Oper} {o : Oper} {a : Act} {w : World} {Q : Exit → Act → World → Prop} (hw : Region.wanted o (yielded ops a.tmps) = true) (t e : TypeId) (len : Nat) (parts : Array (Nat × Operand)) (ho : o.op = .buildSlice t len parts) (k : IntKind) (zs : List Int) (d : Nat) (hd : o.dst = some d)
    (hu : P.underlying t = some (.slice e)) (hsz : (P.info? e).map (·.size) = some 1) (hz : ((P.info? e).bind (·.zero)).isSome = true)
    (hlen : len = zs.length) (hpos : 0 < len) (hsmall : len ≤ 2 ^ 24) (hparts : parts.toList = (zs.zipIdx 0).map fun x => (x.2, Operand.const (Value.int k x.1)))
    (h : ∀ w' g, Below w.heap.size w w' → Blk w' g e (zs.map (Value.int k)).toArray → wpList P ops Q rest (a.put (some d) (.slice (some ⟨g, 0, none⟩) len len)) w') : wpList P ops Q (o :: rest) a w := by
  refine wpList_step fun K hK => ?_
  rw [if_pos hw]
  cases hie : P.info? e with
  | none => simp [hie] at hsz
  | some ie =>
    simp only [hie, Option.map_some, Option.some.injEq, Option.bind_some] at hsz hz
    obtain ⟨z, hzz⟩ := Option.isSome_iff_exists.1 hz
    refine wp_buildSlice t e len parts ho _ ie z hu hie hzz (by rw [hsz]; omega) (by rw [hsz]; omega) ?_ (hK _ _ (by rw [hd]; exact h _ _ ((Below.refl w.heap.size w).alloc (Nat.le_refl _) _) (Blk.new w _ _)))
    rw [parts_eval a parts k zs hparts, hsz]
    exact Great.fill_flat _ _ (fun v hv => by obtain ⟨n, _, rfl⟩ := List.mem_map.1 hv; rfl) (by simp [hlen])
theorem wpList_valW {P : Program} {ops : Array Oper} {rest : List Oper} {o : Oper} {a : Act} {w : World} {Q : Exit → Act → World → Prop} (hw : Region.wanted o (yielded ops a.tmps) = true) (d : Nat) (hd : o.dst = some d) (v : Value) (hrun : (execOp a.eval o).run P w = .ok (.value v) w)
    (h : wpList P ops Q rest (a.put (some d) v) w) : wpList P ops Q (o :: rest) a w := by
  refine wpList_step fun K hK => ?_
  rw [if_pos hw]
  unfold Oper.wp
  rw [hrun]
  exact hK _ _ (by rw [hd]; exact h)
theorem addr_addN (b o j : Nat) : (⟨b, o, none⟩ : Addr).add j = ⟨b, o + j, none⟩ := by
  cases j <;> simp [Addr.add]
theorem rd_blk {w : World} {g : Nat} {t : TypeId} {l : List Value} (h : Blk w g t l.toArray) : Rd w 1 (some ⟨g, 0, none⟩) l.length l :=
  ⟨by simp, fun _ => ⟨_, rfl, h.lt, fun j u hu => by
    rw [addr_addN, h.cell, List.getElem?_toArray, Nat.zero_add]; exact hu⟩⟩
theorem reads_blk {w : World} {g n s : Nat} {t : TypeId} {l : List Value} (h : Blk w g t l.toArray) (hl : l.length = n * s) : Reads w w.heap.size s (some ⟨g, 0, none⟩) n l :=
  ⟨hl, fun _ => ⟨_, rfl, h.lt, fun j u hu => by
    rw [addr_addN, h.cell, List.getElem?_toArray, Nat.zero_add]; exact hu⟩⟩
end Go.Proofs.YthmcimpdehgaoaaGreatDoor
