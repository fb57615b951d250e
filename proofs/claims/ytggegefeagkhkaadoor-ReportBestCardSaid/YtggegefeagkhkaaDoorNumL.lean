/- Plain: numbers as words, there and back. No program stands in this text. -/
import Derived.Test.YtggegefeagkhkaaDoorPk8
import Derived.Lib.RuneBytes
namespace Go.Proofs.YtggegefeagkhkaaDoor
open Go.Lib

/-- a digit of a kind, as bytes -/
def ek (k : Int) (d : Nat) : List UInt8 := encodeRune (firstOf k + (d : Int))
/-- the kinds -/
def KIn (k : Int) : Prop := k = 0 ∨ k = 1 ∨ k = 2
theorem ek_bytes (k : Int) (hk : KIn k) (d : Nat) (hd : d < 10) : ek k d = if k = 0 then [UInt8.ofNat (48 + d)] else if k = 1 then [217, UInt8.ofNat (160 + d)] else [239, 188, UInt8.ofNat (144 + d)] := by
  have h : ∀ d : Nat, d < 10 → ek 0 d = [UInt8.ofNat (48 + d)] ∧ ek 1 d = [217, UInt8.ofNat (160 + d)] ∧ ek 2 d = [239, 188, UInt8.ofNat (144 + d)] := by decide +kernel
  obtain ⟨h0, h1, h2⟩ := h d hd
  rcases hk with rfl | rfl | rfl
  · exact h0
  · exact h1
  · exact h2
theorem encode_ek (k : Int) (hk : KIn k) (d : Nat) (hd : d < 10) : Utf8.encode (firstOf k + (d : Int)) = ba (ek k d) := by
  have h : ∀ d : Nat, d < 10 → (Utf8.encode (firstOf 0 + (d : Int))).data.toList = ek 0 d ∧ (Utf8.encode (firstOf 1 + (d : Int))).data.toList = ek 1 d ∧ (Utf8.encode (firstOf 2 + (d : Int))).data.toList = ek 2 d := by decide +kernel
  obtain ⟨h0, h1, h2⟩ := h d hd
  rw [← ba_of (Utf8.encode (firstOf k + (d : Int)))]
  apply congrArg ba
  rcases hk with rfl | rfl | rfl
  · exact h0
  · exact h1
  · exact h2
theorem encD_ba (k : Int) (hk : KIn k) : ∀ ds : List Nat, (∀ d ∈ ds, d < 10) → encD k ds = ba (ds.flatMap (ek k)) := by
  intro ds
  induction ds with
  | nil => intro _; rfl
  | cons d ds ih =>
    intro h
    have := encD_append k [d] ds
    rw [List.singleton_append] at this
    rw [this, encD_one, encode_ek k hk d (h d (by simp)), ih fun x hx => h x (by simp [hx]), ba_append, List.flatMap_cons]
/-- such a digit, read again -/
theorem toNat_small (n : Nat) (h : n < 256) : (UInt8.ofNat n).toNat = n := by
  rw [UInt8.toNat_ofNat']
  exact Nat.mod_eq_of_lt h
theorem decodeL_ek (k : Int) (hk : KIn k) (d : Nat) (hd : d < 10) (m : List UInt8) : decodeL (ek k d ++ m) = ((firstOf k + (d : Int)).toNat, (ek k d).length) := by
  rw [ek_bytes k hk d hd, decodeL_N]
  rcases hk with rfl | rfl | rfl
  · have h0 : ([UInt8.ofNat (48 + d)] ++ m).getD 0 0 = UInt8.ofNat (48 + d) := rfl
    simp only [if_true]
    rw [h0, toNat_small _ (by omega), decodeN_ascii _ _ _ _ _ (by omega)]
    show _ = ((48 + (d : Int)).toNat, 1)
    congr 1
  · simp only [Int.reduceEq, if_false, if_true]
    have h0 : ([217, UInt8.ofNat (160 + d)] ++ m).getD 0 0 = 217 := rfl
    have h1 : ([217, UInt8.ofNat (160 + d)] ++ m).getD 1 0 = UInt8.ofNat (160 + d) := rfl
    rw [h0, h1, toNat_small _ (by omega : 160 + d < 256)]
    unfold decodeN
    rw [if_neg (by simp), if_pos ⟨by rfl, by simp, by omega⟩, if_pos (by simp; omega)]
    show _ = ((1632 + (d : Int)).toNat, 2)
    congr 1
    simp; omega
  · simp only [Int.reduceEq, if_false]
    have h0 : ([239, 188, UInt8.ofNat (144 + d)] ++ m).getD 0 0 = 239 := rfl
    have h1 : ([239, 188, UInt8.ofNat (144 + d)] ++ m).getD 1 0 = 188 := rfl
    have h2 : ([239, 188, UInt8.ofNat (144 + d)] ++ m).getD 2 0 = UInt8.ofNat (144 + d) := rfl
    rw [h0, h1, h2, toNat_small _ (by omega : 144 + d < 256)]
    unfold decodeN
    rw [if_neg (by simp), if_neg (by simp), if_pos ⟨by rfl, ⟨by simp, by rfl⟩, by simp, by omega⟩, if_pos (by simp; omega)]
    show _ = ((65296 + (d : Int)).toNat, 3)
    congr 1
    simp; omega
theorem ek_ne (k : Int) (hk : KIn k) (d : Nat) (hd : d < 10) : ek k d ≠ [] := by
  rw [ek_bytes k hk d hd]
  split
  · simp
  · split <;> simp
theorem ek_whole (k : Int) (hk : KIn k) (d : Nat) (hd : d < 10) : Whole ((firstOf k + (d : Int)).toNat, ek k d) := by
  refine ⟨ek_ne k hk d hd, ?_, decodeL_ek k hk d hd⟩
  have := firstOf_bd k
  have h : ((firstOf k + (d : Int)).toNat == 65533) = false := by
    simp; omega
  unfold brk
  simp [h]
theorem runes_ek (k : Int) (hk : KIn k) (ds : List Nat) (h : ∀ d ∈ ds, d < 10) : runes (encD k ds) = ds.map fun (d : Nat) => firstOf k + (d : Int) := by
  have hc := chunks_of_whole (ds.map fun (d : Nat) => ((firstOf k + (d : Int)).toNat, ek k d)) fun c hc => by
    obtain ⟨d, hd, rfl⟩ := List.mem_map.1 hc
    exact ek_whole k hk d (h d hd)
  rw [List.flatMap_map] at hc
  rw [encD_ba k hk ds h, runes_chs, chs_chunks, ba_toList]
  rw [show ds.flatMap (ek k) = ds.flatMap fun (a : Nat) => (((firstOf k + (a : Int)).toNat, ek k a) : Chunk).2 from rfl, hc, List.map_map, List.map_map]
  apply List.map_congr_left
  intro d _
  have := firstOf_bd k
  simp; omega

/-! ### the road over digits -/
def stepN (x : Nat × Bool) (d : Nat) : Nat × Bool := if (x.2 || decide (4611686018427387904 < x.1 * 10 + d)) = true then (x.1, true) else (x.1 * 10 + d, false)
theorem stepN_t {x : Nat × Bool} (d : Nat) (h : x.2 = true) : stepN x d = (x.1, true) := by unfold stepN; rw [if_pos (by simp [h])]
theorem stepN_big {x : Nat × Bool} (d : Nat) (h : 4611686018427387904 < x.1 * 10 + d) : stepN x d = (x.1, true) := by unfold stepN; rw [if_pos (by simp [h])]
theorem stepN_ok {x : Nat × Bool} (d : Nat) (h : x.2 = false) (h' : ¬ 4611686018427387904 < x.1 * 10 + d) : stepN x d = (x.1 * 10 + d, false) := by unfold stepN; rw [if_neg (by rw [h]; simpa using h')]
theorem kd_of (k : Int) (hk : KIn k) (d : Nat) (hd : d < 10) : kindOf (firstOf k + (d : Int)) = k ∧ digitOf (firstOf k + (d : Int)) = (d : Int) := by
  rcases hk with rfl | rfl | rfl
  · rw [show firstOf 0 = 48 from rfl]; unfold kindOf digitOf; rw [if_pos (by omega), if_pos (by omega)]; omega
  · rw [show firstOf 1 = 1632 from rfl]; unfold kindOf digitOf; rw [if_neg (by omega), if_pos (by omega), if_neg (by omega), if_pos (by omega)]; omega
  · rw [show firstOf 2 = 65296 from rfl]; unfold kindOf digitOf
    rw [if_neg (by omega), if_neg (by omega), if_pos (by omega), if_neg (by omega), if_neg (by omega), if_pos (by omega)]; omega
theorem numGo_step (k : Int) (hk : KIn k) (d : Nat) (hd : d < 10) (rs : List Int) (n c : Nat) (k' : Int) (hc : c = 0 ∨ k' = k) (no ov : Bool) :
    numGo ((firstOf k + (d : Int)) :: rs) n c k' no ov = numGo rs (stepN (n, ov) d).1 (c + 1) k (if c = 0 then d == 0 else no) (stepN (n, ov) d).2 := by
  obtain ⟨h1, h2⟩ := kd_of k hk d hd
  have hk0 : 0 ≤ k := by rcases hk with rfl | rfl | rfl <;> omega
  have hov : (ov || decide ((4611686018427387904 - digitOf (firstOf k + (d : Int))) / 10 < (n : Int))) = (ov || decide (4611686018427387904 < n * 10 + d)) := by
    rw [h2]
    congr 1
    exact decide_eq_decide.2 (by omega)
  rw [numGo_ok (by rw [h1]; exact hk0) (by rw [h1]; exact hc.imp_right fun h => h.symm) _ hov, h1, h2]
  have hz : ((d : Int) == 0) = (d == 0) := by
    cases d <;> rfl
  rw [hz]
  unfold stepN
  cases h : (ov || decide (4611686018427387904 < n * 10 + d))
  · simp
  · simp
theorem numGo_fold (k : Int) (hk : KIn k) : ∀ (ds : List Nat) (n c : Nat) (no ov : Bool), (∀ d ∈ ds, d < 10) → 1 ≤ c →
    numGo (ds.map fun (d : Nat) => firstOf k + (d : Int)) n c k no ov = if (no && decide (1 < c + ds.length)) = true then ((0 : Int), (30 : Int)) else if (ds.foldl stepN (n, ov)).2 = true then (0, 50) else (((ds.foldl stepN (n, ov)).1 : Int), 0) := by
  intro ds
  induction ds with
  | nil =>
    intro n c no ov _ hc
    rw [List.map_nil, numGo_nil]
    have : (c == 0) = false := by simp; omega
    rw [this, Bool.false_or]
    rfl
  | cons d ds ih =>
    intro n c no ov h hc
    rw [List.map_cons, numGo_step k hk d (h d (by simp)) _ n c k (.inr rfl), if_neg (by omega), ih _ _ _ _ (fun x hx => h x (by simp [hx])) (by omega), List.foldl_cons, List.length_cons]
    rw [show c + 1 + ds.length = c + (ds.length + 1) by omega]
theorem numP_fold (k : Int) (hk : KIn k) (d : Nat) (ds : List Nat) (h : ∀ x ∈ d :: ds, x < 10) :
    numP ((d :: ds).map fun (d : Nat) => firstOf k + (d : Int)) = if d = 0 ∧ 0 < ds.length then ((0 : Int), (30 : Int)) else if ((d :: ds).foldl stepN (0, false)).2 = true then (0, 50) else ((((d :: ds).foldl stepN (0, false)).1 : Int), 0) := by
  unfold numP
  rw [List.map_cons]
  have h1 := numGo_step k hk d (h d (by simp)) (ds.map fun (d : Nat) => firstOf k + (d : Int)) 0 0 0 (.inl rfl) false false
  refine Eq.trans h1 ?_
  rw [if_pos rfl, numGo_fold k hk _ _ _ _ _ (fun x hx => h x (by simp [hx])) (by omega), List.foldl_cons]
  congr 1
  simp

/-! ### the digits of a number -/
theorem digs_lt : ∀ f n, ∀ d ∈ digs f n, d < 10 := by
  intro f
  induction f with
  | zero => intro n d hd; simp [digs] at hd
  | succ f ih =>
    intro n d hd
    rw [digs] at hd
    split at hd
    · simp at hd; omega
    · rcases List.mem_append.1 hd with hd | hd
      · exact ih _ d hd
      · simp at hd; omega
theorem digs_fold : ∀ f n, n < 10 ^ f → 1 ≤ f → (digs f n).foldl stepN (0, false) = (digs f n).foldl stepN (0, false) ∧ ((digs f n).foldl stepN (0, false)).2 = decide (4611686018427387904 < n) ∧ (n ≤ 4611686018427387904 → ((digs f n).foldl stepN (0, false)).1 = n) := by
  intro f
  induction f with
  | zero => intro n _ h; omega
  | succ f ih =>
    intro n hn _
    refine ⟨rfl, ?_⟩
    rw [digs]
    split
    · rename_i h
      have : decide (4611686018427387904 < n) = false := by simp; omega
      simp [stepN, this]
    · rename_i h
      have hf : 1 ≤ f := by
        cases f with
        | zero => simp at hn; omega
        | succ f => omega
      obtain ⟨_, h1, h2⟩ := ih (n / 10) (by rw [Nat.pow_succ] at hn; omega) hf
      rw [List.foldl_append, List.foldl_cons, List.foldl_nil]
      by_cases hq : 4611686018427387904 < n / 10
      · have h3 : ((digs f (n / 10)).foldl stepN (0, false)).2 = true := by rw [h1]; simp [hq]
        rw [stepN_t _ h3]
        refine ⟨?_, fun h => by omega⟩
        simp; omega
      · have h3 : ((digs f (n / 10)).foldl stepN (0, false)).2 = false := by rw [h1]; simp; omega
        have h4 := h2 (by omega)
        by_cases hb : 4611686018427387904 < n / 10 * 10 + n % 10
        · rw [stepN_big _ (by rw [h4]; exact hb)]
          exact ⟨by simp; omega, fun h => by omega⟩
        · rw [stepN_ok _ h3 (by rw [h4]; exact hb), h4]
          exact ⟨by simp; omega, fun h => by dsimp only; omega⟩
theorem digs_head : ∀ f n, 1 ≤ f → n < 10 ^ f → ∃ d ds, digs f n = d :: ds ∧ (d = 0 → ds = []) := by
  intro f
  induction f with
  | zero => intro n h _; omega
  | succ f ih =>
    intro n _ hn
    rw [digs]
    split
    · exact ⟨n, [], rfl, fun _ => rfl⟩
    · rename_i h
      have hf : 1 ≤ f := by
        cases f with
        | zero => simp at hn; omega
        | succ f => omega
      obtain ⟨d, ds, h1, h2⟩ := ih (n / 10) hf (by rw [Nat.pow_succ] at hn; omega)
      refine ⟨d, ds ++ [n % 10], by rw [h1]; rfl, fun hd => ?_⟩
      exfalso
      have h3 := h2 hd
      subst hd h3
      obtain ⟨_, h4, h5⟩ := digs_fold f (n / 10) (by rw [Nat.pow_succ] at hn; omega) hf
      rw [h1] at h4 h5
      by_cases hb : 4611686018427387904 < n / 10
      · simp [stepN] at h4; omega
      · have h6 := h5 (by omega)
        simp [stepN] at h6; omega
/-- A PRINTED NUMBER IS READ AS IT WAS. -/
theorem print_read (n k : Int) (hn : 0 ≤ n) (hk : KIn k) (hb : n < 10000000000000000000) : printOf n k ≠ ByteArray.empty ∧ numP (runes (printOf n k)) = if 4611686018427387904 < n then (0, 50) else (n, 0) := by
  have hp : printOf n k = encD k (digs 19 n.toNat) := by
    unfold printOf; rw [if_pos]; rcases hk with rfl | rfl | rfl <;> omega
  have hlt : n.toNat < 10 ^ 19 := by
    have : (10 : Nat) ^ 19 = 10000000000000000000 := by rfl
    omega
  obtain ⟨d, ds, h1, h2⟩ := digs_head 19 n.toNat (by omega) hlt
  have h3 := digs_lt 19 n.toNat
  obtain ⟨_, h4, h5⟩ := digs_fold 19 n.toNat hlt (by omega)
  rw [hp]
  constructor
  · rw [encD_ba k hk _ h3, h1]
    intro e
    have := ba_inj (b := []) e
    rw [h1] at h3
    have h0 := ek_ne k hk d (h3 d (by simp))
    simp at this
    exact h0 this.1
  · rw [runes_ek k hk _ h3]
    rw [h1] at h3 h4 h5 ⊢
    rw [numP_fold k hk d ds h3, if_neg (fun h => by have := h2 h.1; subst this; simp at h), h4]
    by_cases hc : 4611686018427387904 < n
    · rw [if_pos (by simp; omega), if_pos hc]
    · rw [if_neg (by simp; omega), if_neg hc, h5 (by omega)]
      congr 1; omega
theorem print_none (n k : Int) (h : ¬ (0 ≤ n ∧ KIn k)) : printOf n k = ByteArray.empty := by
  unfold printOf
  rw [if_neg]
  · rfl
  · intro h'; apply h; refine ⟨h'.1, ?_⟩; unfold KIn; omega
theorem numP_nil : numP [] = (0, 30) := by unfold numP; rw [numGo_nil]; rfl
theorem runes_nil : runes ByteArray.empty = [] := rfl

/-! ### back -/
theorem numGo_res : ∀ (rs : List Int) (n : Int) (c : Nat) (k : Int) (no ov : Bool), (numGo rs n c k no ov).2 = 0 ∨ ((numGo rs n c k no ov).1 = 0 ∧ ((numGo rs n c k no ov).2 = 30 ∨ (numGo rs n c k no ov).2 = 50)) := by
  intro rs
  induction rs with
  | nil =>
    intro n c k no ov
    rw [numGo_nil]
    split
    · simp
    · split
      · simp
      · simp
  | cons r rs ih =>
    intro n c k no ov
    by_cases hb : kindOf r < 0 ∨ (c ≠ 0 ∧ kindOf r ≠ k)
    · rw [numGo_bad hb]; simp
    · rw [numGo_ok (by omega) (by omega) _ rfl]
      exact ih _ _ _ _ _
theorem numGo_kinds : ∀ (rs : List Int) (n : Int) (c : Nat) (k : Int) (no ov : Bool), 1 ≤ c → (numGo rs n c k no ov).2 = 0 → ∀ r ∈ rs, kindOf r = k ∧ 0 ≤ kindOf r := by
  intro rs
  induction rs with
  | nil => intro n c k no ov _ _ r hr; simp at hr
  | cons r rs ih =>
    intro n c k no ov hc h x hx
    by_cases hb : kindOf r < 0 ∨ (c ≠ 0 ∧ kindOf r ≠ k)
    · rw [numGo_bad hb] at h; simp at h
    · have h1 : 0 ≤ kindOf r := by omega
      have h2 : kindOf r = k := by omega
      rw [numGo_ok h1 (.inr h2) _ rfl] at h
      rcases List.mem_cons.1 hx with rfl | hx
      · exact ⟨h2, h1⟩
      · have := ih _ _ _ _ _ (by omega) h x hx
        exact ⟨by omega, this.2⟩
theorem fold_digs : ∀ (m : Nat) (ds : List Nat) (n : Nat), ds.length = m → ds ≠ [] → (∀ d ∈ ds, d < 10) → (ds.headD 0 = 0 → ds.length = 1) → ds.foldl stepN (0, false) = (n, false) →
    (∀ f, 1 ≤ f → n < 10 ^ f → digs f n = ds) ∧ (ds.headD 0 ≠ 0 → 0 < n) ∧ n ≤ 4611686018427387904 := by
  intro m
  induction m with
  | zero => intro ds n h1 h2; exact absurd (List.eq_nil_of_length_eq_zero h1) h2
  | succ m ih =>
    intro ds n hm hne hlt hh hf
    rcases List.eq_nil_or_concat ds with rfl | ⟨es, d, rfl⟩
    · exact absurd rfl hne
    · rw [List.concat_eq_append] at *
      have hd : d < 10 := hlt d (by simp)
      rw [List.foldl_append, List.foldl_cons, List.foldl_nil] at hf
      by_cases he : es = []
      · subst he
        have hz : decide (4611686018427387904 < d) = false := by simp; omega
        simp [stepN, hz] at hf
        subst hf
        refine ⟨fun f h1 h2 => ?_, fun h => ?_, by omega⟩
        · obtain ⟨g, rfl⟩ : ∃ g, f = g + 1 := ⟨f - 1, by omega⟩
          rw [digs, if_pos hd]; rfl
        · simp at h; omega
      · have hhd : (es ++ [d]).headD 0 = es.headD 0 := by cases es with | nil => exact absurd rfl he | cons a t => rfl
        have hl : 1 < (es ++ [d]).length := by
          have := List.length_pos_iff.2 he
          simp; omega
        have hh' : es.headD 0 ≠ 0 := fun h => by rw [hhd] at hh; have := hh h; omega
        have hov : (es.foldl stepN (0, false)).2 = false := by
          cases hx : (es.foldl stepN (0, false)).2
          · rfl
          · rw [stepN_t _ hx] at hf; simp at hf
        have hst : es.foldl stepN (0, false) = ((es.foldl stepN (0, false)).1, false) := Prod.ext rfl hov
        have := ih es (es.foldl stepN (0, false)).1 (by simp at hm; exact hm) he (fun x hx => hlt x (by simp [hx])) (fun h => absurd h hh') hst
        obtain ⟨i1, i2, i3⟩ := this
        have hq := i2 hh'
        rw [hst] at hf
        generalize (es.foldl stepN (0, false)).1 = q at *
        have hb : ¬ 4611686018427387904 < q * 10 + d := by
          intro h
          rw [stepN_big _ h] at hf
          simp at hf
        have hn : n = q * 10 + d := by
          rw [stepN_ok _ rfl hb] at hf
          simp at hf; omega
        refine ⟨fun f h1 h2 => ?_, fun _ => by omega, by omega⟩
        obtain ⟨g, rfl⟩ : ∃ g, f = g + 1 := ⟨f - 1, by omega⟩
        have hg : 1 ≤ g := by
          cases g with
          | zero => simp at h2; omega
          | succ g => omega
        rw [digs, if_neg (by omega)]
        have e1 : n / 10 = q := by omega
        have e2 : n % 10 = d := by omega
        rw [e1, e2, i1 g hg (by rw [Nat.pow_succ] at h2; omega)]
theorem chunks_encode (l : List UInt8) : ∀ c ∈ chunks l, brk c = false → c.2 = encodeRune (c.1 : Int) := by
  intro c hc hb
  obtain ⟨h1, h2, h3⟩ := chunks_whole l c hc hb
  have h4 := h3 []
  rw [List.append_nil] at h4
  have h5 := encode_decode c.2 h1 (by rw [h4]; unfold brk at h2; simpa using h2)
  rw [h4] at h5
  simpa using h5.symm
/-- A WORD THAT IS READ IS PRINTED OF ITS KIND AS THE SAME WORD. -/
theorem read_print (s : ByteArray) (n : Int) (h : numP (runes s) = (n, 0)) : (∃ k, KIn k ∧ printOf n k = s) ∧ 0 ≤ n ∧ n ≤ 4611686018427387904 := by
  have hr : runes s = (chunks s.data.toList).map fun c => (c.1 : Int) := by rw [runes_chs, chs_chunks, List.map_map]; rfl
  cases hrs : runes s with
  | nil => rw [hrs, numP_nil] at h; simp at h
  | cons r rs =>
    rw [hrs] at h
    have hk0 : 0 ≤ kindOf r := by
      rcases Int.lt_or_le (kindOf r) 0 with hb | hb
      · unfold numP at h; rw [numGo_bad (.inl hb)] at h; simp at h
      · exact hb
    have hK : KIn (kindOf r) := by have := kindOf_ge r; unfold KIn; omega
    have hall : ∀ x ∈ r :: rs, kindOf x = kindOf r := by
      intro x hx
      rcases List.mem_cons.1 hx with rfl | hx
      · rfl
      · have h' : (numP (r :: rs)).2 = 0 := by rw [h]
        unfold numP at h'
        rw [numGo_ok hk0 (.inl rfl) _ rfl] at h'
        exact (numGo_kinds rs _ _ _ _ _ (by omega) h' x hx).1
    have hdig : ∀ x ∈ r :: rs, x = firstOf (kindOf r) + ((digitOf x).toNat : Int) ∧ (digitOf x).toNat < 10 := by
      intro x hx
      have h1 := hall x hx
      have h2 := digitOf_k x (by omega)
      rw [h1] at h2
      omega
    have hlt : ∀ d ∈ (r :: rs).map (fun x => (digitOf x).toNat), d < 10 := by
      intro d hd
      obtain ⟨x, hx, rfl⟩ := List.mem_map.1 hd
      exact (hdig x hx).2
    have hmap : r :: rs = ((r :: rs).map fun x => (digitOf x).toNat).map fun (d : Nat) => firstOf (kindOf r) + (d : Int) := by
      rw [List.map_map]
      conv => lhs; rw [← List.map_id (r :: rs)]
      apply List.map_congr_left
      intro x hx
      exact (hdig x hx).1
    generalize hds : (r :: rs).map (fun x => (digitOf x).toNat) = ds at *
    cases ds with
    | nil => simp at hds
    | cons d ds =>
      rw [hmap, numP_fold _ hK d ds hlt] at h
      split at h
      · simp at h
      · rename_i hz
        split at h
        · simp at h
        · rename_i hov
          have hn : (((d :: ds).foldl stepN (0, false)).1 : Int) = n := by simpa using h
          have hst : (d :: ds).foldl stepN (0, false) = (((d :: ds).foldl stepN (0, false)).1, false) := Prod.ext rfl (Bool.eq_false_iff.2 hov)
          obtain ⟨i1, i2, i3⟩ := fold_digs _ (d :: ds) _ rfl (by simp) hlt (fun h0 => by
            simp at h0
            cases ds with
            | nil => rfl
            | cons a t => exact absurd ⟨h0, by simp⟩ hz) hst
          generalize ((d :: ds).foldl stepN (0, false)).1 = q at *
          subst hn
          refine ⟨⟨kindOf r, hK, ?_⟩, by omega, by omega⟩
          have hp : printOf (q : Int) (kindOf r) = encD (kindOf r) (digs 19 q) := by
            unfold printOf; rw [if_pos (by unfold KIn at hK; omega)]; rfl
          have h19 : q < 10 ^ 19 := by
            have : (10 : Nat) ^ 19 = 10000000000000000000 := by rfl
            omega
          rw [hp, i1 19 (by omega) h19, encD_ba _ hK _ hlt]
          have hfl : flat (chunks s.data.toList) = (d :: ds).flatMap (ek (kindOf r)) := by
            have e1 : ∀ c ∈ chunks s.data.toList, c.2 = encodeRune (c.1 : Int) := by
              intro c hc
              refine chunks_encode _ c hc ?_
              have hm : (c.1 : Int) ∈ r :: rs := by
                rw [← hrs, hr]; exact List.mem_map_of_mem hc
              have hd := hdig _ hm
              have hf := firstOf_bd (kindOf r)
              unfold brk
              have : (c.1 == 65533) = false := by simp; omega
              simp [this]
            have e2 : flat (chunks s.data.toList) = (runes s).flatMap encodeRune := by
              rw [hr, List.flatMap_map]
              unfold flat
              rw [List.flatMap_def, List.flatMap_def]
              congr 1
              exact List.map_congr_left e1
            rw [e2, hrs, hmap, List.flatMap_map]; rfl
          rw [← hfl]
          have h1 : flat (chunks s.data.toList) = s.data.toList := chunks_flat _
          rw [h1, ba_of]
end Go.Proofs.YtggegefeagkhkaaDoor
