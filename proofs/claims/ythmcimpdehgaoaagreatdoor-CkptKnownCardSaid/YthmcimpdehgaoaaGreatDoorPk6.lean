/- What a disk's calls cost: steps, files, bytes. The check of bytes, plain: the program's way (four bits at a time) is the document's (a division of polynomials, power by power). -/
import Derived.Test.YthmcimpdehgaoaaGreatDoorDk5
namespace Go.Proofs.YthmcimpdehgaoaaGreatDoor
open Go.RowKit

/-- the steps and files that a disk may still have -/
structure FitN (D : DiskD) (n : Nat) : Prop where
  steps0 : 0 ≤ D.steps
  steps : D.steps + n ≤ 4611686018427387904
  files : D.files.length + n ≤ 10000000
  used : D.used + 100 * n ≤ 1000000000
  left : -1 ≤ D.left
  left1 : D.left ≤ 9223372036854775807
theorem FitN.less {D : DiskD} {n k : Nat} (h : FitN D n) (hk : k ≤ n) : FitN D k := ⟨h.steps0, by have := h.steps; omega, by have := h.files; omega, by have := h.used; omega, h.left, h.left1⟩
theorem FitN.fit {D : DiskD} {n : Nat} (h : FitN D n) : Fit D :=
  ⟨by have := h.files; omega, fun f hf => by have := size_le_used hf; have := h.used; unfold DiskD.used at this; omega, by have := h.steps; omega, h.steps0, h.left, h.left1⟩
theorem putL_len (L : List FileD) (k : Nat) (th : Bool) (f : FileD) : (putL L k th f).length ≤ L.length + 1 := by
  unfold putL
  split
  · rw [List.length_set]; omega
  · rw [List.length_append, List.length_cons, List.length_take, List.length_drop]; omega
theorem putL_used (L : List FileD) (k : Nat) (th : Bool) (f : FileD) : usedL (putL L k th f) ≤ usedL L + f.b.size := by
  unfold putL
  split
  · rcases Nat.lt_or_ge k L.length with hk | hk
    · have := usedL_set f (List.getElem?_eq_getElem hk); omega
    · rw [List.set_eq_of_length_le hk]; omega
  · rw [usedL_new]; omega
theorem does_fit (kind : Int) (L : List FileD) (i n : Nat) (dst : ByteArray) (f : FileD) (hi : L[i]? = some f) : (doesL kind L i n dst f).length ≤ L.length ∧ usedL (doesL kind L i n dst f) ≤ usedL L := by
  have hlt := (List.getElem?_eq_some_iff.1 hi).1
  have hs := usedL_split hi
  unfold doesL
  split
  · refine ⟨?_, by omega⟩
    rw [List.length_append, List.length_take, List.length_drop]; omega
  · split
    · have h1 := putL_len (L.take i ++ L.drop (i + 1)) (findN ((L.take i ++ L.drop (i + 1)).map (·.name)) dst).1 (findN ((L.take i ++ L.drop (i + 1)).map (·.name)) dst).2 ⟨dst, f.b, n⟩
      have h2 := putL_used (L.take i ++ L.drop (i + 1)) (findN ((L.take i ++ L.drop (i + 1)).map (·.name)) dst).1 (findN ((L.take i ++ L.drop (i + 1)).map (·.name)) dst).2 ⟨dst, f.b, n⟩
      rw [List.length_append, List.length_take, List.length_drop] at h1
      have h3 : (⟨dst, f.b, n⟩ : FileD).b.size = f.b.size := rfl
      exact ⟨by omega, by omega⟩
    · refine ⟨by rw [List.length_set]; omega, ?_⟩
      have h1 := usedL_set ⟨f.name, f.b.extract 0 n, n⟩ hi
      have h3 : (⟨f.name, f.b.extract 0 n, n⟩ : FileD).b.size ≤ f.b.size := by show (f.b.extract 0 n).size ≤ _; rw [ByteArray.size_extract]; omega
      omega
theorem power_fit (D : DiskD) (h : -1 ≤ D.left) : D.power.2.steps = D.steps + 1 ∧ D.power.2.files = D.files ∧ D.power.2.quota = D.quota ∧ -1 ≤ D.power.2.left ∧ D.power.2.left ≤ max D.left (-1) := by
  unfold DiskD.power
  split
  · exact ⟨rfl, rfl, rfl, by simp, by simp; omega⟩
  · split
    · exact ⟨rfl, rfl, rfl, by simp; omega, by simp; omega⟩
    · exact ⟨rfl, rfl, rfl, h, by simp; omega⟩
structure Cst (D D' : DiskD) (s f u : Nat) : Prop where
  s0 : D.steps ≤ D'.steps
  s1 : D'.steps ≤ D.steps + s
  f : D'.files.length ≤ D.files.length + f
  u : D'.used ≤ D.used + u
  l0 : -1 ≤ D'.left
  l1 : D'.left ≤ max D.left (-1)
theorem Cst.refl {D : DiskD} (h : -1 ≤ D.left) : Cst D D 0 0 0 := ⟨Int.le_refl _, by omega, Nat.le_refl _, Nat.le_refl _, h, by omega⟩
theorem Cst.trans {D D1 D2 : DiskD} {s f u s' f' u' : Nat} (a : Cst D D1 s f u) (b : Cst D1 D2 s' f' u') : Cst D D2 (s + s') (f + f') (u + u') :=
  ⟨by have := a.s0; have := b.s0; omega, by have := a.s1; have := b.s1; omega, by have := a.f; have := b.f; omega, by have := a.u; have := b.u; omega, b.l0, by have := a.l1; have := b.l1; omega⟩
theorem Cst.mono {D D1 : DiskD} {s f u s' f' u' : Nat} (a : Cst D D1 s f u) (h1 : s ≤ s') (h2 : f ≤ f') (h3 : u ≤ u') : Cst D D1 s' f' u' :=
  ⟨a.s0, by have := a.s1; omega, by have := a.f; omega, by have := a.u; omega, a.l0, a.l1⟩
theorem cst_step {D : DiskD} (h : -1 ≤ D.left) (kind : Int) (a b : ByteArray) (k : Int) (all : Bool) : Cst D (D.step kind a b k all).2 1 0 0 := by
  have hr := (Cst.refl h).mono (Nat.zero_le 1) (Nat.le_refl 0) (Nat.le_refl 0)
  unfold DiskD.step
  split
  · exact hr
  · split
    · exact hr
    · rename_i i f hat
      have hp := power_fit D h
      generalize (if all = true then (f.b.size : Int) else k) = K
      split
      · exact hr
      · have h1 := (DiskD.at_some hat).2
        have hd := does_fit kind D.files i K.toNat b f h1
        split
        · refine ⟨?_, ?_, ?_, ?_, hp.2.2.2.1, ?_⟩
          · show D.steps ≤ D.power.2.steps; omega
          · show D.power.2.steps ≤ _; omega
          · show (doesL kind D.files i _ b f).length ≤ _; omega
          · show usedL (doesL kind D.files i _ b f) ≤ usedL D.files + 0; omega
          · show D.power.2.left ≤ _; omega
        · refine ⟨?_, ?_, ?_, ?_, hp.2.2.2.1, ?_⟩
          · show D.steps ≤ D.power.2.steps; omega
          · show D.power.2.steps ≤ _; omega
          · rw [hp.2.1]; omega
          · unfold DiskD.used; rw [hp.2.1]; omega
          · show D.power.2.left ≤ _; omega
theorem put_cost (D : DiskD) (a b : ByteArray) : (D.put a b).files.length ≤ D.files.length + 1 ∧ usedL (D.put a b).files ≤ usedL D.files + b.size := by
  refine ⟨putL_len _ _ _ _, ?_⟩
  unfold DiskD.put
  show usedL (putL D.files (findN (D.files.map (·.name)) a).1 (findN (D.files.map (·.name)) a).2 ⟨(D.was a).name, (D.was a).b ++ b, (D.was a).safe⟩) ≤ _
  cases hat : D.at_ a with
  | none =>
    have hw : D.was a = ⟨a, ByteArray.empty, -1⟩ := by unfold DiskD.was; rw [hat]
    have := putL_used D.files (findN (D.files.map (·.name)) a).1 (findN (D.files.map (·.name)) a).2 ⟨(D.was a).name, (D.was a).b ++ b, (D.was a).safe⟩
    have e : (⟨(D.was a).name, (D.was a).b ++ b, (D.was a).safe⟩ : FileD).b.size = b.size := by
      show ((D.was a).b ++ b).size = _
      rw [hw, ByteArray.size_append]; simp
    omega
  | some x =>
    obtain ⟨i, f⟩ := x
    obtain ⟨h6, h7⟩ := DiskD.at_some hat
    have hw : D.was a = f := by unfold DiskD.was; rw [hat]
    rw [h6]
    unfold putL
    rw [if_pos rfl]
    have := usedL_set ⟨(D.was a).name, (D.was a).b ++ b, (D.was a).safe⟩ h7
    have e : (⟨(D.was a).name, (D.was a).b ++ b, (D.was a).safe⟩ : FileD).b.size = f.b.size + b.size := by
      show ((D.was a).b ++ b).size = _
      rw [hw, ByteArray.size_append]
    show usedL (D.files.set i ⟨(D.was a).name, (D.was a).b ++ b, (D.was a).safe⟩) ≤ _
    omega
theorem cst_append {D : DiskD} (h : -1 ≤ D.left) (a b : ByteArray) : Cst D (D.append a b).2 1 1 b.size := by
  have hr := (Cst.refl h).mono (Nat.zero_le 1) (Nat.zero_le 1) (Nat.zero_le b.size)
  unfold DiskD.append
  split
  · exact hr
  · split
    · exact hr
    · split
      · exact hr
      · have hp := power_fit (D.put a b) h
        obtain ⟨h1, h2⟩ := put_cost D a b
        have hst : (D.put a b).steps = D.steps := rfl
        have hlf : (D.put a b).left = D.left := rfl
        refine ⟨?_, ?_, ?_, ?_, hp.2.2.2.1, ?_⟩
        · rw [hp.1, hst]; omega
        · rw [hp.1, hst]; omega
        · rw [hp.2.1]; exact h1
        · unfold DiskD.used; rw [hp.2.1]; exact h2
        · omega
theorem onGo_used : ∀ (L : List FileD) (ks : List Int), usedL (onGo L ks) ≤ usedL L := by
  intro L
  induction L with
  | nil => intro ks; exact Nat.le_refl _
  | cons f L ih =>
    intro ks
    have h1 := ih ks.tail
    have h2 : usedL (keptL f ks.head?) ≤ f.b.size := by
      unfold keptL
      split
      · have : usedL [(⟨f.name, f.b.extract 0 (keptN f ks.head?), keptN f ks.head?⟩ : FileD)] = (f.b.extract 0 (keptN f ks.head?)).size := by simp [usedL]
        rw [this, ByteArray.size_extract]; omega
      · exact Nat.zero_le _
    have e : onGo (f :: L) ks = keptL f ks.head? ++ onGo L ks.tail := rfl
    have e2 : usedL (f :: L) = f.b.size + usedL L := by simp [usedL]
    rw [e, e2, usedL_append]
    omega
theorem cst_on {D : DiskD} (ks : List Int) : Cst D (D.on ks) 0 0 0 := by
  unfold DiskD.on
  split
  · refine ⟨Int.le_refl _, by show D.steps ≤ _; omega, ?_, onGo_used _ _, Int.le_refl _, by show (-1 : Int) ≤ _; omega⟩
    have := (onGo_sub D.files ks).length_le
    rw [List.length_map, List.length_map] at this
    exact this
  · exact ⟨Int.le_refl _, by show D.steps ≤ _; omega, Nat.le_refl _, Nat.le_refl _, Int.le_refl _, by show (-1 : Int) ≤ _; omega⟩
end Go.Proofs.YthmcimpdehgaoaaGreatDoor
namespace Go.Proofs.YthmcimpdehgaoaaGreatDoor

/-- a remainder, times the power 1 -/
def upN (r : Nat) : Nat := if r % 2 = 1 then (r / 2) ^^^ 2197175160 else r / 2
theorem upN_lt {r : Nat} (hr : r < 4294967296) : upN r < 4294967296 := by
  unfold upN
  split
  · exact Nat.xor_lt_two_pow (n := 32) (by omega) (by decide)
  · omega
/-- four times -/
def up4 (r : Nat) : Nat := upN (upN (upN (upN r)))
def upK : Nat → Nat → Nat
  | 0, r => r
  | k + 1, r => upN (upK k r)
theorem upK_lt {r : Nat} (hr : r < 4294967296) (k : Nat) : upK k r < 4294967296 := by
  induction k with
  | zero => exact hr
  | succ k ih => exact upN_lt ih
/-- one byte -/
def nib (r : Nat) : Nat := (r / 16) ^^^ up4 (r % 16)
def crcF (l : List UInt8) : Nat := l.foldl (fun r c => nib (nib (r ^^^ c.toNat))) 4294967295
def crcN (s : ByteArray) : Nat := crcF s.data.toList ^^^ 4294967295
theorem up4_lt {r : Nat} (h : r < 4294967296) : up4 r < 4294967296 := upN_lt (upN_lt (upN_lt (upN_lt h)))
theorem nib_lt {r : Nat} (h : r < 4294967296) : nib r < 4294967296 := Nat.xor_lt_two_pow (n := 32) (by omega) (up4_lt (by omega))
theorem crcF_lt (l : List UInt8) : crcF l < 4294967296 := by
  have : ∀ r, r < 4294967296 → l.foldl (fun r c => nib (nib (r ^^^ c.toNat))) r < 4294967296 := by
    induction l with
    | nil => exact fun _ h => h
    | cons c l ih => exact fun r hr => ih _ (nib_lt (nib_lt (Nat.xor_lt_two_pow (n := 32) (by omega) (by have := c.toNat_lt; omega))))
  exact this _ (by decide)
theorem crcN_lt (s : ByteArray) : crcN s < 4294967296 := Nat.xor_lt_two_pow (n := 32) (crcF_lt _) (by decide)
theorem crcF_snoc (l : List UInt8) (c : UInt8) : crcF (l ++ [c]) = nib (nib (crcF l ^^^ c.toNat)) := by unfold crcF; rw [List.foldl_append]; rfl

theorem testBit_half (r k : Nat) : (r / 2).testBit k = r.testBit (k + 1) := by rw [Nat.testBit_succ]
theorem upN_bit (r k : Nat) : (upN r).testBit k = (r.testBit (k + 1) ^^ (r.testBit 0 && (2197175160 : Nat).testBit k)) := by
  unfold upN
  by_cases h : r % 2 = 1
  · rw [if_pos h, Nat.testBit_xor, testBit_half, Nat.testBit_zero, h]; simp
  · rw [if_neg h, testBit_half, Nat.testBit_zero]; simp [h]
theorem upN_xor (a b : Nat) : upN (a ^^^ b) = upN a ^^^ upN b := by
  apply Nat.eq_of_testBit_eq
  intro k
  simp only [upN_bit, Nat.testBit_xor]
  cases a.testBit (k + 1) <;> cases b.testBit (k + 1) <;> cases a.testBit 0 <;> cases b.testBit 0 <;> cases (2197175160 : Nat).testBit k <;> rfl
theorem upN_twice (y : Nat) : upN (2 * y) = y := by unfold upN; rw [if_neg (by omega)]; omega
theorem xor_parts (n q : Nat) (k : Nat) (hn : n < 2 ^ k) : 2 ^ k * q + n = (2 ^ k * q) ^^^ n := by
  apply Nat.eq_of_testBit_eq
  intro i
  rw [Nat.testBit_xor, Nat.testBit_two_pow_mul_add q hn, Nat.testBit_two_pow_mul]
  by_cases h : i < k
  · rw [if_pos h]; simp [show ¬ k ≤ i by omega]
  · rw [if_neg h]
    have : n.testBit i = false := Nat.testBit_lt_two_pow (Nat.lt_of_lt_of_le hn (Nat.pow_le_pow_right (by decide) (by omega)))
    simp [this, show k ≤ i by omega]
theorem up4_xor (a b : Nat) : up4 (a ^^^ b) = up4 a ^^^ up4 b := by unfold up4; simp only [upN_xor]
theorem nib_up4 (r : Nat) : nib r = up4 r := by
  have h : r = (2 ^ 4 * (r / 16)) ^^^ (r % 16) := by
    rw [← xor_parts _ _ 4 (Nat.mod_lt _ (by decide))]; omega
  unfold nib
  conv => rhs; rw [h]
  rw [up4_xor]
  congr 1
  unfold up4
  rw [show 2 ^ 4 * (r / 16) = 2 * (2 * (2 * (2 * (r / 16)))) by omega, upN_twice, upN_twice, upN_twice, upN_twice]
/-- bits, the lowest first -/
def feed : Nat → Nat → Nat → Nat
  | 0, r, _ => r
  | k + 1, r, c => feed k (upN (r ^^^ (c % 2))) (c / 2)
theorem upK_up (k r : Nat) : upK (k + 1) r = upK k (upN r) := by
  induction k with
  | zero => rfl
  | succ k ih => rw [upK, ih]; rfl
theorem feed_up : ∀ (k r c : Nat), c < 2 ^ k → upK k (r ^^^ c) = feed k r c := by
  intro k
  induction k with
  | zero => intro r c hc; obtain rfl : c = 0 := by omega
            simp [upK, feed]
  | succ k ih =>
    intro r c hc
    have h : c = (2 * (c / 2)) ^^^ (c % 2) := by
      have := xor_parts (c % 2) (c / 2) 1 (Nat.mod_lt _ (by decide))
      rw [Nat.pow_one] at this
      rw [← this]; omega
    have e : upN (r ^^^ c) = upN (r ^^^ (c % 2)) ^^^ (c / 2) := by
      conv => lhs; rw [h, Nat.xor_comm (2 * (c / 2)), ← Nat.xor_assoc, upN_xor, upN_twice]
    rw [upK_up, e, ih _ _ (by rw [Nat.pow_succ] at hc; omega)]
    rfl
theorem nib2_feed (r : Nat) (c : UInt8) : nib (nib (r ^^^ c.toNat)) = feed 8 r c.toNat := by
  rw [← feed_up 8 r c.toNat (by have := c.toNat_lt; omega), nib_up4, nib_up4]
  rfl

/-! the document's way -/
/-- the powers that it has -/
def pows : List Nat := [32, 28, 27, 26, 25, 23, 22, 20, 19, 18, 14, 13, 11, 10, 9, 8, 6, 0]
def flip (row : List Bool) (at_ : Nat) : List Bool := row.set at_ (!row.getD at_ false)
def flips (i : Nat) (row : List Bool) (ps : List Nat) : List Bool := ps.foldl (fun r p => flip r (i + 32 - p)) row
def divStep (row : List Bool) (i : Nat) : List Bool := if row.getD i false then flips i row pows else row
def divs (row : List Bool) (k : Nat) : List Bool := (List.range k).foldl divStep row
def lows (row : List Bool) (k : Nat) : Nat := (List.range k).foldl (fun n j => if row.getD (row.length - 32 + j) false then n + 2 ^ j else n) 0
def restN (row : List Bool) : Nat := lows (divs row (row.length - 32)) 32

theorem flip_len (row : List Bool) (k : Nat) : (flip row k).length = row.length := List.length_set
theorem flips_len (i : Nat) : ∀ (ps : List Nat) (row : List Bool), (flips i row ps).length = row.length := by
  intro ps
  induction ps with
  | nil => exact fun _ => rfl
  | cons p ps ih => intro row; show (flips i (flip row (i + 32 - p)) ps).length = _; rw [ih, flip_len]
theorem divStep_len (row : List Bool) (i : Nat) : (divStep row i).length = row.length := by unfold divStep; split; exact flips_len _ _ _; rfl
theorem divs_succ (row : List Bool) (k : Nat) : divs row (k + 1) = divStep (divs row k) k := by unfold divs; rw [List.range_succ, List.foldl_append]; rfl
theorem divs_len (row : List Bool) (k : Nat) : (divs row k).length = row.length := by
  induction k with
  | zero => rfl
  | succ k ih => rw [divs_succ, divStep_len, ih]
theorem flip_at (row : List Bool) (k j : Nat) (hk : k < row.length) : (flip row k).getD j false = (row.getD j false ^^ decide (j = k)) := by
  unfold flip
  simp only [List.getD_eq_getElem?_getD, List.getElem?_set]
  by_cases h : k = j
  · subst h; simp [hk]
  · rw [if_neg h]; simp [show ¬ j = k from fun e => h e.symm]
theorem flips_at (i : Nat) (j : Nat) : ∀ (ps : List Nat) (row : List Bool), i + 32 < row.length → ps.Nodup → (∀ p ∈ ps, p ≤ 32) → (flips i row ps).getD j false = (row.getD j false ^^ (ps.any fun p => decide (j = i + 32 - p))) := by
  intro ps
  induction ps with
  | nil => intro row _ _ _; simp [flips]
  | cons p ps ih =>
    intro row hr hn hp
    show (flips i (flip row (i + 32 - p)) ps).getD j false = _
    have hp1 := hp p (by simp)
    rw [ih _ (by rw [flip_len]; exact hr) (List.nodup_cons.1 hn).2 (fun q hq => hp q (List.mem_cons_of_mem _ hq)), flip_at _ _ _ (by omega), List.any_cons]
    by_cases h : j = i + 32 - p
    · have : (ps.any fun p => decide (j = i + 32 - p)) = false := by
        rw [List.any_eq_false]
        intro q hq
        have hq1 := hp q (List.mem_cons_of_mem _ hq)
        have : q ≠ p := fun e => (List.nodup_cons.1 hn).1 (e ▸ hq)
        simp; omega
      rw [this]; simp [h]
    · simp [h]
theorem low_bits : ∀ k, k < 32 → (pows.any fun p => decide (31 - k = p)) = (2197175160 : Nat).testBit k := by decide
theorem pows_nodup : pows.Nodup := by decide
theorem pows_le : ∀ p ∈ pows, p ≤ 32 := by decide
theorem divStep_at (row : List Bool) (i k : Nat) (hr : i + 32 < row.length) (hk : k < 32) : (divStep row i).getD (i + 1 + k) false = (row.getD (i + 1 + k) false ^^ (row.getD i false && (2197175160 : Nat).testBit k)) := by
  unfold divStep
  cases h : row.getD i false with
  | false => simp
  | true =>
    simp only [if_true]
    rw [flips_at i _ pows row hr pows_nodup pows_le, ← low_bits k hk]
    congr 1
    rw [Bool.true_and, Bool.eq_iff_iff, List.any_eq_true, List.any_eq_true]
    constructor
    · rintro ⟨p, hp, h⟩; have := pows_le p hp; exact ⟨p, hp, by simp at h ⊢; omega⟩
    · rintro ⟨p, hp, h⟩; have := pows_le p hp; exact ⟨p, hp, by simp at h ⊢; omega⟩
theorem divStep_far (row : List Bool) (i j : Nat) (hr : i + 32 < row.length) (hj : i + 32 < j) : (divStep row i).getD j false = row.getD j false := by
  unfold divStep
  split
  · rw [flips_at i _ pows row hr pows_nodup pows_le]
    have : (pows.any fun p => decide (j = i + 32 - p)) = false := by
      rw [List.any_eq_false]
      intro q hq
      simp; omega
    rw [this, Bool.xor_false]
  · rfl
/-- the state behind so many bits -/
def stBits (M : Nat → Bool) : Nat → Nat
  | 0 => 4294967295
  | i + 1 => upN (stBits M i ^^^ (M i).toNat)
theorem stBits_lt (M : Nat → Bool) (i : Nat) : stBits M i < 4294967296 := by
  induction i with
  | zero => show 4294967295 < 4294967296; omega
  | succ i ih => exact upN_lt (Nat.xor_lt_two_pow (n := 32) ih (by cases h : M i <;> simp))
theorem bit_toNat (b : Bool) (k : Nat) : (b.toNat).testBit k = (decide (k = 0) && b) := by
  cases b
  · simp
  · show Nat.testBit 1 k = _
    rw [show (1 : Nat) = 2 ^ 0 from rfl, Nat.testBit_two_pow]
    simp [eq_comm]
theorem ones_bit (k : Nat) (hk : k < 32) : (4294967295 : Nat).testBit k = true := by
  have : (4294967295 : Nat) = 2 ^ 32 - 1 := rfl
  rw [this, Nat.testBit_two_pow_sub_one]; simp [hk]
/-- the row of a message: the first 32 are turned -/
theorem divs_state (M : Nat → Bool) (row : List Bool) (h0 : ∀ k, k < 32 → row.getD k false = !M k) (h1 : ∀ j, 32 ≤ j → row.getD j false = M j) :
    ∀ i, i + 32 ≤ row.length → (∀ k, k < 32 → (divs row i).getD (i + k) false = ((stBits M i).testBit k ^^ M (i + k))) ∧ (∀ j, i + 32 ≤ j → (divs row i).getD j false = M j) := by
  intro i
  induction i with
  | zero =>
    intro _
    refine ⟨fun k hk => ?_, fun j hj => ?_⟩
    · show row.getD (0 + k) false = _
      rw [Nat.zero_add, h0 k hk]
      show (!M k) = ((4294967295 : Nat).testBit k ^^ M k)
      rw [ones_bit k hk]; simp
    · exact h1 j (by omega)
  | succ i ih =>
    intro hi
    obtain ⟨a, b⟩ := ih (by omega)
    have hl : i + 32 < (divs row i).length := by rw [divs_len]; omega
    rw [divs_succ]
    refine ⟨fun k hk => ?_, fun j hj => ?_⟩
    · rw [divStep_at _ i k hl hk]
      have a0 := a 0 (by omega)
      rw [Nat.add_zero] at a0
      have hs : (stBits M (i + 1)).testBit k = ((stBits M i).testBit (k + 1) ^^ (((stBits M i).testBit 0 ^^ M i) && (2197175160 : Nat).testBit k)) := by
        show (upN (stBits M i ^^^ (M i).toNat)).testBit k = _
        rw [upN_bit, Nat.testBit_xor, Nat.testBit_xor, bit_toNat, bit_toNat]
        simp
      rw [hs, a0]
      by_cases h31 : k = 31
      · subst h31
        rw [show i + 1 + 31 = i + 32 by omega, b (i + 32) (by omega)]
        have : (stBits M i).testBit (31 + 1) = false := Nat.testBit_lt_two_pow (stBits_lt M i)
        rw [this]
        cases M (i + 32) <;> cases (stBits M i).testBit 0 <;> cases M i <;> cases (2197175160 : Nat).testBit 31 <;> rfl
      · have a1 := a (k + 1) (by omega)
        rw [show i + (k + 1) = i + 1 + k by omega] at a1
        rw [a1]
        cases (stBits M i).testBit (k + 1) <;> cases M (i + 1 + k) <;> cases (stBits M i).testBit 0 <;> cases M i <;> cases (2197175160 : Nat).testBit k <;> rfl
    · rw [divStep_far _ i j hl (by omega)]
      exact b j (by omega)
theorem lows_bits (row : List Bool) (r : Nat) (hb : ∀ k, k < 32 → row.getD (row.length - 32 + k) false = r.testBit k) : ∀ k, k ≤ 32 → lows row k = r % 2 ^ k := by
  intro k
  induction k with
  | zero => intro _; simp [lows, Nat.mod_one]
  | succ k ih =>
    intro hk
    have e : lows row (k + 1) = if row.getD (row.length - 32 + k) false then lows row k + 2 ^ k else lows row k := by
      unfold lows; rw [List.range_succ, List.foldl_append]; rfl
    rw [e, hb k (by omega), ih (by omega), Nat.pow_succ, Nat.mod_mul, Nat.testBit_eq_decide_div_mod_eq]
    have := Nat.mod_two_eq_zero_or_one (r / 2 ^ k)
    rcases this with h | h <;> simp [h]
theorem restN_state (M : Nat → Bool) (row : List Bool) (n : Nat) (hlen : row.length = n + 32) (h0 : ∀ k, k < 32 → row.getD k false = !M k) (h1 : ∀ j, 32 ≤ j → row.getD j false = M j) (hz : ∀ j, n ≤ j → M j = false) : restN row = stBits M n := by
  unfold restN
  have h := divs_state M row h0 h1 n (by omega)
  have hn : row.length - 32 = n := by omega
  rw [hn, lows_bits (divs row n) (stBits M n) (fun k hk => ?_) 32 (Nat.le_refl _)]
  · exact Nat.mod_eq_of_lt (stBits_lt M n)
  · rw [divs_len, hn, h.1 k hk, hz (n + k) (by omega), Bool.xor_false]
/-- a message's bits -/
def bitM (l : List UInt8) (j : Nat) : Bool := if j < 8 * l.length then ((l.getD (j / 8) 0).toNat).testBit (j % 8) else false
theorem feed_bits (M : Nat → Bool) : ∀ (k c i : Nat), (∀ j, j < k → M (i + j) = c.testBit j) → feed k (stBits M i) c = stBits M (i + k) := by
  intro k
  induction k with
  | zero => exact fun _ _ _ => rfl
  | succ k ih =>
    intro c i h
    have h0 := h 0 (by omega)
    rw [Nat.add_zero] at h0
    have e : c % 2 = (M i).toNat := by
      rw [h0, Nat.testBit_zero]
      have := Nat.mod_two_eq_zero_or_one c
      rcases this with h | h <;> rw [h] <;> rfl
    show feed k (upN (stBits M i ^^^ (c % 2))) (c / 2) = _
    rw [e]
    rw [show i + (k + 1) = (i + 1) + k by omega]
    exact ih (c / 2) (i + 1) (fun j hj => by
      have := h (j + 1) (by omega)
      rw [show i + (j + 1) = i + 1 + j by omega] at this
      rw [this, Nat.testBit_succ])
theorem crcF_bits (l : List UInt8) : crcF l = stBits (bitM l) (8 * l.length) := by
  have : ∀ k, k ≤ l.length → crcF (l.take k) = stBits (bitM l) (8 * k) := by
    intro k
    induction k with
    | zero => intro _; simp [crcF, stBits]
    | succ k ih =>
      intro hk
      rw [List.take_succ_eq_append_getElem (by omega), crcF_snoc, ih (by omega), nib2_feed, feed_bits (bitM l) 8 _ (8 * k) (fun j hj => ?_)]
      · rw [show 8 * (k + 1) = 8 * k + 8 by omega]
      · unfold bitM
        rw [if_pos (by omega), show (8 * k + j) / 8 = k by omega, show (8 * k + j) % 8 = j by omega, List.getD_eq_getElem?_getD, List.getElem?_eq_getElem (by omega)]
        rfl
  have h := this l.length (Nat.le_refl _)
  rwa [List.take_length] at h
/-- the row that the document divides -/
def rowOf (l : List UInt8) : List Bool := (List.range (8 * l.length + 32)).map fun j => if j < 32 then !bitM l j else bitM l j
theorem rowOf_at (l : List UInt8) (j : Nat) (hj : j < 8 * l.length + 32) : (rowOf l).getD j false = if j < 32 then !bitM l j else bitM l j := by
  unfold rowOf
  rw [List.getD_eq_getElem?_getD, List.getElem?_map, List.getElem?_range hj]
  rfl
/-- THE LAW -/
theorem crc_law (s : ByteArray) : restN (rowOf s.data.toList) ^^^ 4294967295 = crcN s := by
  have hz : ∀ j, 8 * s.data.toList.length ≤ j → bitM s.data.toList j = false := fun j hj => by unfold bitM; rw [if_neg (by omega)]
  unfold crcN
  rw [crcF_bits, restN_state (bitM s.data.toList) (rowOf s.data.toList) (8 * s.data.toList.length) (by simp [rowOf]) (fun k hk => ?_) (fun j hj => ?_) hz]
  · rw [rowOf_at _ _ (by omega), if_pos hk]
  · by_cases h : j < 8 * s.data.toList.length + 32
    · rw [rowOf_at _ _ h, if_neg (by omega)]
    · rw [hz j (by omega), List.getD_eq_getElem?_getD, List.getElem?_eq_none (by rw [show (rowOf s.data.toList).length = 8 * s.data.toList.length + 32 by simp [rowOf]]; omega)]; rfl
end Go.Proofs.YthmcimpdehgaoaaGreatDoor
