/- The disk's calls, each as what it answers and leaves; a disk of one file, in plain words. -/
import Derived.Test.YtmgnpcoihehelaaDiskY
import Derived.Sort.Walk0
namespace Go.Proofs.Ytmgnpcoihehelaa
open Go.RowKit

section
variable {w : World} {B p : Nat} {v : Value} {D D' : DiskD} {E : Int} (h : DiskIs w B p v D) (hB : B ≤ w.heap.size)
include h hB
theorem d_append (hf : Fit D) (hu : D.used ≤ 1000000000000) {name b : ByteArray} {bv : Value} (hbv : BtR w bv b) (hbs : b.size ≤ 1000000000) (hE : D.append name b = (E, D')) :
    Calls Try.prog 9 #[.pointer (some ⟨p, 0, none⟩), .string name, bv] w fun e w' => e = .returned (.int .i64 E) ∧ ∃ v1, Out B w w' p v D' v1 :=
  (append_any w B p v D name bv b h hB hf hu hbv hbs).mono fun e w' ⟨he, hl⟩ => by rw [hE] at he hl; exact ⟨he, hl.out h hB⟩
theorem d_sync (hf : Fit D) {name : ByteArray} (hE : D.step 0 name name 0 true = (E, D')) :
    Calls Try.prog 10 #[.pointer (some ⟨p, 0, none⟩), .string name] w fun e w' => e = .returned (.int .i64 E) ∧ ∃ v1, Out B w w' p v D' v1 :=
  (sync_any w B p v D h hB hf name).mono fun e w' ⟨he, hl⟩ => by rw [hE] at he hl; exact ⟨he, hl.out h hB⟩
theorem d_cut (hf : Fit D) {name : ByteArray} {n : Int} (hE : D.step 1 name name n false = (E, D')) :
    Calls Try.prog 18 #[.pointer (some ⟨p, 0, none⟩), .string name, .int .i64 n] w fun e w' => e = .returned (.int .i64 E) ∧ ∃ v1, Out B w w' p v D' v1 :=
  (cut_any w B p v D h hB hf name n).mono fun e w' ⟨he, hl⟩ => by rw [hE] at he hl; exact ⟨he, hl.out h hB⟩
theorem d_rename (hf : Fit D) {name dst : ByteArray} (hE : D.step 2 name dst 0 true = (E, D')) :
    Calls Try.prog 20 #[.pointer (some ⟨p, 0, none⟩), .string name, .string dst] w fun e w' => e = .returned (.int .i64 E) ∧ ∃ v1, Out B w w' p v D' v1 :=
  (rename_any w B p v D h hB hf name dst).mono fun e w' ⟨he, hl⟩ => by rw [hE] at he hl; exact ⟨he, hl.out h hB⟩
theorem d_remove (hf : Fit D) {name : ByteArray} (hE : D.step 3 name name 0 true = (E, D')) :
    Calls Try.prog 19 #[.pointer (some ⟨p, 0, none⟩), .string name] w fun e w' => e = .returned (.int .i64 E) ∧ ∃ v1, Out B w w' p v D' v1 :=
  (remove_any w B p v D h hB hf name).mono fun e w' ⟨he, hl⟩ => by rw [hE] at he hl; exact ⟨he, hl.out h hB⟩
theorem d_crash (hE : { D with off := true, left := -1 } = D') :
    Calls Try.prog 12 #[.pointer (some ⟨p, 0, none⟩)] w fun e w' => e = .returned (.tuple #[]) ∧ ∃ v1, Out B w w' p v D' v1 :=
  (crash_any w B p v D h).mono fun e w' ⟨he, hd, hm⟩ => by
    rw [hE] at hd
    exact ⟨he, Leaves.out h hB ⟨v, hd, ⟨hm.os, hm.tape, hm.output, hm.size, fun k hk hkp _ => hm.block k hk hkp (by simp)⟩, own_new (.inl rfl)⟩⟩
theorem d_on (hf : Fit D) (hso : ∀ f ∈ D.files, SafeOk f) {A : Option Addr} {c : Nat} {keep : List Int} (hk : Rd w 1 A keep.length (keep.map (Value.int .i64))) (hkp : ∀ ad, A = some ad → ad.block ≠ p) (hkl : keep.length ≤ 100000000) (hE : D.on keep = D') :
    Calls Try.prog 13 #[.pointer (some ⟨p, 0, none⟩), .slice A keep.length c] w fun e w' => e = .returned (.tuple #[]) ∧ ∃ v1, Out B w w' p v D' v1 :=
  (on_any w B p v D h A c keep hk hkp hf.len hkl hf.size hso hB).mono fun e w' ⟨he, hl⟩ => by rw [hE] at hl; exact ⟨he, hl.out h hB⟩
omit hB in
theorem d_read (hf : Fit D) {name b : ByteArray} (hE : D.read name = (E, b)) :
    Calls Try.prog 14 #[.pointer (some ⟨p, 0, none⟩), .string name] w fun e w' => ∃ bv, e = .returned (.tuple #[bv, .int .i64 E]) ∧ Bt w' bv b ∧ Below w.heap.size w w' :=
  (read_any w B p v D name h (by have := hf.len; omega) hf.size).mono fun e w' ⟨bv, he, hb⟩ => by rw [hE] at he hb; exact ⟨bv, he, hb⟩
end
/-- a slice of bytes, written out -/
theorem bt_lit (w : World) (s : ByteArray) (g : Nat) (hg : w.heap.size = g) : Bt (w.alloc (.cells (ucells s).toArray 5)) (.slice (some ⟨g, 0, none⟩) s.size s.size) s := by
  subst hg
  refine ⟨_, _, rfl, Nat.le_refl _, fun _ => ⟨w.heap.size, 0, (ucells s).toArray, (0, 0), rfl, heap_alloc_new w _, fun j hj => ?_⟩⟩
  rw [Nat.zero_add, List.getElem?_toArray]
  exact ucells_at s j hj
theorem bytesLess_self (l : List UInt8) : Op.bytesLess l l = false := by
  induction l with
  | nil => rfl
  | cons c l ih => rw [Op.bytesLess]; simp [ih]
theorem cmpN_self (t : ByteArray) : cmpN t t = 0 := by
  unfold cmpN lessN
  rw [bytesLess_self]; simp
theorem findN_one (t : ByteArray) : findN [t] t = (0, true) := by
  have h : bsGo [t] t 1 0 1 = 0 := by
    rw [bsGo]
    simp [cmpN_self, bsGo]
  unfold findN
  simp [h, cmpN_self]
theorem findN_nil (t : ByteArray) : findN [] t = (0, false) := rfl
section
variable {t b b0 : ByteArray} {q n s : Int} (ht : badN t = false)
include ht
theorem one_asked (L : List FileD) (left : Int) : (⟨L, q, n, left, false⟩ : DiskD).asked [t] = 0 := by simp [DiskD.asked, ht]
theorem one_asked2 (L : List FileD) (left : Int) : (⟨L, q, n, left, false⟩ : DiskD).asked [t, t] = 0 := by simp [DiskD.asked, ht]
theorem nil_append (hb : b.size ≤ 8388608) (hq : (b.size : Int) ≤ q) : (⟨[], q, n, -1, false⟩ : DiskD).append t b = (0, ⟨[⟨t, b, -1⟩], q, n + 1, -1, false⟩) := by
  have hat : (⟨[], q, n, -1, false⟩ : DiskD).at_ t = none := rfl
  unfold DiskD.append
  rw [one_asked ht, if_neg (by simp)]
  have hw : (⟨[], q, n, -1, false⟩ : DiskD).was t = ⟨t, ByteArray.empty, -1⟩ := by unfold DiskD.was; rw [hat]
  rw [hw, if_neg (by simp; omega), if_neg (by simp [DiskD.used, usedL]; omega)]
  unfold DiskD.put
  rw [hw]
  simp [findN_nil, putL, DiskD.power]
omit ht in
theorem one_at (L : Int) : (⟨[⟨t, b0, s⟩], q, n, L, false⟩ : DiskD).at_ t = some (0, ⟨t, b0, s⟩) := by
  unfold DiskD.at_
  simp [findN_one]
theorem one_append (hb : b0.size + b.size ≤ 8388608) (hq : (b0.size : Int) + b.size ≤ q) : (⟨[⟨t, b0, s⟩], q, n, -1, false⟩ : DiskD).append t b = (0, ⟨[⟨t, b0 ++ b, s⟩], q, n + 1, -1, false⟩) := by
  unfold DiskD.append
  rw [one_asked ht, if_neg (by simp)]
  have hw : (⟨[⟨t, b0, s⟩], q, n, -1, false⟩ : DiskD).was t = ⟨t, b0, s⟩ := by unfold DiskD.was; rw [one_at]
  rw [hw, if_neg (by show ¬ (8388608 : Int) < (b0.size : Int) + (b.size : Int); omega), if_neg (by simp [DiskD.used, usedL]; omega)]
  unfold DiskD.put
  rw [hw]
  simp [findN_one, putL, DiskD.power]
theorem one_sync : (⟨[⟨t, b0, s⟩], q, n, -1, false⟩ : DiskD).step 0 t t 0 true = (0, ⟨[⟨t, b0, b0.size⟩], q, n + 1, -1, false⟩) := by
  unfold DiskD.step
  rw [one_asked2 ht, if_neg (by simp), one_at]
  simp [DiskD.power, doesL]
theorem one_read : (⟨[⟨t, b0, s⟩], q, n, -1, false⟩ : DiskD).read t = (0, b0) := by
  unfold DiskD.read
  rw [one_asked ht, if_neg (by simp)]
  simp [findN_one]
omit ht in
theorem one_on (f : FileD) (k : Option Int) (ks : List Int) (hk : ks.head? = k) (hs : 0 ≤ f.safe) : (⟨[f], q, n, -1, true⟩ : DiskD).on ks = ⟨[⟨f.name, f.b.extract 0 (keptN f k), keptN f k⟩], q, n, -1, false⟩ := by
  unfold DiskD.on
  rw [if_pos rfl]
  simp only [onGo, List.append_nil]
  rw [hk]
  unfold keptL
  rw [if_pos (.inr (by omega))]
omit ht in
theorem off_read (L : List FileD) : (⟨L, q, n, -1, true⟩ : DiskD).read t = (160, ByteArray.empty) := by
  unfold DiskD.read DiskD.asked
  simp
end
end Go.Proofs.Ytmgnpcoihehelaa
