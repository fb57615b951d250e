/- A disk's calls in plain words, where its files lie in the order of their names. -/
import Derived.Test.YtmgnpcoihehelaaSortN
namespace Go.Proofs.Ytmgnpcoihehelaa
open Go.RowKit

theorem size_le_used {L : List FileD} {f : FileD} (hf : f ∈ L) : f.b.size ≤ usedL L := by
  obtain ⟨i, hi⟩ := List.mem_iff_getElem?.1 hf
  have := usedL_split hi
  omega
section
variable {D : DiskD} (h : SortedF D.files)
include h
theorem at_mem {f : FileD} (hf : f ∈ D.files) : ∃ i, D.at_ f.name = some (i, f) ∧ D.files[i]? = some f := by
  obtain ⟨i, h1, h2⟩ := find_mem h hf
  refine ⟨i, ?_, h2⟩
  unfold DiskD.at_
  rw [h1, if_pos rfl, h2]; rfl
omit h in
theorem at_no {t : ByteArray} (hn : ∀ f ∈ D.files, f.name ≠ t) : D.at_ t = none := by
  unfold DiskD.at_
  rw [find_no hn, if_neg (by simp)]
theorem was_name (t : ByteArray) : (D.was t).name = t ∧ ((∃ f ∈ D.files, f.name = t ∧ D.was t = f) ∨ (∀ f ∈ D.files, f.name ≠ t) ∧ D.was t = ⟨t, ByteArray.empty, -1⟩) := by
  by_cases hx : ∃ f ∈ D.files, f.name = t
  · obtain ⟨f, hf, rfl⟩ := hx
    obtain ⟨i, h1, _⟩ := at_mem h hf
    have : D.was f.name = f := by unfold DiskD.was; rw [h1]
    rw [this]
    exact ⟨rfl, .inl ⟨f, hf, rfl, rfl⟩⟩
  · have hn : ∀ f ∈ D.files, f.name ≠ t := fun f hf e => hx ⟨f, hf, e⟩
    have : D.was t = ⟨t, ByteArray.empty, -1⟩ := by unfold DiskD.was; rw [at_no hn]
    rw [this]
    exact ⟨rfl, .inr ⟨hn, rfl⟩⟩
theorem was_size (t : ByteArray) : (D.was t).b.size ≤ usedL D.files := by
  obtain ⟨_, ⟨f, hf, _, e⟩ | ⟨_, e⟩⟩ := was_name h t
  · rw [e]; exact size_le_used hf
  · rw [e]; exact Nat.zero_le _
theorem put_eq (t b : ByteArray) : D.put t b = { D with files := putF D.files ⟨t, (D.was t).b ++ b, (D.was t).safe⟩ } := by
  unfold DiskD.put putF
  rw [(was_name h t).1]
theorem put_used (t b : ByteArray) : usedL (putF D.files ⟨t, (D.was t).b ++ b, (D.was t).safe⟩) = usedL D.files + b.size := by
  obtain ⟨_, ⟨f, hf, hn, e⟩ | ⟨hn, e⟩⟩ := was_name h t
  · obtain ⟨i, hi, he⟩ := putF_there h (f := ⟨t, (D.was t).b ++ b, (D.was t).safe⟩) hf hn
    have := usedL_set ⟨t, (D.was t).b ++ b, (D.was t).safe⟩ hi
    rw [he]
    rw [e] at this ⊢
    dsimp only at this
    rw [ByteArray.size_append] at this
    omega
  · obtain ⟨i, _, he, _, _⟩ := putF_new h (f := ⟨t, (D.was t).b ++ b, (D.was t).safe⟩) hn
    rw [he, usedL_new, e]
    dsimp only
    rw [ByteArray.size_append]
    show _ + (0 + _) = _
    omega
omit h in
theorem put_len (f : FileD) : (putF D.files f).length ≤ D.files.length + 1 := by
  unfold putF putL
  split
  · rw [List.length_set]; omega
  · rw [List.length_append, List.length_cons, List.length_take, List.length_drop]; omega
end
section
variable {L : List FileD} {q n : Int} (h : SortedF L)
include h
theorem append_ok {t b : ByteArray} (ht : badN t = false) (h1 : usedL L + b.size ≤ 8388608) (h2 : (usedL L : Int) + b.size ≤ q) :
    ∃ f, f.name = t ∧ f.b = ((⟨L, q, n, -1, false⟩ : DiskD).was t).b ++ b ∧ f.safe = ((⟨L, q, n, -1, false⟩ : DiskD).was t).safe ∧
      (⟨L, q, n, -1, false⟩ : DiskD).append t b = (0, ⟨putF L f, q, n + 1, -1, false⟩) ∧ usedL (putF L f) = usedL L + b.size := by
  have h' : SortedF (⟨L, q, n, -1, false⟩ : DiskD).files := h
  have hw := was_size h' t
  refine ⟨⟨t, ((⟨L, q, n, -1, false⟩ : DiskD).was t).b ++ b, ((⟨L, q, n, -1, false⟩ : DiskD).was t).safe⟩, rfl, rfl, rfl, ?_, put_used h' t b⟩
  unfold DiskD.append
  rw [one_asked ht, if_neg (by simp), if_neg (by have : usedL (⟨L, q, n, -1, false⟩ : DiskD).files = usedL L := rfl; omega), if_neg (by show ¬ q < ((usedL L : Nat) : Int) + _; omega), put_eq h']
  simp [DiskD.power]
theorem append_full {t b : ByteArray} (ht : badN t = false) (h1 : usedL L + b.size ≤ 8388608) (h2 : q < (usedL L : Int) + b.size) :
    (⟨L, q, n, -1, false⟩ : DiskD).append t b = (161, ⟨L, q, n, -1, false⟩) := by
  have h' : SortedF (⟨L, q, n, -1, false⟩ : DiskD).files := h
  have hw := was_size h' t
  unfold DiskD.append
  rw [one_asked ht, if_neg (by simp), if_neg (by have : usedL (⟨L, q, n, -1, false⟩ : DiskD).files = usedL L := rfl; omega), if_pos (by show q < ((usedL L : Nat) : Int) + _; omega)]
theorem read_ok {f : FileD} (hf : f ∈ L) (ht : badN f.name = false) : (⟨L, q, n, -1, false⟩ : DiskD).read f.name = (0, f.b) := by
  obtain ⟨i, h1, h2⟩ := find_mem h hf
  unfold DiskD.read
  rw [one_asked ht, if_neg (by simp)]
  show (if (findN (L.map (·.name)) f.name).2 = true then _ else _) = _
  rw [h1, if_pos rfl]
  show ((0 : Int), (L.map (·.b)).getD i ByteArray.empty) = _
  rw [List.getD_eq_getElem?_getD, List.getElem?_map, h2]; rfl
omit h in
theorem read_no {t : ByteArray} (hn : ∀ f ∈ L, f.name ≠ t) (ht : badN t = false) : (⟨L, q, n, -1, false⟩ : DiskD).read t = (5, ByteArray.empty) := by
  unfold DiskD.read
  rw [one_asked ht, if_neg (by simp)]
  show (if (findN (L.map (·.name)) t).2 = true then _ else _) = _
  rw [find_no hn, if_neg (by simp)]
theorem step_ok {f : FileD} (hf : f ∈ L) (ht : badN f.name = false) {dst : ByteArray} (hd : badN dst = false) (kind k : Int) (all : Bool) (m : Nat) (hm : (if all = true then (f.b.size : Int) else k) = m) (hmf : m ≤ f.b.size) :
    ∃ i, L[i]? = some f ∧ (⟨L, q, n, -1, false⟩ : DiskD).step kind f.name dst k all = (0, ⟨doesL kind L i m dst f, q, n + 1, -1, false⟩) := by
  obtain ⟨i, h1, h2⟩ := at_mem (D := ⟨L, q, n, -1, false⟩) h hf
  refine ⟨i, h2, ?_⟩
  have ha : (⟨L, q, n, -1, false⟩ : DiskD).asked [f.name, dst] = 0 := by simp [DiskD.asked, ht, hd]
  unfold DiskD.step
  rw [ha, if_neg (by simp), h1]
  dsimp only
  rw [hm, if_neg (by omega)]
  simp [DiskD.power]
omit h in
theorem step_none {t dst : ByteArray} (hn : ∀ f ∈ L, f.name ≠ t) (ht : badN t = false) (hd : badN dst = false) (kind k : Int) (all : Bool) : (⟨L, q, n, -1, false⟩ : DiskD).step kind t dst k all = (5, ⟨L, q, n, -1, false⟩) := by
  have ha : (⟨L, q, n, -1, false⟩ : DiskD).asked [t, dst] = 0 := by simp [DiskD.asked, ht, hd]
  unfold DiskD.step
  rw [ha, if_neg (by simp), at_no (D := ⟨L, q, n, -1, false⟩) hn]
theorem step_arg {f : FileD} (hf : f ∈ L) (ht : badN f.name = false) (kind k : Int) (hk : k < 0 ∨ (f.b.size : Int) < k) : (⟨L, q, n, -1, false⟩ : DiskD).step kind f.name f.name k false = (2, ⟨L, q, n, -1, false⟩) := by
  obtain ⟨i, h1, h2⟩ := at_mem (D := ⟨L, q, n, -1, false⟩) h hf
  unfold DiskD.step
  rw [one_asked2 ht, if_neg (by simp), h1]
  dsimp only
  rw [if_pos (by simpa using hk)]
/-- Cut, Sync: the file is there with its first bytes, safe -/
theorem does_safe {f : FileD} {i : Nat} (hi : L[i]? = some f) (m : Nat) (dst : ByteArray) {kind : Int} (hk : kind = 0 ∨ kind = 1) :
    doesL kind L i m dst f = putF L ⟨f.name, f.b.extract 0 m, m⟩ ∧ (m ≤ f.b.size → usedL (doesL kind L i m dst f) + f.b.size = usedL L + m) := by
  have hd : doesL kind L i m dst f = L.set i ⟨f.name, f.b.extract 0 m, m⟩ := by
    unfold doesL
    rw [if_neg (by omega), if_neg (by omega)]
  rw [hd]
  constructor
  · unfold putF putL
    rw [findN_at h (i := i) (by rw [List.getElem?_map, hi]; rfl), if_pos rfl]
  · intro hm
    have := usedL_set ⟨f.name, f.b.extract 0 m, m⟩ hi
    dsimp only at this
    rw [ByteArray.size_extract] at this
    omega
end
end Go.Proofs.Ytmgnpcoihehelaa
