/- The program's Fold: the comparison, the sort, what a walk over a box has gathered. -/
import Derived.Test.YtbmjmpojabbegaaInbP
import Derived.Test.YtbmjmpojabbegaaRecSort
import Derived.Test.YtbmjmpojabbegaaSort
import Derived.Shelf.SlSortCmp.WholeK
namespace Go.Proofs.Ytbmjmpojabbegaa
open Go.RowKit Go.Maps Go.Sort Go.Lib

theorem isNaNI_any (a : Int) (w : World) : Calls Try.prog 32 #[.int .i64 a] w fun e w' => e = .returned (.bool false) ∧ w' = w := by
  go_enter Try.func32, Try.ntmps32
  go_wp2
  go_ret
  exact ⟨ret_bool (by simp), rfl⟩
/-- how two numbers stand -/
def cmpI (a b : Int) : Int := if a < b then -1 else if b < a then 1 else 0
set_option maxHeartbeats 1000000 in
theorem compareI_any (a b : Int) (w : World) : Calls Try.prog 22 #[.int .i64 a, .int .i64 b] w fun e w' => e = .returned (.int .i64 (cmpI a b)) ∧ w' = w := by
  unfold cmpI
  by_cases h1 : a < b
  · rw [if_pos h1]
    go_enter Try.func22, Try.ntmps22
    go_wp2_with (first | (go_at_call 32; refine (isNaNI_any _ _).mono ?_; rintro e w' ⟨rfl, rfl⟩))
    go_ret
    exact ⟨rfl, rfl⟩
  · rw [if_neg h1]
    by_cases h2 : b < a
    · rw [if_pos h2]
      go_enter Try.func22, Try.ntmps22
      go_wp2_with (first | (go_at_call 32; refine (isNaNI_any _ _).mono ?_; rintro e w' ⟨rfl, rfl⟩))
      go_ret
      exact ⟨rfl, rfl⟩
    · rw [if_neg h2]
      go_enter Try.func22, Try.ntmps22
      go_wp2_with (first | (go_at_call 32; refine (isNaNI_any _ _).mono ?_; rintro e w' ⟨rfl, rfl⟩))
      go_ret
      exact ⟨rfl, rfl⟩
def cmpM (x y : Int × Int) : Int := cmpI x.1 y.1
theorem ltM (x y : Int × Int) : ltOf cmpM x y = decide (x.1 < y.1) := by
  unfold ltOf cmpM cmpI
  by_cases h1 : x.1 < y.1
  · simp [h1]
  · by_cases h2 : y.1 < x.1 <;> simp [h1, h2]
theorem swoM : SWO (ltOf cmpM) where
  irrefl x := by rw [ltM]; simp
  trans x y z h1 h2 := by rw [ltM] at *; simp at *; omega
  ntrans x y z h1 h2 := by rw [ltM] at *; simp at *; omega
set_option maxHeartbeats 1000000 in
theorem cloMsg_any (x y : Int × Int) (W : World) : Calls Try.prog 21 #[.agg #[.int .i64 x.1, .int .i64 x.2], .agg #[.int .i64 y.1, .int .i64 y.2]] W fun e w' => e = .returned (.int .i64 (cmpM x y)) ∧ ∃ q os', w' = grow (W.drewN q) os' := by
  have hcon := fun W' => compareI_any x.1 y.1 W'
  change ∀ W', Calls Try.prog 22 _ _ _ at hcon
  unfold cmpM
  generalize cmpI x.1 y.1 = r at hcon ⊢
  go_enter Try.func21, Try.ntmps21
  go_wp2_with (go_at_call 22; refine (hcon _).mono ?_; rintro e w' ⟨rfl, rfl⟩)
  go_ret
  exact ⟨rfl, 0, _, by rw [alloc_eq_grow, alloc_eq_grow, grow_grow]; rfl⟩
theorem aggM (w : World) : (isAgg 29).run Try.prog w = .ok true w := by kernel_rfl
theorem sizeM (w : World) : (Go.sizeOf 29).run Try.prog w = .ok 2 w := by kernel_rfl
theorem perm_list {α : Type} [Inhabited α] {l : List α} {d : Array α} (h : PermIn 0 l.length l.toArray d) : d.size = l.length ∧ d.toList.Perm l := by
  obtain ⟨h1, _, h2⟩ := h
  have h1' : d.size = l.length := by simpa using h1
  refine ⟨h1', ?_⟩
  have e1 : d.extract 0 l.length = d := by rw [← h1']; simp
  have e2 : l.toArray.extract 0 l.length = l.toArray := by simp
  rw [e1, e2] at h2
  exact h2
theorem rising_sorted {l : List (Int × Int)} {d : Array (Int × Int)} (hn : l.Pairwise fun a b => a.1 ≠ b.1) (hp : PermIn 0 l.length l.toArray d) (hs : SortedIn (ltOf cmpM) 0 l.length d) : Rising d.toList := by
  obtain ⟨h1, h2⟩ := perm_list hp
  have hd : d.toList.Pairwise fun a b => a.1 ≠ b.1 := h2.symm.pairwise hn (fun {a b} h => Ne.symm h)
  unfold Rising
  rw [List.pairwise_iff_getElem] at hd ⊢
  intro i j hi hj hij
  have h3 := hd i j hi hj hij
  have h4 := hs i j (Nat.zero_le _) hij (by simp at hj; omega)
  rw [ltM] at h4
  simp at hi hj
  rw [getElem!_pos d j hj, getElem!_pos d i hi] at h4
  simp at h4 h3 ⊢
  omega
/-- the sort of folded messages -/
theorem sortMsg_any (w : World) (base g cap : Nat) (l : List (Int × Int)) (h : w.ownsRow base 29 2 (.slice (some ⟨g, 0, none⟩) l.length cap) l.length (rcs msgC l)) (hl : l.length ≤ 1000000000) (hn : l.Pairwise fun a b => a.1 ≠ b.1) :
    Calls Try.prog 20 #[.slice (some ⟨g, 0, none⟩) l.length cap, .func (.func 21) #[] #[]] w fun e w' => e = .returned (.tuple #[]) ∧ ∃ m : List (Int × Int), m.length = l.length ∧ Rising m ∧ (∀ p, p ∈ m ↔ p ∈ l) ∧ w'.ownsRow base 29 2 (.slice (some ⟨g, 0, none⟩) l.length cap) l.length (rcs msgC m) ∧ w.grownBy w' (some g) := by
  have eg : ∀ args w, (callFunc 21 args).run Try.prog w = .ok (.enter 21 args) w := enters_of Try.func21 (by kernel_rfl) rfl
  obtain ⟨hH, hg⟩ := holdsK_of_own msgC_len h
  have hcon := AnyQ.slices_SortFunc Try.sortMsg 2 aggM sizeM msgC msgC_len (fun x v hv => by simp [msgC] at hv; rcases hv with rfl | rfl <;> rfl) cmpM swoM 21 #[] g 0 cap l.toArray w eg (fun m os dk hs x y => cloMsg_any x y _) hH hg (by simp; omega)
  change Calls Try.prog 20 _ _ _ at hcon
  rw [show (l.toArray).size = l.length by simp] at hcon
  refine hcon.mono ?_
  rintro e w' ⟨rfl, d, n, os, hp, hs, rfl⟩
  obtain ⟨h1, h2⟩ := perm_list hp
  have h3 := ownsRow_sortedK (n := n) (os := os) msgC_len h1 h
  have e1 : d.toList.length = l.length := by simpa using h1
  rw [e1] at h3
  exact ⟨rfl, d.toList, e1, rising_sorted hn hp hs, fun p => h2.mem_iff, h3, grownBy_sortedK d⟩
theorem mailL_mem {k v : Int} : ∀ {p : List (Int × Int)}, (mailL k v p).1 = true → ∃ x ∈ p, x.1 = v := by
  have key : ∀ (p : List (Int × Int)) (m : Bool × Int), (p.foldl (mailS k v) m).1 = true → m.1 = true ∨ ∃ x ∈ p, x.1 = v := by
    intro p
    induction p with
    | nil => intro m h; exact .inl h
    | cons x p ih =>
      intro m h
      rw [List.foldl_cons] at h
      rcases ih _ h with h1 | ⟨y, hy, h1⟩
      · unfold mailS at h1
        split at h1
        · rename_i hx; exact .inr ⟨x, by simp, hx⟩
        · exact .inl h1
      · exact .inr ⟨y, by simp [hy], h1⟩
  intro p h
  rcases key p (false, 0) h with h1 | h1
  · cases h1
  · exact h1
/-- what has been gathered of a box -/
structure GotSt (k : Int) (l : List (Int × Int)) (left : Lit → Bool) (q : List (Int × Int)) : Prop where
  is : ∀ x y, (x, y) ∈ q ↔ (Lit.int .i64 x).wf = true ∧ (mailL k x l).1 = true ∧ left (.int .i64 x) = false ∧ (mailL k x l).2 = y
  once : q.Pairwise fun a b => a.1 ≠ b.1
theorem GotSt.start {k : Int} {l : List (Int × Int)} {left : Lit → Bool} (h : ∀ x, (Lit.int .i64 x).wf = true → left (.int .i64 x) = (mailL k x l).1) : GotSt k l left [] :=
  ⟨fun x y => ⟨(fun h => by cases h), (fun ⟨h1, h2, h3, _⟩ => by rw [h x h1, h2] at h3; cases h3)⟩, List.Pairwise.nil⟩
theorem GotSt.more {k : Int} {l : List (Int × Int)} {left : Lit → Bool} {q : List (Int × Int)} (h : GotSt k l left q) {x y : Int} (hw : (Lit.int .i64 x).wf = true) (h1 : (mailL k x l).1 = true) (h2 : (mailL k x l).2 = y) (hl : left (.int .i64 x) = true) :
    GotSt k l (fun z => left z && !z.sameKey (.int .i64 x)) (q ++ [(x, y)]) := by
  have hsk : ∀ v : Int, (Lit.int .i64 v).sameKey (.int .i64 x) = decide (v = x) := fun v => by
    unfold Lit.sameKey
    simp
  refine ⟨fun v z => ?_, ?_⟩
  · rw [List.mem_append, h.is, List.mem_singleton, hsk]
    constructor
    · rintro (⟨a, b, c, d⟩ | e)
      · exact ⟨a, b, by rw [c]; rfl, d⟩
      · injection e with e1 e2
        subst e1 e2
        exact ⟨hw, h1, by simp, h2⟩
    · rintro ⟨a, b, c, d⟩
      by_cases hv : v = x
      · subst hv
        exact .inr (by rw [← d, h2])
      · exact .inl ⟨a, b, by simpa [hv] using c, d⟩
  · rw [List.pairwise_append]
    refine ⟨h.once, by simp, fun a ha b hb e => ?_⟩
    rw [List.mem_singleton] at hb
    subst hb
    have := ((h.is a.1 a.2).1 ha).2.2.1
    rw [e, hl] at this
    cases this
theorem GotSt.end_ {k : Int} {l : List (Int × Int)} {left : Lit → Bool} {q m : List (Int × Int)} (h : GotSt k l left q) (h0 : ∀ z, left z = false) (hwf : ∀ x ∈ l, (Lit.int .i64 x.1).wf = true) (hm : Rising m) (hq : ∀ p, p ∈ m ↔ p ∈ q) : m = foldL k l := by
  obtain ⟨f1, f2⟩ := foldL_is k l
  refine rising_ext hm f1 fun p => ?_
  obtain ⟨v, x⟩ := p
  rw [hq, h.is, f2]
  constructor
  · rintro ⟨_, b, _, d⟩
    exact Prod.ext b d
  · intro e
    have e1 : (mailL k v l).1 = true := by rw [e]
    obtain ⟨y, hy, hv⟩ := mailL_mem e1
    exact ⟨by rw [← hv]; exact hwf y hy, e1, h0 _, by rw [e]⟩
end Go.Proofs.Ytbmjmpojabbegaa
