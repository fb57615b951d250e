/- ReportRead, walked: any text is the report that the document says, or is refused. -/
import Derived.Test.YtggegefeagkhkaaDoorLawRpP
namespace Go.Proofs.YtggegefeagkhkaaDoor
open Go.RowKit

/-- the answer to a text -/
def Ans (s : ByteArray) (k st : Int) (vs : List Int) (er : Int) : Prop :=
  (IsRep k st vs s ∧ s.size ≤ 262144 ∧ er = 0) ∨ ((∀ k st vs, s.size ≤ 262144 → ¬ IsRep k st vs s) ∧ k = 0 ∧ st = 0 ∧ vs = [] ∧ er = if 262144 < s.size then 3 else 270)
theorem ans_eq {s : ByteArray} {k st : Int} {vs : List Int} {er : Int} {k' st' : Int} {vs' : List Int} {er' : Int} (h : Ans s k st vs er) (h' : Ans s k' st' vs' er') : k = k' ∧ st = st' ∧ vs = vs' ∧ er = er' := by
  rcases h with ⟨a, b, c⟩ | ⟨a, b, c, d, e⟩
  · rcases h' with ⟨a', b', c'⟩ | ⟨a', _⟩
    · obtain ⟨h1, h2, h3⟩ := isRep_inj a a'
      exact ⟨h1, h2, h3, by rw [c, c']⟩
    · exact absurd a (a' _ _ _ b)
  · rcases h' with ⟨a', b', _⟩ | ⟨_, b', c', d', e'⟩
    · exact absurd a' (a _ _ _ b')
    · exact ⟨by rw [b, b'], by rw [c, c'], by rw [d, d'], by rw [e, e']⟩
theorem ans_bd {s : ByteArray} {k st : Int} {vs : List Int} {er : Int} (h : Ans s k st vs er) : (0 ≤ k ∧ k ≤ 255) ∧ vs.length ≤ 512 ∧ (er = 0 ∨ er ≠ 0 ∧ vs = []) := by
  rcases h with ⟨a, b, c⟩ | ⟨a, b, c, d, e⟩
  · have h9 := rep_of a.1
    refine ⟨?_, h9.n.2, .inl c⟩
    rcases h9.k with h | h | h <;> omega
  · refine ⟨by omega, by rw [d]; simp, .inr ⟨?_, d⟩⟩
    rw [e]; split <;> decide
theorem rds_ans {s : ByteArray} {w w' : World} {e : Ending} (h : RdS s w e w') : Below w.heap.size w w' ∧ ∃ k st vs A c er, Ans s k st vs er ∧ e = .returned (.tuple #[.int .u8 k, .int .i64 st, .slice A vs.length c, .int .i64 er]) ∧ Rd w' 1 A vs.length (vs.map (Value.int .i64)) := by
  obtain ⟨hb, h | h⟩ := h
  · obtain ⟨k, st, vs, A, c, h1, h2, he, hr⟩ := h
    exact ⟨hb, k, st, vs, A, c, 0, .inl ⟨h1, h2, rfl⟩, he, hr⟩
  · obtain ⟨h1, he⟩ := h
    exact ⟨hb, 0, 0, [], none, 0, _, .inr ⟨h1, rfl, rfl, rfl, rfl⟩, he, Rd.nil_⟩
set_option maxRecDepth 100000 in
set_option maxHeartbeats 8000000 in
theorem lawRead_any (w : World) (hG : Gl w) (s : ByteArray) :
    Calls Tryd.prog 4 #[.string s] w fun e w' => e = .returned (.bool true) ∧ Below w.heap.size w w' := by
  have HW := Lib.hid (fun (W : World) (hW : Below w.heap.size w W) => works_any W (hG.below hW))
  by_cases hl : 2000 < s.size
  · have hlI : (2000 : Int) < (s.size : Int) := by omega
    have hld : decide ((2000 : Int) < (s.size : Int)) = true := decide_eq_true hlI
    clear hG hl
    go_enter Tryd.func4, Tryd.ntmps4
    go_wp2_with fail
    refine (HW.out _ (Below.refl _ _)).mono ?_
    rintro e w2 ⟨rfl, hb2⟩
    have HB2 := Lib.hid hb2
    clear hb2
    go_wp2
    go_ret
    exact ⟨rfl, HB2.out⟩
  · have hlI : ¬ (2000 : Int) < (s.size : Int) := by omega
    have hld : decide ((2000 : Int) < (s.size : Int)) = false := decide_eq_false hlI
    have HP := Lib.hid (pRead_any w hG s); have HQ := Lib.hid (fun W => rRead_any W s)
    clear hG hl
    go_enter Tryd.func4, Tryd.ntmps4
    go_wp2_with fail
    refine HP.out.mono ?_
    intro e w2 h2
    obtain ⟨hb2, k, st, vs, A, c, er, ha, rfl, hr⟩ := rds_ans h2
    clear h2
    go_wp2_with fail
    refine (HQ.out _).mono ?_
    intro e w3 h3
    obtain ⟨hb3, k', st', vs', A', c', er', ha', rfl, hr'⟩ := rds_ans h3
    clear h3
    obtain ⟨rfl, rfl, rfl, rfl⟩ := ans_eq ha ha'
    have hbd := (ans_bd ha).2.1
    have HB3 := Lib.hid (hb2.trans (hb3.mono hb2.size))
    have HSM := Lib.hid (same64_any w3 A A' c c' vs vs (hr.below hb3) hr' (by omega))
    rw [decide_eq_true rfl] at HSM
    clear ha ha' hr hr' hb2 hb3
    go_wp2_with fail
    refine HSM.out.mono ?_
    rintro e w4 ⟨rfl, hb4⟩
    have HB4 := Lib.hid (HB3.out.trans (hb4.mono HB3.out.size))
    clear hb4
    go_wp2_with fail
    refine (HW.out _ HB4.out).mono ?_
    rintro e w5 ⟨rfl, hb5⟩
    have HB5 := Lib.hid (HB4.out.trans (hb5.mono HB4.out.size))
    clear hb5
    go_wp2
    go_ret
    exact ⟨rfl, HB5.out⟩
end Go.Proofs.YtggegefeagkhkaaDoor
