/- The program's Read: what gives up is recovered. -/
import Derived.Test.YtggegefeagkhkaaDoorRpI
import Derived.Test.YtggegefeagkhkaaDoorRpG
import Derived.RegionTactic
import Derived.ChangeAlike
namespace Go.Proofs.YtggegefeagkhkaaDoor
open Go.RowKit

theorem valsP_len : ∀ {l : List (List UInt8)} {vs : List Int}, valsP l = some vs → vs.length = l.length := by
  intro l
  induction l with
  | nil => intro vs h; injection h with h; subst h; rfl
  | cons a l ih =>
    intro vs h
    rw [valsP] at h
    cases ha : valP a with
    | none => rw [ha] at h; cases h
    | some x =>
      cases hl : valsP l with
      | none => rw [ha, hl] at h; cases h
      | some xs =>
        rw [ha, hl] at h
        injection h with h
        subst h
        simp [ih hl]
theorem headP_bd {rest ws : List (List UInt8)} {k st : Int} {n : Nat} (h : headP rest ws = some (k, st, n)) : (1 ≤ k ∧ k ≤ 3) ∧ (0 ≤ st ∧ st ≤ 2000) ∧ n ≤ 512 := by
  match ws, h with
  | [a, b, c], h =>
    rw [headP] at h
    cases hb : numL b with
    | none => rw [hb] at h; cases h
    | some m =>
      cases hc : numL c with
      | none => rw [hb, hc] at h; cases h
      | some s =>
        rw [hb, hc] at h
        dsimp only at h
        have b1 := numL_bd hb; have b2 := numL_bd hc; have b3 := kindN_bd a
        split at h
        · injection h with h
          injection h with h1 h
          injection h with h2 h3
          omega
        · cases h
theorem guessP_bd {l : List (List UInt8)} {k st : Int} {vs : List Int} (h : guessP l = some (k, st, vs)) : (1 ≤ k ∧ k ≤ 3) ∧ (0 ≤ st ∧ st ≤ 2000) ∧ vs.length ≤ 512 := by
  match l, h with
  | a :: rest, h =>
    rw [guessP] at h
    cases hh : headP rest (sp 32 a []) with
    | none => rw [hh] at h; cases h
    | some x =>
      obtain ⟨k', st', n⟩ := x
      rw [hh] at h
      dsimp only at h
      cases hv : valsP (rest.take n) with
      | none => rw [hv] at h; cases h
      | some us =>
        rw [hv] at h
        injection h with h
        injection h with h1 h
        injection h with h2 h3
        subst h1 h2 h3
        have := valsP_len hv
        rw [List.length_take] at this
        obtain ⟨b1, b2, b3⟩ := headP_bd hh
        exact ⟨b1, b2, by omega⟩
/-- what Read answers -/
def RdS (s : ByteArray) (w : World) (e : Ending) (w' : World) : Prop :=
  Below w.heap.size w w' ∧
    ((∃ k st vs A c, IsRep k st vs s ∧ s.size ≤ 262144 ∧ e = .returned (.tuple #[.int .u8 k, .int .i64 st, .slice A vs.length c, .int .i64 0]) ∧ Rd w' 1 A vs.length (vs.map (Value.int .i64))) ∨
     ((∀ k st vs, s.size ≤ 262144 → ¬ IsRep k st vs s) ∧ e = .returned (.tuple #[.int .u8 0, .int .i64 0, .slice none 0 0, .int .i64 (if 262144 < s.size then 3 else 270)])))
/-- the variables that Read hands back -/
structure Vr (w : World) (g : Nat) (a b c d : Value) : Prop where
  a : Blk w g 5 #[a]
  b : Blk w (g + 1) 3 #[b]
  c : Blk w (g + 2) 24 #[c]
  d : Blk w (g + 3) 30 #[d]
theorem Vr.below {w w' : World} {g : Nat} {a b c d : Value} (h : Vr w g a b c d) {B : Nat} (hb : Below B w w') (hB : g + 4 ≤ B) : Vr w' g a b c d :=
  ⟨h.a.below hb (by omega), h.b.below hb (by omega), h.c.below hb (by omega), h.d.below hb (by omega)⟩
theorem Vr.drew {w : World} {g : Nat} {a b c d : Value} (h : Vr w g a b c d) : Vr w.drew g a b c d := ⟨h.a, h.b, h.c, h.d⟩
theorem Vr.set {w : World} {g : Nat} {a b c d : Value} (h : Vr w g a b c d) (a' b' c' d' : Value) :
    Vr ((((w.setCell ⟨g, 0, none⟩ a').setCell ⟨g + 1, 0, none⟩ b').setCell ⟨g + 2, 0, none⟩ c').setCell ⟨g + 3, 0, none⟩ d') g a' b' c' d' :=
  ⟨(((h.a.set_ 0 a').far (p := ⟨g + 1, 0, none⟩) (by simp) _).far (p := ⟨g + 2, 0, none⟩) (by simp) _).far (p := ⟨g + 3, 0, none⟩) (by simp) _,
   (((h.b.far (p := ⟨g, 0, none⟩) (by simp) _).set_ 0 b').far (p := ⟨g + 2, 0, none⟩) (by simp) _).far (p := ⟨g + 3, 0, none⟩) (by simp) _,
   (((h.c.far (p := ⟨g, 0, none⟩) (by simp) _).far (p := ⟨g + 1, 0, none⟩) (by simp) _).set_ 0 c').far (p := ⟨g + 3, 0, none⟩) (by simp) _,
   (((h.d.far (p := ⟨g, 0, none⟩) (by simp) _).far (p := ⟨g + 1, 0, none⟩) (by simp) _).far (p := ⟨g + 2, 0, none⟩) (by simp) _).set_ 0 d'⟩
theorem Vr.set3 {w : World} {g : Nat} {a b c d : Value} (h : Vr w g a b c d) (a' b' c' : Value) :
    Vr (((w.setCell ⟨g, 0, none⟩ a').setCell ⟨g + 1, 0, none⟩ b').setCell ⟨g + 2, 0, none⟩ c') g a' b' c' d :=
  ⟨((h.a.set_ 0 a').far (p := ⟨g + 1, 0, none⟩) (by simp) _).far (p := ⟨g + 2, 0, none⟩) (by simp) _,
   ((h.b.far (p := ⟨g, 0, none⟩) (by simp) _).set_ 0 b').far (p := ⟨g + 2, 0, none⟩) (by simp) _,
   ((h.c.far (p := ⟨g, 0, none⟩) (by simp) _).far (p := ⟨g + 1, 0, none⟩) (by simp) _).set_ 0 c',
   ((h.d.far (p := ⟨g, 0, none⟩) (by simp) _).far (p := ⟨g + 1, 0, none⟩) (by simp) _).far (p := ⟨g + 2, 0, none⟩) (by simp) _⟩
theorem Vr.cells {w : World} {g : Nat} {a b c d : Value} (h : Vr w g a b c d) : w.cell? ⟨g, 0, none⟩ = some a ∧ w.cell? ⟨g + 1, 0, none⟩ = some b ∧ w.cell? ⟨g + 2, 0, none⟩ = some c ∧ w.cell? ⟨g + 3, 0, none⟩ = some d :=
  ⟨h.a.cell 0, h.b.cell 0, h.c.cell 0, h.d.cell 0⟩
theorem Vr.free {w : World} {g : Nat} {a b c d : Value} (h : Vr w g a b c d) : w.frozen? ⟨g, 0, none⟩ = false ∧ w.frozen? ⟨g + 1, 0, none⟩ = false ∧ w.frozen? ⟨g + 2, 0, none⟩ = false ∧ w.frozen? ⟨g + 3, 0, none⟩ = false :=
  ⟨h.a.frozen 0, h.b.frozen 0, h.c.frozen 0, h.d.frozen 0⟩
theorem below_set4 {w0 w : World} {g : Nat} (h : Below g w0 w) (a' b' c' d' : Value) : Below g w0 ((((w.setCell ⟨g, 0, none⟩ a').setCell ⟨g + 1, 0, none⟩ b').setCell ⟨g + 2, 0, none⟩ c').setCell ⟨g + 3, 0, none⟩ d') :=
  (((h.setCell (p := ⟨g, 0, none⟩) (Nat.le_refl _) _).setCell (p := ⟨g + 1, 0, none⟩) (by simp) _).setCell (p := ⟨g + 2, 0, none⟩) (by simp) _).setCell (p := ⟨g + 3, 0, none⟩) (by simp) _
theorem below_setq {w0 w : World} {g : Nat} (h : Below g w0 w) (a' b' c' : Value) : Below g w0 (((w.setCell ⟨g, 0, none⟩ a').setCell ⟨g + 1, 0, none⟩ b').setCell ⟨g + 2, 0, none⟩ c') :=
  ((h.setCell (p := ⟨g, 0, none⟩) (Nat.le_refl _) _).setCell (p := ⟨g + 1, 0, none⟩) (by simp) _).setCell (p := ⟨g + 2, 0, none⟩) (by simp) _
set_option maxRecDepth 100000 in
set_option maxHeartbeats 2000000 in
/-- the deferred closure, in a frame that panics -/
theorem catch_panic (g : Nat) (a b c d : Value) (w : World) (h : Vr w g a b c d) :
    CallsD Tryd.prog 20 #[.pointer (some ⟨g, 0, none⟩), .pointer (some ⟨g + 1, 0, none⟩), .pointer (some ⟨g + 2, 0, none⟩), .pointer (some ⟨g + 3, 0, none⟩)] (.panicking errC) w fun e u' w' =>
      e = .returned (.tuple #[]) ∧ u' = .panicking [{ v := .iface 30 (.int .i64 270), recovered := true }] ∧ Vr w' g (.int .u8 0) (.int .i64 0) (.slice none 0 0) (.int .i64 270) ∧ Below g w w' := by
  have h2 := (h.set (.int .u8 0) (.int .i64 0) (.slice none 0 0) (.int .i64 270)).drew
  have hb := (below_set4 (Below.refl g w) (.int .u8 0) (.int .i64 0) (.slice none 0 0) (.int .i64 270)).drew
  obtain ⟨c0, c1, c2, c3⟩ := h.cells
  obtain ⟨f0, f1, f2, f3⟩ := h.free
  have H2 := Lib.hid h2; have HB := Lib.hid hb
  clear h h2 hb
  have hta : ∀ w : World, (Instr.typeAssert (Value.iface 30 (Value.int IntKind.i64 270)) 20 30 false).run Tryd.prog w = .ok (Value.int IntKind.i64 270) w := fun w => by kernel_rfl
  refine callsD_of_wpS Tryd.func20 rfl fun c₀ cs hu => ?_
  unfold errC at hu
  apply wpS_seq
  apply wpS_region
  simp [wpOpsS, go_sem, recoverD, hu, Tryd.ntmps20, Exit.thenS]
  refine wpS_of_wp ?_
  change Code.wp _ _ _ { tmps := #[.pointer (some ⟨g, 0, none⟩), .pointer (some ⟨g + 1, 0, none⟩), .pointer (some ⟨g + 2, 0, none⟩), .pointer (some ⟨g + 3, 0, none⟩), .iface 30 (.int .i64 270), .iface 30 (.int .i64 270), undef, undef, undef, undef], defers := [] } _
  go_wp2
  go_region
  exact ⟨rfl, _, rfl, _, results_none rfl _ _ _, rfl, rfl, H2.out, HB.out⟩
set_option maxRecDepth 100000 in
set_option maxHeartbeats 2000000 in
/-- the same in a frame that returns -/
theorem catch_idle (g : Nat) (w : World) :
    CallsD Tryd.prog 20 #[.pointer (some ⟨g, 0, none⟩), .pointer (some ⟨g + 1, 0, none⟩), .pointer (some ⟨g + 2, 0, none⟩), .pointer (some ⟨g + 3, 0, none⟩)] .returning w fun e u' w' =>
      e = .returned (.tuple #[]) ∧ u' = .returning ∧ w = w' := by
  refine callsD_of_wpS Tryd.func20 rfl fun c₀ cs hu => ?_
  apply wpS_seq
  apply wpS_region
  simp [wpOpsS, go_sem, recoverD, hu, Tryd.ntmps20, Exit.thenS]
  refine wpS_of_wp ?_
  change Code.wp _ _ _ { tmps := #[.pointer (some ⟨g, 0, none⟩), .pointer (some ⟨g + 1, 0, none⟩), .pointer (some ⟨g + 2, 0, none⟩), .pointer (some ⟨g + 3, 0, none⟩), .nilIface, .nilIface, undef, undef, undef, undef], defers := [] } _
  go_wp2
  exact ⟨rfl, _, by rw [← hu], _, results_none rfl _ _ _, rfl, rfl, rfl⟩
theorem Vr.new (w : World) (a b c d : Value) : Vr ((((w.alloc (.cells #[a] 5)).alloc (.cells #[b] 3)).alloc (.cells #[c] 24)).alloc (.cells #[d] 30)) w.heap.size a b c d := by
  have h1 := Blk.new w 5 #[a]
  have h2 := Blk.new (w.alloc (.cells #[a] 5)) 3 #[b]
  have h3 := Blk.new ((w.alloc (.cells #[a] 5)).alloc (.cells #[b] 3)) 24 #[c]
  have h4 := Blk.new (((w.alloc (.cells #[a] 5)).alloc (.cells #[b] 3)).alloc (.cells #[c] 24)) 30 #[d]
  rw [show (w.alloc (.cells #[a] 5)).heap.size = w.heap.size + 1 by simp] at h2
  rw [show ((w.alloc (.cells #[a] 5)).alloc (.cells #[b] 3)).heap.size = w.heap.size + 2 by simp] at h3
  rw [show (((w.alloc (.cells #[a] 5)).alloc (.cells #[b] 3)).alloc (.cells #[c] 24)).heap.size = w.heap.size + 3 by simp] at h4
  exact ⟨((h1.alloc _).alloc _).alloc _, (h2.alloc _).alloc _, h3.alloc _, h4⟩
theorem own_setq {w : World} {B : Nat} {v : Value} {n : Nat} {xs : List Value} {g : Nat} {a b c d : Value} (h : w.ownsRow B 2 1 v n xs) (hv : Vr w g a b c d) (a' b' c' : Value) :
    (((w.setCell ⟨g, 0, none⟩ a').setCell ⟨g + 1, 0, none⟩ b').setCell ⟨g + 2, 0, none⟩ c').ownsRow B 2 1 v n xs := by
  refine own_keep h fun k cs fz hk => ?_
  have ne : ∀ {j : Nat} {t : TypeId} {cs' : Array Value}, Blk w j t cs' → t ≠ 2 → k ≠ j := fun hb ht e => by
    subst e
    unfold Blk at hb
    rw [hb] at hk
    injection hk with hk
    injection hk with _ hk
    exact ht hk
  rw [Below.heap_setCell _ _ _ _ (ne hv.c (by decide)), Below.heap_setCell _ _ _ _ (ne hv.b (by decide)), Below.heap_setCell _ _ _ _ (ne hv.a (by decide))]
/-- the same behind the fourth store -/
theorem own_setd {w : World} {B : Nat} {v : Value} {n : Nat} {xs : List Value} {g : Nat} {a b c d : Value} (h : w.ownsRow B 2 1 v n xs) (hv : Vr w g a b c d) (a' b' c' d' : Value) :
    ((((w.setCell ⟨g, 0, none⟩ a').setCell ⟨g + 1, 0, none⟩ b').setCell ⟨g + 2, 0, none⟩ c').setCell ⟨g + 3, 0, none⟩ d').ownsRow B 2 1 v n xs := by
  refine own_keep (own_setq h hv a' b' c') fun k cs fz hk => Below.heap_setCell _ _ _ _ fun e => ?_
  subst e
  have := (hv.set3 a' b' c').d
  unfold Blk at this
  rw [this] at hk
  injection hk with hk
  injection hk with _ hk
  exact absurd hk (by decide)
theorem rds_no {s : ByteArray} {w w' : World} {e : Ending} (hb : Below w.heap.size w w') (h : ∀ k st vs, s.size ≤ 262144 → ¬ IsRep k st vs s) (he : e = .returned (.tuple #[.int .u8 0, .int .i64 0, .slice none 0 0, .int .i64 (if 262144 < s.size then 3 else 270)])) : RdS s w e w' := ⟨hb, .inr ⟨h, he⟩⟩
theorem rds_yes {s : ByteArray} {w w' : World} {e : Ending} {k st : Int} {vs : List Int} {A : Option Addr} {c : Nat} (hb : Below w.heap.size w w') (h : IsRep k st vs s) (hs : s.size ≤ 262144) (he : e = .returned (.tuple #[.int .u8 k, .int .i64 st, .slice A vs.length c, .int .i64 0])) (hr : Rd w' 1 A vs.length (vs.map (Value.int .i64))) : RdS s w e w' := ⟨hb, .inl ⟨k, st, vs, A, c, h, hs, he, hr⟩⟩
theorem no_guess {s : ByteArray} (h : guessP ((linesP s).map (·.data.toList)) = none) : ∀ k st vs, s.size ≤ 262144 → ¬ IsRep k st vs s := fun k st vs _ hr => by
  have h1 := (isRep_guess hr).1
  rw [linesP_eq, List.map_map] at h
  have e : ((fun x : ByteArray => x.data.toList) ∘ ba) = id := funext fun x => ba_toList x
  rw [e, List.map_id, h1] at h
  cases h
theorem one_guess {s : ByteArray} {k st : Int} {vs : List Int} (h : guessP ((linesP s).map (·.data.toList)) = some (k, st, vs)) (hn : ¬ IsRep k st vs s) : ∀ k st vs, s.size ≤ 262144 → ¬ IsRep k st vs s := fun k' st' vs' _ hr => by
  have h1 := (isRep_guess hr).1
  rw [linesP_eq, List.map_map] at h
  have e : ((fun x : ByteArray => x.data.toList) ∘ ba) = id := funext fun x => ba_toList x
  rw [e, List.map_id, h1] at h
  injection h with h
  injection h with h1 h
  injection h with h2 h3
  subst h1 h2 h3
  exact hn hr
set_option maxRecDepth 100000 in
set_option maxHeartbeats 4000000 in
theorem pRead_any (w : World) (hG : Gl w) (s : ByteArray) : Calls Tryd.prog 10 #[.string s] w (RdS s w) := by
  have hmf : ∀ (fn : Fn) (first cap : Array Value) (w : World), (Instr.makeFunc fn first cap).run Tryd.prog w = .ok (.func fn first cap) w := fun _ _ _ _ => rfl
  have hV0 := Vr.new w (.int .u8 0) (.int .i64 0) (.slice none 0 0) (.int .i64 0)
  have hB0 := ((((Below.refl w.heap.size w).alloc (Nat.le_refl _) (.cells #[.int .u8 0] 5)).alloc (by simp) (.cells #[.int .i64 0] 3)).alloc (by simp; omega) (.cells #[.slice none 0 0] 24)).alloc (by simp; omega) (.cells #[.int .i64 0] 30)
  by_cases hs : 262144 < s.size
  · have hsb : decide ((262144 : Int) < (s.size : Int)) = true := by simp; omega
    have hsI : (262144 : Int) < (s.size : Int) := by omega
    have HIF := Lib.hid (show (if 262144 < s.size then (3 : Int) else 270) = 3 from if_pos hs)
    have HNO := Lib.hid (show ∀ k st vs, s.size ≤ 262144 → ¬ IsRep k st vs s from fun _ _ _ h => by omega)
    have hb4 := ((((Below.refl w.heap.size w).alloc (Nat.le_refl _) (.cells #[.int .u8 0] 5)).alloc (by simp) (.cells #[.int .i64 0] 3)).alloc (by simp; omega) (.cells #[.slice none 0 0] 24)).alloc (by simp; omega) (.cells #[.int .i64 3] 30)
    have HB4 := Lib.hid hb4
    clear hV0 hB0 hG hs hb4
    go_enter_defers Tryd.func10, Tryd.ntmps10
    go_wp2
    refine ⟨.tuple #[.int .u8 0, .int .i64 0, .slice none 0 0, .int .i64 3], by simp [results, Tryd.results10, go_sem], rds_no HB4.out HNO.out (by rw [HIF.out])⟩
  have hs' : s.size ≤ 262144 := by omega
  have hsb : decide ((262144 : Int) < (s.size : Int)) = false := by simp; omega
  have hsI : ¬ (262144 : Int) < (s.size : Int) := by omega
  have HIF := Lib.hid (show (if 262144 < s.size then (3 : Int) else 270) = 270 from if_neg hs)
  have hrd := read_any _ (hG.below hB0) s hs'
  obtain ⟨Gs, hgs⟩ : ∃ Gs, guessP ((linesP s).map (·.data.toList)) = Gs := ⟨_, rfl⟩
  rw [hgs] at hrd
  have HV0 := Lib.hid hV0; have HB0 := Lib.hid hB0; have HRD := Lib.hid hrd; have HGS := Lib.hid hgs; have HG := Lib.hid hG
  clear hV0 hB0 hrd hgs hG hs
  go_enter_defers Tryd.func10, Tryd.ntmps10
  go_wp2_with fail
  refine HRD.out.mono ?_
  rintro e w5 ⟨hb5, he⟩
  have hB5 := HB0.out.trans (hb5.mono HB0.out.size)
  have hV5 := HV0.out.below hb5 (by simp)
  have hz5 : w.heap.size + 4 ≤ w5.heap.size := by have := hb5.size; simpa using this
  cases Gs with
  | none =>
    dsimp only at he
    subst he
    have HNO := Lib.hid (no_guess HGS.out); have HB5 := Lib.hid hB5; have HV5 := Lib.hid hV5
    clear hB5 hV5 hb5
    refine leaves_cons (f := 20) (args := #[.pointer (some ⟨w.heap.size, 0, none⟩), .pointer (some ⟨w.heap.size + 1, 0, none⟩), .pointer (some ⟨w.heap.size + 2, 0, none⟩), .pointer (some ⟨w.heap.size + 3, 0, none⟩)]) (by simp) (by simp [go_sem]) ?_
    refine (catch_panic w.heap.size _ _ _ _ _ HV5.out).mono ?_
    rintro e u w9 ⟨rfl, rfl, hv, hb⟩
    obtain ⟨c0, c1, c2, c3⟩ := hv.cells
    refine ⟨.tuple #[.int .u8 0, .int .i64 0, .slice none 0 0, .int .i64 270], by simp [results, Tryd.results10, go_sem, c0, c1, c2, c3], rds_no (HB5.out.trans hb) HNO.out (by rw [HIF.out])⟩
  | some x =>
    obtain ⟨k, st, vs⟩ := x
    dsimp only at he
    obtain ⟨A, c, rfl, ho⟩ := he
    obtain ⟨hk, hst, hvl⟩ := guessP_bd HGS.out
    have hV6 := hV5.set3 (.int .u8 k) (.int .i64 st) (.slice A vs.length c)
    have hO6 := own_setq ho hV5 (.int .u8 k) (.int .i64 st) (.slice A vs.length c)
    have hB6 := below_setq hB5 (.int .u8 k) (.int .i64 st) (.slice A vs.length c)
    obtain ⟨c0, c1, c2, c3⟩ := hV5.cells
    obtain ⟨f0, f1, f2, f3⟩ := hV5.free
    obtain ⟨W6, hW6⟩ : ∃ W6, ((w5.setCell ⟨w.heap.size, 0, none⟩ (.int .u8 k)).setCell ⟨w.heap.size + 1, 0, none⟩ (.int .i64 st)).setCell ⟨w.heap.size + 2, 0, none⟩ (.slice A vs.length c) = W6 := ⟨_, rfl⟩
    rw [hW6] at hV6 hO6 hB6
    have hz6 : w.heap.size + 4 ≤ W6.heap.size := by rw [← hW6]; simpa using hz5
    have HMAY := Lib.hid (may_any W6 k st A c vs (by omega) (Rd.of_own hO6) (by omega))
    have HV6 := Lib.hid hV6; have HO6 := Lib.hid hO6; have HB6 := Lib.hid hB6; have HW6 := Lib.hid hW6
    have hkw : 0 ≤ k ∧ k ≤ 255 := by omega
    obtain ⟨d0, d1, d2, d3⟩ := hV6.cells
    have HD := Lib.hid (And.intro d0 (And.intro d1 d2))
    clear hV6 hO6 hB6 hW6 hb5 ho hB5 hV5 d0 d1 d2 d3 HRD HV0 HB0
    obtain ⟨d0, d1, d2⟩ := HD.out
    go_wp2_with fail
    rw [HW6.out]
    refine HMAY.out.mono ?_
    rintro e w7 ⟨rfl, hb7⟩
    have hV7 := HV6.out.below hb7 hz6
    have hO7 := own_below2 HO6.out hb7
    have hB7 := HB6.out.trans (hb7.mono HB6.out.size)
    have hz7 := Nat.le_trans hz6 hb7.size
    cases hm : mayR k st vs with
    | false =>
      have HNO := Lib.hid (one_guess HGS.out (fun h => by have := h.1; rw [hm] at this; cases this)); have HV7 := Lib.hid hV7; have HB7 := Lib.hid hB7
      clear hV7 hO7 hB7 hb7 hm HW6 HD d0 d1 d2
      go_wp2_with fail
      refine (need_no _).mono ?_
      rintro e w8 ⟨rfl, rfl⟩
      refine leaves_cons (f := 20) (args := #[.pointer (some ⟨w.heap.size, 0, none⟩), .pointer (some ⟨w.heap.size + 1, 0, none⟩), .pointer (some ⟨w.heap.size + 2, 0, none⟩), .pointer (some ⟨w.heap.size + 3, 0, none⟩)]) (by simp) (by simp [go_sem]) ?_
      refine (catch_panic w.heap.size _ _ _ _ _ HV7.out).mono ?_
      rintro e u w9 ⟨rfl, rfl, hv, hb⟩
      obtain ⟨c0, c1, c2, c3⟩ := hv.cells
      refine ⟨.tuple #[.int .u8 0, .int .i64 0, .slice none 0 0, .int .i64 270], by simp [results, Tryd.results10, go_sem, c0, c1, c2, c3], rds_no (HB7.out.trans hb) HNO.out (by rw [HIF.out])⟩
    | true =>
      have HWR := Lib.hid (write_any w7 (HG.out.below hB7) k st A c vs (Rd.of_own hO7) (rep_of hm))
      have HM := Lib.hid hm; have HV7 := Lib.hid hV7; have HO7 := Lib.hid hO7; have HB7 := Lib.hid hB7
      obtain ⟨e0, e1, e2, e3⟩ := hV7.cells
      clear hV7 hO7 hB7 hb7 hm HW6 HD d0 d1 d2
      go_wp2_with fail
      refine HWR.out.mono ?_
      rintro e w8 ⟨rfl, hb8⟩
      have hV8 := HV7.out.below hb8 hz7
      have hO8 := own_below2 HO7.out hb8
      have hB8 := HB7.out.trans (hb8.mono HB7.out.size)
      obtain ⟨q, hq⟩ : ∃ q, textB k st vs = q := ⟨_, rfl⟩
      rw [hq]
      by_cases hqs : q = s
      · subst hqs
        have hb1 : (q.toList == q.toList) = true := by simp
        have HREP := Lib.hid (show IsRep k st vs q from ⟨HM.out, hq⟩)
        have hV9 := (hV8.set (.int .u8 k) (.int .i64 st) (.slice A vs.length c) (.int .i64 0)).drew
        have hO9 := (own_setd hO8 hV8 (.int .u8 k) (.int .i64 st) (.slice A vs.length c) (.int .i64 0)).drew
        have hB9 := (below_set4 hB8 (.int .u8 k) (.int .i64 st) (.slice A vs.length c) (.int .i64 0)).drew
        obtain ⟨W9, hW9⟩ : ∃ W9, ((((w8.setCell ⟨w.heap.size, 0, none⟩ (.int .u8 k)).setCell ⟨w.heap.size + 1, 0, none⟩ (.int .i64 st)).setCell ⟨w.heap.size + 2, 0, none⟩ (.slice A vs.length c)).setCell ⟨w.heap.size + 3, 0, none⟩ (.int .i64 0)).drew = W9 := ⟨_, rfl⟩
        rw [hW9] at hV9 hO9 hB9
        have HW9 := Lib.hid hW9
        clear hW9
        obtain ⟨g0, g1, g2, g3⟩ := hV8.cells
        obtain ⟨f0, f1, f2, f3⟩ := hV8.free
        have HV9 := Lib.hid hV9; have HO9 := Lib.hid hO9; have HB9 := Lib.hid hB9
        clear hV9 hO9 hB9 hV8 hO8 hB8 hb8 hq e0 e1 e2 e3 c0 c1 c2 c3
        go_wp2_with fail
        refine (need_yes _).mono ?_
        rintro e w9 ⟨rfl, rfl⟩
        go_wp2_with fail
        go_region
        rw [HW9.out]
        go_wp2
        refine leaves_cons (f := 20) (args := #[.pointer (some ⟨w.heap.size, 0, none⟩), .pointer (some ⟨w.heap.size + 1, 0, none⟩), .pointer (some ⟨w.heap.size + 2, 0, none⟩), .pointer (some ⟨w.heap.size + 3, 0, none⟩)]) (by simp) (by simp [go_sem]) ?_
        refine (catch_idle w.heap.size _).mono ?_
        rintro e u w10 ⟨rfl, rfl, rfl⟩
        obtain ⟨c0, c1, c2, c3⟩ := HV9.out.cells
        refine ⟨.tuple #[.int .u8 k, .int .i64 st, .slice A vs.length c, .int .i64 0], by simp [results, Tryd.results10, go_sem, c0, c1, c2, c3], rds_yes HB9.out HREP.out hs' rfl (Rd.of_own HO9.out)⟩
      · have hb1 : (q.toList == s.toList) = false := by
          rw [ByteArray.toList_eq, ByteArray.toList_eq]
          simp only [beq_eq_false_iff_ne, ne_eq]
          exact fun e => hqs (by rw [← ba_of q, e, ba_of s])
        have HNO := Lib.hid (one_guess HGS.out (fun h => hqs (hq.symm.trans h.2)))
        have HV8 := Lib.hid hV8; have HB8 := Lib.hid hB8
        clear hV8 hO8 hB8 hb8 hq hqs e0 e1 e2 e3 c0 c1 c2 c3
        go_wp2_with fail
        refine (need_no _).mono ?_
        rintro e w9 ⟨rfl, rfl⟩
        refine leaves_cons (f := 20) (args := #[.pointer (some ⟨w.heap.size, 0, none⟩), .pointer (some ⟨w.heap.size + 1, 0, none⟩), .pointer (some ⟨w.heap.size + 2, 0, none⟩), .pointer (some ⟨w.heap.size + 3, 0, none⟩)]) (by simp) (by simp [go_sem]) ?_
        refine (catch_panic w.heap.size _ _ _ _ _ HV8.out).mono ?_
        rintro e u w9 ⟨rfl, rfl, hv, hb⟩
        obtain ⟨c0, c1, c2, c3⟩ := hv.cells
        refine ⟨.tuple #[.int .u8 0, .int .i64 0, .slice none 0 0, .int .i64 270], by simp [results, Tryd.results10, go_sem, c0, c1, c2, c3], rds_no (HB8.out.trans hb) HNO.out (by rw [HIF.out])⟩
end Go.Proofs.YtggegefeagkhkaaDoor
