/- The reference's mail of a vertex. -/
import Derived.Test.YtbmjmpojabbegaaInbF
namespace Go.Proofs.Ytbmjmpojabbegaa
open Go.RowKit

/-- rows of messages -/
def RsRs (w : World) (A : Option Addr) (L : List (List (Int × Int))) : Prop :=
  ∃ vs : List Value, Sl w 1 A L.length vs ∧ ∀ (i : Nat) (l : List (Int × Int)), L[i]? = some l → ∃ A' c, vs[i]? = some (Value.slice A' l.length c) ∧ l.length ≤ c ∧ Rs msgC 2 w A' l
theorem RsRs.below {w w' : World} {A : Option Addr} {L : List (List (Int × Int))} (h : RsRs w A L) (hb : Below w.heap.size w w') : RsRs w' A L := by
  obtain ⟨vs, h1, h2⟩ := h
  refine ⟨vs, h1.below hb, fun i l hl => ?_⟩
  obtain ⟨A', c, e, hc, hr⟩ := h2 i l hl
  exact ⟨A', c, e, hc, hr.below hb⟩
theorem RsRs.at_ {w : World} {A : Option Addr} {L : List (List (Int × Int))} (h : RsRs w A L) {i : Nat} (hi : i < L.length) :
    ∃ b o l A' c, A = some ⟨b, o, none⟩ ∧ b < w.heap.size ∧ L[i]? = some l ∧ l.length ≤ c ∧ Rs msgC 2 w A' l ∧ w.cell? ⟨b, o + i, none⟩ = some (.slice A' l.length c) := by
  obtain ⟨vs, h1, h2⟩ := h
  obtain ⟨b, o, hA, hb, hc⟩ := h1.2 (by omega)
  obtain ⟨A', c, e, hcc, hr⟩ := h2 i _ (List.getElem?_eq_getElem hi)
  exact ⟨b, o, _, A', c, hA, hb, List.getElem?_eq_getElem hi, hcc, hr, hc i _ e⟩
/-- the mail of a vertex, one message more -/
def mailS (k v : Int) (m : Bool × Int) (x : Int × Int) : Bool × Int := if x.1 = v then (true, if m.1 then combD k m.2 x.2 else x.2) else m
def mailL (k v : Int) (l : List (Int × Int)) : Bool × Int := l.foldl (mailS k v) (false, 0)
theorem mailL_snoc {k v : Int} {p l : List (Int × Int)} {i : Nat} {x : Int × Int} (h : l[i]? = some x) : mailL k v (p ++ l.take (i + 1)) = mailS k v (mailL k v (p ++ l.take i)) x := by
  unfold mailL
  rw [take_snoc_ h, ← List.append_assoc, List.foldl_append]; rfl
/-- what the mail's round keeps -/
structure MailSt (w wr : World) (k s o d e' : Int) (m : Bool × Int) : Prop where
  below : Below w.heap.size w wr
  job : Blk wr w.heap.size 23 #[.int .u8 k, .int .i64 s, .int .i64 o, .int .i64 d, .int .i64 e']
  res : Blk wr (w.heap.size + 1) 43 #[.bool false, .int .i64 0]
  mail : Blk wr (w.heap.size + 2) 43 #[.bool m.1, .int .i64 m.2]
theorem MailSt.lt {w wr : World} {k s o d e' : Int} {m : Bool × Int} (h : MailSt w wr k s o d e' m) : w.heap.size + 2 < wr.heap.size := h.mail.lt
theorem MailSt.step {w wr w' : World} {k s o d e' : Int} {m : Bool × Int} (h : MailSt w wr k s o d e' m) (hb : Below wr.heap.size wr w') : MailSt w w' k s o d e' m :=
  have := h.lt
  ⟨h.below.trans (hb.mono (by omega)), h.job.below hb (by omega), h.res.below hb (by omega), h.mail.below hb h.lt⟩
theorem MailSt.put1 {w wr : World} {k s o d e' : Int} {m : Bool × Int} (h : MailSt w wr k s o d e' m) (n : Int) : MailSt w (wr.setCell ⟨w.heap.size + 2, 1, none⟩ (.int .i64 n)) k s o d e' (m.1, n) :=
  ⟨h.below.setCell (p := ⟨w.heap.size + 2, 1, none⟩) (by show w.heap.size ≤ w.heap.size + 2; omega) _, h.job.far (p := ⟨w.heap.size + 2, 1, none⟩) (by show w.heap.size ≠ w.heap.size + 2; omega) _, h.res.far (p := ⟨w.heap.size + 2, 1, none⟩) (by show w.heap.size + 1 ≠ w.heap.size + 2; omega) _, h.mail.set_ 1 _⟩
theorem MailSt.put {w wr : World} {k s o d e' : Int} {m : Bool × Int} (h : MailSt w wr k s o d e' m) (b : Bool) (n : Int) : MailSt w ((wr.setCell ⟨w.heap.size + 2, 0, none⟩ (.bool b)).setCell ⟨w.heap.size + 2, 1, none⟩ (.int .i64 n)) k s o d e' (b, n) := by
  have h1 : MailSt w (wr.setCell ⟨w.heap.size + 2, 0, none⟩ (.bool b)) k s o d e' (b, m.2) :=
    ⟨h.below.setCell (p := ⟨w.heap.size + 2, 0, none⟩) (by show w.heap.size ≤ w.heap.size + 2; omega) _, h.job.far (p := ⟨w.heap.size + 2, 0, none⟩) (by show w.heap.size ≠ w.heap.size + 2; omega) _, h.res.far (p := ⟨w.heap.size + 2, 0, none⟩) (by show w.heap.size + 1 ≠ w.heap.size + 2; omega) _, h.mail.set_ 0 _⟩
  exact h1.put1 n
attribute [local go_sem ↓] Go.wp_at_zero Go.wp_at_succ
set_option maxRecDepth 100000 in
set_option maxHeartbeats 4000000 in
theorem refMail_any (w : World) (k s o d e' v : Int) (A : Option Addr) (c : Nat) (L : List (List (Int × Int))) (h : RsRs w A L) (hl : L.length ≤ 1000000000) (hll : ∀ l ∈ L, l.length ≤ 1000000000) :
    Calls Try.prog 26 #[.agg #[.int .u8 k, .int .i64 s, .int .i64 o, .int .i64 d, .int .i64 e'], .int .i64 v, .slice A L.length c] w fun e w' => e = .returned (.agg #[.bool (mailL k v L.flatten).1, .int .i64 (mailL k v L.flatten).2]) ∧ Below w.heap.size w w' := by
  have HR := Lib.hid h; have HLL := Lib.hid hll
  have h0 : MailSt w (((w.alloc (.cells #[.int .u8 k, .int .i64 s, .int .i64 o, .int .i64 d, .int .i64 e'] 23)).alloc (.cells #[.bool false, .int .i64 0] 43)).alloc (.cells #[.bool false, .int .i64 0] 43)) k s o d e' (false, 0) := by
    have k2 := (Blk.new (w.alloc (.cells #[.int .u8 k, .int .i64 s, .int .i64 o, .int .i64 d, .int .i64 e'] 23)) 43 #[.bool false, .int .i64 0]).alloc (.cells #[.bool false, .int .i64 0] 43)
    have k3 := Blk.new ((w.alloc (.cells #[.int .u8 k, .int .i64 s, .int .i64 o, .int .i64 d, .int .i64 e'] 23)).alloc (.cells #[.bool false, .int .i64 0] 43)) 43 #[.bool false, .int .i64 0]
    rw [show (w.alloc (.cells #[.int .u8 k, .int .i64 s, .int .i64 o, .int .i64 d, .int .i64 e'] 23)).heap.size = w.heap.size + 1 from by simp] at k2
    rw [show ((w.alloc (.cells #[.int .u8 k, .int .i64 s, .int .i64 o, .int .i64 d, .int .i64 e'] 23)).alloc (.cells #[.bool false, .int .i64 0] 43)).heap.size = w.heap.size + 2 from by simp] at k3
    exact ⟨(((Below.refl _ _).alloc (Nat.le_refl _) _).alloc (by simp) _).alloc (by simp; omega) _, ((Blk.new w _ _).alloc _).alloc _, k2, k3⟩
  have H0 := Lib.hid h0
  clear h hll h0
  go_enter Try.func26, Try.ntmps26
  go_wp2
  go_loopg [8] L.length (fun gf vi wr => ∃ i : Nat, vi = .int .i64 i ∧ i + gf = L.length ∧ MailSt w wr k s o d e' (mailL k v (L.take i).flatten))
  case atStart => exact ⟨0, rfl, by omega, H0.out⟩
  case round =>
    clear H0
    obtain ⟨i, rfl, hi, hst⟩ := hrel
    cases gk with
    | zero =>
      obtain rfl : i = L.length := by omega
      rw [List.take_length] at hst
      have m0 := hst.mail.cell 0; have m1 := hst.mail.cell 1; have r0 := hst.res.cell 0; have r1 := hst.res.cell 1
      have f0 := hst.res.frozen 0; have f1 := hst.res.frozen 1
      simp only [List.getElem?_toArray, List.getElem?_cons_zero, List.getElem?_cons_succ] at m0 m1 r0 r1
      have hbb := (hst.below.setCell (p := ⟨w.heap.size + 1, 0, none⟩) (by simp) (.bool (mailL k v L.flatten).1)).setCell (p := ⟨w.heap.size + 1, 1, none⟩) (by simp) (.int .i64 (mailL k v L.flatten).2)
      have z0 := (hst.res.set_ 0 (.bool (mailL k v L.flatten).1)).cell 0
      have z1 := ((hst.res.set_ 0 (.bool (mailL k v L.flatten).1)).set_ 1 (.int .i64 (mailL k v L.flatten).2)).cell 1
      have HBB := Lib.hid hbb; have Z0 := Lib.hid z0; have Z1 := Lib.hid z1
      clear z0 z1
      clear hst hbb
      go_wp2
      have z0 := Z0.out; have z1 := Z1.out
      simp at z0 z1
      exact bodyPost_ret (v := .agg #[.bool (mailL k v L.flatten).1, .int .i64 (mailL k v L.flatten).2]) (by simp [results, Try.results26, go_sem, z0, z1]) rfl ⟨rfl, HBB.out⟩
    | succ gf =>
      have hiI : (i : Int) < (L.length : Int) := by omega
      obtain ⟨b, oo, l, A', c', rfl, hb, hx, hcc, hr, hcell⟩ := HR.out.at_ (i := i) (by omega)
      have hlm := HLL.out l (List.mem_of_getElem? hx)
      have htk : (L.take (i + 1)).flatten = (L.take i).flatten ++ l := by rw [take_snoc_ hx]; simp
      have H1 := Lib.hid hst; have HX := Lib.hid hx; have HTK := Lib.hid htk; have HRL := Lib.hid hr
      obtain ⟨p, hp⟩ : ∃ p, (L.take i).flatten = p := ⟨_, rfl⟩
      clear hst hx htk hr
      go_wp2
      go_loopg [9] l.length (fun gf vi wr => ∃ j : Nat, vi = .int .i64 j ∧ j + gf = l.length ∧ MailSt w wr k s o d e' (mailL k v (p ++ l.take j)))
      case atStart => exact ⟨0, rfl, by omega, by have := H1.out; rw [hp] at this; simpa using this⟩
      case round =>
        clear H1
        obtain ⟨j, rfl, hj, hst⟩ := hrel
        have hc0 := (hst.below.cell (p := ⟨b, oo + i, none⟩) hb).trans hcell
        cases gk with
        | zero =>
          obtain rfl : j = l.length := by omega
          have H2 := Lib.hid hst
          clear hst
          go_wp2
          go_roundg gf
          case measure => omega
          case rel => exact ⟨i + 1, by go_num, by omega, by rw [HTK.out, hp]; have := H2.out; rwa [List.take_length] at this⟩
        | succ gf2 =>
          have hjI : (j : Int) < (l.length : Int) := by omega
          obtain ⟨b2, o2, x, rfl, _, hx, x1, x2⟩ := msg_at (HRL.out.below hst.below) (i := j) (by omega)
          have hs := mailL_snoc (k := k) (v := v) (p := p) hx
          have hsA := hst.step ((Below.refl _ _).alloc (Nat.le_refl _) (.cells #[.int .i64 x.1, .int .i64 x.2] 29))
          obtain ⟨⟨mb, mv⟩, hm⟩ : ∃ m, mailL k v (p ++ l.take j) = m := ⟨_, rfl⟩
          rw [hm] at hsA hs
          have n0 := hsA.mail.cell 0; have n1 := hsA.mail.cell 1; have f0 := hsA.mail.frozen 0; have f1 := hsA.mail.frozen 1
          have j0 := hsA.job.cell 0; have j1 := hsA.job.cell 1; have j2 := hsA.job.cell 2; have j3 := hsA.job.cell 3; have j4 := hsA.job.cell 4
          simp only [List.getElem?_toArray, List.getElem?_cons_zero, List.getElem?_cons_succ] at j0 j1 j2 j3 j4 n0 n1
          have HSA := Lib.hid hsA; have HS := Lib.hid hs
          clear hst hsA hx hs hm
          by_cases hxv : x.1 = v
          · have hne : (x.1 != v) = false := by simp [hxv]
            have hv2 : mailS k v (mb, mv) x = (true, if mb then combD k mv x.2 else x.2) := by unfold mailS; rw [if_pos hxv]
            have HV := Lib.hid hv2
            clear hxv hv2
            cases mb with
            | true =>
              go_wp2_with fail
              refine (refComb_any _ _ _ _ _ _ _ _).mono ?_
              rintro e w2 ⟨rfl, hb2⟩
              have hs2 := HSA.out.step hb2
              have q1 := hs2.mail.cell 1
              have g1 := hs2.mail.frozen 1
              have HS2 := Lib.hid (hs2.put1 (combD k mv x.2))
              clear hs2 hb2 n0 n1 f0 f1 j0 j1 j2 j3 j4
              go_wp2
              go_roundg gf2
              case measure => omega
              case rel => exact ⟨j + 1, by go_num, by omega, by rw [HS.out, HV.out]; exact HS2.out⟩
            | false =>
              have HS2 := Lib.hid (HSA.out.put true x.2)
              go_wp2
              go_roundg gf2
              case measure => omega
              case rel => exact ⟨j + 1, by go_num, by omega, by rw [HS.out, HV.out]; exact HS2.out⟩
          · have hne : (x.1 != v) = true := by simp [hxv]
            have hv2 : mailS k v (mb, mv) x = (mb, mv) := by unfold mailS; rw [if_neg hxv]
            have HV := Lib.hid hv2
            clear hxv hv2
            go_wp2
            go_roundg gf2
            case measure => omega
            case rel => exact ⟨j + 1, by go_num, by omega, by rw [HS.out, HV.out]; exact HSA.out⟩
end Go.Proofs.Ytbmjmpojabbegaa
