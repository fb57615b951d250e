/- A checkpoint's file: its bytes. -/
import Derived.Test.YthmcimpdehgaoaaGreatDoorCkA
import Derived.Test.YthmcimpdehgaoaaGreatDoorMaE
import Derived.Test.YthmcimpdehgaoaaGreatDoorMaG
import Derived.Test.YthmcimpdehgaoaaGreatDoorMaI
namespace Go.Proofs.YthmcimpdehgaoaaGreatDoor
open Go.RowKit Go.Maps

set_option maxRecDepth 100000 in
set_option maxHeartbeats 2000000 in
theorem wRaw_any (w : World) (gw : Nat) (T s : ByteArray) (bv : Value) (hb : BtR w bv s) (h : WrIs w gw T) (hT : T.size + s.size ≤ 999999999) :
    Calls Tryz.prog 85 #[.pointer (some ⟨gw, 0, none⟩), bv] w fun e w' => e = .returned (.tuple #[]) ∧ WrIs w' gw (T ++ s) ∧ Moved w w' gw none := by
  have HD := Lib.hid (cloneR_any w bv s hb (by omega)); have HW := Lib.hid h
  have hlt := h.lt
  clear h hb
  go_enter Tryz.func85, Tryz.ntmps85
  go_wp2_with fail
  refine HD.out.mono ?_
  clear HD
  rintro e w1 ⟨v, rfl, hbt, -, hb⟩
  have hw1 := HW.out.below hb
  have HP := Lib.hid (put_all w1 gw T s v hw1 hbt (by omega))
  have HM := Lib.hid (Moved.of_below hb gw none)
  clear hb hw1 hbt HW
  go_wp2_with fail
  refine HP.out.mono ?_
  rintro e w2 ⟨rfl, h2, hm⟩
  have H2 := Lib.hid h2; have HM2 := Lib.hid (HM.out.trans hm (.inl rfl))
  clear HP h2 hm HM
  go_wp2
  go_end0
  exact ⟨rfl, H2.out, HM2.out⟩
/-- amid a file's bytes -/
structure FS (w wr : World) (g : Nat) (T : ByteArray) : Prop where
  is : WrIs wr g T
  below : Below w.heap.size w wr
  ge : w.heap.size ≤ g
theorem FS.mv {w w1 w2 : World} {g : Nat} {T T2 : ByteArray} (a : FS w w1 g T) (h : WrIs w2 g T2) (m : Moved w1 w2 g none) : FS w w2 g T2 :=
  ⟨h, a.below.trans (m.below a.ge (by simp) a.below.size), a.ge⟩
theorem FS.below_ {w w1 w2 : World} {g : Nat} {T : ByteArray} (a : FS w w1 g T) (hb : Below w1.heap.size w1 w2) : FS w w2 g T :=
  ⟨a.is.below hb, a.below.trans (hb.mono a.below.size), a.ge⟩
set_option maxRecDepth 100000 in
set_option maxHeartbeats 4000000 in
theorem cfile_any (w : World) (n : Nat) (hn : n ≤ 1073741824) (bv : Value) (b : ByteArray) (hb : BtR w bv b) (hbs : b.size ≤ 4194304) :
    Calls Tryz.prog 38 #[.int .i64 n, bv] w fun e w' => ∃ v, e = .returned v ∧ w'.ownsRow w.heap.size 5 1 v (fileC n b).size (ucells (fileC n b)) ∧ Below w.heap.size w w' := by
  obtain ⟨A, c, rfl, hc, -⟩ := id hb
  have h0 : FS w (w.alloc (.cells #[.pointer none, .int .i64 0] 118)) w.heap.size ⟨#[]⟩ := ⟨WrIs.new w, (Below.refl _ _).alloc (Nat.le_refl _) _, Nat.le_refl _⟩
  obtain ⟨g, hg⟩ : ∃ g, w.heap.size = g := ⟨_, rfl⟩
  have h1 := wByte_any (w.alloc (.cells #[.pointer none, .int .i64 0] 118)) w.heap.size ⟨#[]⟩ 67 (by decide) h0.is (by decide)
  simp only [Int.cast_ofNat_Int] at h1
  rw [hg] at h1 h0
  have hwn : IntKind.u64.wrap (n : Int) = (n : Int) := by rw [IntKind.wrap_u64]; omega
  have hwb : IntKind.u32.wrap (b.size : Int) = (b.size : Int) := by rw [IntKind.wrap_u32]; omega
  have HB := Lib.hid hb; have H0 := Lib.hid h0; have H1 := Lib.hid h1; have HG := Lib.hid hg
  clear hb h0 h1
  go_enter Tryz.func38, Tryz.ntmps38
  go_wp2_with fail
  refine H1.out.mono ?_
  rintro e w1 ⟨rfl, hw1, hm1⟩
  have h2 := H0.out.mv hw1 hm1
  have e1 : (⟨#[]⟩ ++ digB 1 67 : ByteArray) = ⟨#[67]⟩ := rfl
  rw [e1] at h2
  have HC := Lib.hid (wLong_any w1 g _ n (by omega) h2.is (by show (1 : Nat) ≤ _; decide)); have H2 := Lib.hid h2
  clear hw1 hm1 h2 e1 H1 H0
  go_wp2_with fail
  refine HC.out.mono ?_
  rintro e w2 ⟨rfl, hw2, hm2⟩
  have h3 := H2.out.mv hw2 hm2
  have s3 : (⟨#[67]⟩ ++ digB 8 n : ByteArray).size = 9 := by rw [ByteArray.size_append, digB_size]; rfl
  have HC := Lib.hid (wWord_any w2 g _ b.size (by omega) h3.is (by omega)); have H3 := Lib.hid h3
  clear hw2 hm2 h3 H2
  go_wp2_with fail
  refine HC.out.mono ?_
  rintro e w3 ⟨rfl, hw3, hm3⟩
  have h4 := H3.out.mv hw3 hm3
  have s4 : ((⟨#[67]⟩ ++ digB 8 n) ++ digB 4 b.size : ByteArray).size = 13 := by rw [ByteArray.size_append, digB_size, s3]
  have HC := Lib.hid (wRaw_any w3 g _ b _ (HB.out.below h4.below) h4.is (by omega)); have H4 := Lib.hid h4
  clear hw3 hm3 h4 H3
  go_wp2_with fail
  refine HC.out.mono ?_
  rintro e w4 ⟨rfl, hw4, hm4⟩
  have h5 : FS w w4 g (headC n b) := H4.out.mv hw4 hm4
  have s5 := headC_size n b
  have HC := Lib.hid (out_any w4 g _ h5.is (by omega)); have H5 := Lib.hid h5
  clear hw4 hm4 h5 H4
  go_wp2_with fail
  refine HC.out.mono ?_
  rintro e w5 ⟨v5, rfl, ho5, hb5⟩
  have h6 := H5.out.below_ hb5
  have HC := Lib.hid (sum_any w5 v5 (headC n b) (Bt.of_own ho5) (by omega)); have H6 := Lib.hid h6
  clear ho5 hb5 h6 H5
  go_wp2_with fail
  refine HC.out.mono ?_
  rintro e w6 ⟨rfl, hb6⟩
  have h7 := H6.out.below_ hb6
  have HC := Lib.hid (wWord_any w6 g _ (crcN (headC n b)) (crcN_lt _) h7.is (by omega)); have H7 := Lib.hid h7
  clear hb6 h7 H6
  go_wp2_with fail
  refine HC.out.mono ?_
  rintro e w7 ⟨rfl, hw7, hm7⟩
  have h8 : FS w w7 g (fileC n b) := H7.out.mv hw7 hm7
  have s8 := fileC_size n b
  have HC := Lib.hid (out_any w7 g _ h8.is (by omega)); have H8 := Lib.hid h8
  clear hw7 hm7 h8 H7
  go_wp2_with fail
  refine HC.out.mono ?_
  rintro e w8 ⟨v8, rfl, ho8, hb8⟩
  have HO := Lib.hid (own_mono ho8 H8.out.below.size); have HB8 := Lib.hid (H8.out.below_ hb8).below
  clear ho8 hb8 H8 HC
  go_wp2
  go_ret
  exact ⟨_, rfl, HO.out, HB8.out⟩
end Go.Proofs.YthmcimpdehgaoaaGreatDoor
