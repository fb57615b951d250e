/- What a report's functions read of package variables; the closures of write: a number's text, a line. -/
import Derived.Test.YtggegefeagkhkaaDoorRpT
import Derived.Test.YtggegefeagkhkaaDoorRpE
import Derived.Test.YtggegefeagkhkaaDoorWordsV
import Derived.Test.YtggegefeagkhkaaDoorBuild
import Derived.Lib.Join
namespace Go.Proofs.YtggegefeagkhkaaDoor
open Go.RowKit

def kindsL : List ByteArray := [⟨#[]⟩, ba wRank, ba wLabel, ba wPaths]
/-- the package variables, as the functions read them -/
structure Gl (w : World) : Prop where
  firsts : Firsts w
  tab : Tb w.heap.size w
  kinds : ∀ (i : Nat) (x : ByteArray), kindsL[i]? = some x → w.cell? ⟨0, i, none⟩ = some (.string x)
  mx : ∃ m, w.cell? ⟨2, 0, none⟩ = some (.int .i64 m)
theorem Tb.more {B B' : Nat} {w : World} (h : Tb B w) (hB : B ≤ B') : Tb B' w := fun w' hb => h w' (hb.mono hB)
theorem Gl.below {w w' : World} (h : Gl w) (hb : Below w.heap.size w w') : Gl w' := by
  obtain ⟨m, hm⟩ := h.mx
  refine ⟨firsts_below h.firsts hb (firsts_lt h.firsts), (h.tab.on hb).more hb.size, fun i x hi => ?_, m, ?_⟩
  · have := h.kinds i x hi
    rw [← this]
    exact hb.cell (p := ⟨_, i, none⟩) (World.block_lt_of_cell? w _ this)
  · rw [← hm]
    exact hb.cell (p := ⟨_, 0, none⟩) (World.block_lt_of_cell? w _ hm)
theorem Gl.from {w wr : World} (h : Gl w) (hb : Below w.heap.size w wr) : Gl wr := h.below hb
set_option maxHeartbeats 1000000 in
/-- a number's text -/
theorem n_any (w : World) (x : Int) (h1 : -9223372036854775808 ≤ x) (h2 : x ≤ 9223372036854775807) (hG : Gl w) :
    Calls Tryd.prog 33 #[.int .i64 x] w fun e w' => e = .returned (.string (printOf x 0)) ∧ Below w.heap.size w w' := by
  have HP := Lib.hid (print_any x 0 w h1 h2 hG.firsts)
  clear hG
  go_enter Tryd.func33, Tryd.ntmps33
  go_wp2_with fail
  refine HP.out.mono ?_
  rintro e w' ⟨rfl, q, rfl⟩
  have HB := Lib.hid (below_drewN (Below.refl w.heap.size w) q)
  go_wp2
  go_ret
  exact ⟨rfl, HB.out⟩
theorem prS (x : Int) : ba (prL x) = printOf x 0 := ba_of _
theorem printOf_sz (n : Int) : (printOf n 0).size ≤ 76 := by
  unfold printOf
  split
  · have h1 := encD_size 0 (digs 19 n.toNat)
    have h2 := digs_length 19 n.toNat
    omega
  · decide
theorem join_lib : ∀ ws : List (List UInt8), Lib.join ws [32] = joinB 32 ws := by
  intro ws
  induction ws with
  | nil => rfl
  | cons a r ih =>
    cases r with
    | nil => rw [Lib.join_one]; rfl
    | cons b r =>
      rw [joinB, ← ih]
      show [32].intercalate (a :: b :: r) = a ++ 32 :: [32].intercalate (b :: r)
      simp [List.intercalate]
/-- what is written so far -/
structure WSt (w wr : World) (b : Nat) (t : List UInt8) : Prop where
  below : Below w.heap.size w wr
  bld : Lib.IsBuilder 60 5 w.heap.size b (Lib.strCells (ba t)) wr
theorem own_below2 {w w' : World} {b : Nat} {e : TypeId} {size n : Nat} {v : Value} {xs : List Value} (h : w.ownsRow b e size v n xs) (hb : Below w.heap.size w w') : w'.ownsRow b e size v n xs :=
  own_keep h fun g _ _ hg => hb.block g (Array.getElem?_eq_some_iff.1 hg).1
theorem builderAt_below {T e : TypeId} {B b : Nat} {p : Value} {bs : List Value} {w w' : World} (h : Lib.BuilderAt T e B b p bs w) (hb : Below w.heap.size w w') : Lib.BuilderAt T e B b p bs w' := by
  have hlt := h.lt
  obtain ⟨hB, v, hbk, hown, hne⟩ := h
  exact ⟨hB, v, (hb.block b hlt).trans hbk, own_below2 hown hb, hne⟩
theorem builder_below {T e : TypeId} {B b : Nat} {bs : List Value} {w w' : World} (h : Lib.IsBuilder T e B b bs w) (hb : Below w.heap.size w w') : Lib.IsBuilder T e B b bs w' := by
  rcases h with h | h
  · exact .inl (builderAt_below h hb)
  · exact .inr (builderAt_below h hb)
theorem WSt.on {w wr w' : World} {b : Nat} {t : List UInt8} (h : WSt w wr b t) (hb : Below wr.heap.size wr w') : WSt w w' b t :=
  ⟨h.below.trans (hb.mono h.below.size), builder_below h.bld hb⟩
theorem WSt.drew {w wr : World} {b : Nat} {t : List UInt8} (h : WSt w wr b t) : WSt w wr.drew b t := h.on ((Below.refl _ _).drew)
theorem WSt.new (w : World) : WSt w (w.alloc (.cells #[.pointer none, .slice none 0 0] 60)) w.heap.size [] :=
  ⟨(Below.refl _ _).alloc (Nat.le_refl _) _, Lib.fresh_isBuilder 60 5 w⟩
theorem lineL_len (ws : List (List UInt8)) : (lineL ws).length = (joinB 32 ws).length + 1 := by unfold lineL; simp
set_option maxRecDepth 100000 in
set_option maxHeartbeats 2000000 in
/-- a line: words that were just laid in a row -/
theorem line_any (w wr : World) (b : Nat) (t : List UInt8) (ps : List ByteArray) (h : WSt w wr b t) (hsz : t.length + (joinB 32 (ps.map (·.data.toList))).length ≤ 1000000000000) (hl : ps.length ≤ 1000) :
    Calls Tryd.prog 30 #[.slice (some ⟨wr.heap.size, 0, none⟩) ps.length ps.length, .pointer (some ⟨b, 0, none⟩)] (wr.alloc (.cells (ps.map Value.string).toArray 9)) fun e w' => e = .returned (.tuple #[]) ∧ WSt w w' b (t ++ lineL (ps.map (·.data.toList))) := by
  have hj := Tryd.strings_Join wr.heap.size 0 ps.length ps ⟨#[32]⟩ (wr.alloc (.cells (ps.map Value.string).toArray 9)) (fun j x hx => by
    have h0 := (Blk.new wr 9 (ps.map Value.string).toArray).cell j
    rw [Nat.zero_add, h0]
    simp [hx]) (by simp) (by omega) (Nat.le_refl _) (by
      show (Lib.join (ps.map (·.data.toList)) [32]).length ≤ _
      rw [join_lib]; omega)
  rw [show (⟨#[32]⟩ : ByteArray).data.toList = [32] from rfl, join_lib] at hj
  have h1 := h.on ((Below.refl _ _).alloc (Nat.le_refl _) (.cells (ps.map Value.string).toArray 9))
  obtain ⟨J, hJ⟩ : ∃ J, joinB 32 (ps.map (·.data.toList)) = J := ⟨_, rfl⟩
  have hL : lineL (ps.map (·.data.toList)) = J ++ [10] := by unfold lineL; rw [hJ]
  rw [hJ] at hj hsz
  rw [hL]
  obtain ⟨q, hq⟩ : ∃ q : ByteArray, ⟨J.toArray⟩ = q := ⟨_, rfl⟩
  have hqb : q = ba J := hq.symm
  have hqs : q.size = J.length := by rw [hqb, size_ba]
  have hqn : (q ++ ⟨#[10]⟩ : ByteArray) = ba (J ++ [10]) := by rw [hqb, ← ba_append]; rfl
  rw [hq] at hj
  have hz1 : (⟨#[10]⟩ : ByteArray).size = 1 := rfl
  have hqI : (q.size : Int) ≤ 1000000000000 := by omega
  have HJ := Lib.hid hj; have H1 := Lib.hid h1; have HQN := Lib.hid hqn; have HQS := Lib.hid hqs; have HSZ := Lib.hid hsz
  clear hj h1 hJ hL hq hqb hqs hqn hsz h hz1
  go_enter Tryd.func30, Tryd.ntmps30
  go_wp2_with fail
  refine HJ.out.mono ?_
  rintro e w2 ⟨rfl, hb2⟩
  have hs2 := H1.out.on hb2
  have hlt0 := size_ba t
  have hc := writeString_any w.heap.size b _ (q ++ ⟨#[10]⟩) w2 hs2.bld (by rw [Lib.strCells_length, ByteArray.size_append, hlt0, HQS.out]; have hz1 : (⟨#[10]⟩ : ByteArray).size = 1 := rfl; have := HSZ.out; omega) hs2.below.size
  have HC := Lib.hid hc; have HS2 := Lib.hid hs2
  clear hc hs2 hb2 HJ hlt0
  go_wp2_with fail
  refine HC.out.mono ?_
  rintro e w3 ⟨rfl, h3, hb3, _⟩
  have hfin : WSt w w3 b (t ++ (J ++ [10])) := ⟨HS2.out.below.trans hb3, .inr (by
    rw [HQN.out, ← strCells_append, ba_append] at h3
    exact h3)⟩
  have HF := Lib.hid hfin
  clear hfin h3 hb3
  go_wp2
  go_end0
  exact ⟨rfl, HF.out⟩
end Go.Proofs.YtggegefeagkhkaaDoor
