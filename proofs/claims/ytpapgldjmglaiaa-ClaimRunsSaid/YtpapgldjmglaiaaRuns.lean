/-
  ClaimRuns returns true for all numbers and every list of calls.
-/
import Derived.Test.YtpapgldjmglaiaaIs
namespace Go.Proofs.Ytpapgldjmglaiaa.claimRuns
open Go.ChangeShapes Go.WideShapes Go.ChangeAt Go.RowKit
attribute [local go_sem ↓] Go.wp_at_zero Go.wp_at_succ

/-- The program's account beside the reference's, whose variable lies at pb. -/
structure CX (w : World) (x y z : Int) (pb : Nat) (W : World) (a : Ac) (k : Nat) (A : Option Addr) (n cap : Nat) (l : List Cr) : Prop where
  isA : IsA W (w.heap.size + 1 + 1) (w.heap.size + 1) a
  ok : a.Ok k
  rc : RC W A n l
  rl : RL a l
  nk : n ≤ k
  inA : ∀ i, InA A i → pb < i ∧ i < W.heap.size
  bx : Blk W pb 30 (rcs a A n cap)
  bn : Blk W w.heap.size 22 #[.int .i64 x, .int .i64 y, .int .i64 z]
  bel : Below w.heap.size w W
  lo : w.heap.size + 1 + 1 < pb
/-- The same behind the reference's call, whose result lies at hx. -/
structure CM (w : World) (x y z : Int) (pb hx : Nat) (W : World) (a : Ac) (k : Nat) (cs : Array Value) (a' : Ac) (A : Option Addr) (n cap : Nat) (l : List Cr) : Prop where
  isA : IsA W (w.heap.size + 1 + 1) (w.heap.size + 1) a
  ok : a.Ok k
  rc : RC W A n l
  rl : RL a' l
  nk : n ≤ k + 1
  inA : ∀ i, InA A i → pb < i ∧ i < W.heap.size
  bx : Blk W pb 30 cs
  bn : Blk W w.heap.size 22 #[.int .i64 x, .int .i64 y, .int .i64 z]
  bel : Below w.heap.size w W
  lo : w.heap.size + 1 + 1 < pb
  hb : Blk W hx 30 (rcs a' A n cap)
  hl : pb < hx
section
variable {w W W5 W6 W7 : World} {x y z : Int} {pb hx k n cap n' cap' : Nat} {a a' : Ac} {A A' : Option Addr} {l l' : List Cr} {cs : Array Value}
theorem CX.same (h : CX w x y z pb W a k A n cap l) (hs : Same W W6) : CX w x y z pb W6 a k A n cap l :=
  ⟨h.isA.same hs, h.ok, h.rc.same hs, h.rl, h.nk, fun i hi => ⟨(h.inA i hi).1, Nat.lt_of_lt_of_le (h.inA i hi).2 hs.size⟩, h.bx.fr hs (fun x => x), h.bn.fr hs (fun x => x), h.bel.trans (hs.below.mono h.bel.size), h.lo⟩
theorem CX.mid (h : CX w x y z pb W a k A n cap l) (hs : Same W W6) (hr : RC W6 A' n' l') (hl : RL a' l') (hn : n' ≤ n + 1) (hi : ∀ i, InA A' i → pb < i ∧ i < W6.heap.size) (hb : Blk W6 hx 30 (rcs a' A' n' cap')) (hlt : W.heap.size ≤ hx) : CM w x y z pb hx W6 a k (rcs a A n cap) a' A' n' cap' l' := by
  have h1 := h.same hs
  have hp := h.bx.lt
  have := h.nk
  exact ⟨h1.isA, h1.ok, hr, hl, by omega, hi, h1.bx, h1.bn, h1.bel, h1.lo, hb, by omega⟩
/-- Only the program's account and what was not there have turned. -/
theorem CM.to (h : CM w x y z pb hx W a k cs a' A n cap l) (hf : Fr (fun i => i = w.heap.size + 1 + 1 ∨ i = w.heap.size + 1) W W7) :
    RC W7 A n l ∧ Blk W7 pb 30 cs ∧ Blk W7 w.heap.size 22 #[.int .i64 x, .int .i64 y, .int .i64 z] ∧ Below w.heap.size w W7 ∧ Blk W7 hx 30 (rcs a' A n cap) := by
  have lo := h.lo
  have hl := h.hl
  exact ⟨h.rc.fr hf (fun i hi e => by have := (h.inA i hi).1; omega), h.bx.fr hf (by omega), h.bn.fr hf (by omega), h.bel.trans (hf.below h.bel.size (fun i _ e => by omega)), h.hb.fr hf (by omega)⟩
theorem CM.turn (h : CM w x y z pb hx W a k cs a' A n cap l) (hf : Fr (fun i => i = w.heap.size + 1 + 1 ∨ i = w.heap.size + 1) W W7) (hA : IsA W7 (w.heap.size + 1 + 1) (w.heap.size + 1) a') (ok : a'.Ok (k + 1)) {y0 y1 y2 y3 y4 y5 : Value} (hcs : cs = #[y0, y1, y2, y3, y4, y5]) :
    CX w x y z pb (six W7 pb (.int .i64 a'.F) (.int .i64 a'.P) (.int .i64 a'.T) (.int .i64 a'.cr) (.int .i64 a'.cl) (.slice A n cap)) a' (k + 1) A n cap l := by
  obtain ⟨h1, h2, h3, h4, h5⟩ := h.to hf
  have f := fr6 W7 pb (.int .i64 a'.F) (.int .i64 a'.P) (.int .i64 a'.T) (.int .i64 a'.cr) (.int .i64 a'.cl) (.slice A n cap)
  have lo := h.lo
  rw [hcs] at h2
  refine ⟨hA.fr f (by omega) (by omega), ok, h1.fr f (fun i hi e => by have := (h.inA i hi).1; omega), h.rl, h.nk, fun i hi => ⟨(h.inA i hi).1, ?_⟩, h2.six _ _ _ _ _ _, h3.fr f (by omega), h4.trans (f.below h4.size (fun i _ e => by omega)), lo⟩
  exact Nat.lt_of_lt_of_le (h.inA i hi).2 (Nat.le_trans hf.size f.size)
end
def Rel (w : World) (x y z : Int) (pb k : Nat) (W : World) : Prop := ∃ a A n cap l, CX w x y z pb W a k A n cap l
theorem below_end {w w2 w9 : World} (t : Below w.heap.size w w2) (h : Below w2.heap.size w2 w9) : (Ending.returned (.bool true)) = .returned (.bool true) ∧ Below w.heap.size w w9 := ⟨rfl, t.trans (h.mono t.size)⟩
theorem s6of {w W : World} (h : Same w W) (x0 x1 x2 x3 x4 x5 : Value) : Same w (six W w.heap.size x0 x1 x2 x3 x4 x5) := fr_trans2 h (fr6 W w.heap.size x0 x1 x2 x3 x4 x5) (fun i hi e => by omega)

set_option maxRecDepth 100000 in
set_option maxHeartbeats 8000000 in
theorem walk (F P z : Int) (A : Option Addr) (len cap : Nat) (xs : List (Bool × Int × Int)) (hz : -9223372036854775808 ≤ z ∧ z ≤ 9223372036854775807) (w : World) (hx : IsSteps w A len xs) :
    Calls Try.prog 3 #[.agg #[.int .i64 F, .int .i64 P, .int .i64 z], .slice A len cap] w fun e w' => e = .returned (.bool true) ∧ Below w.heap.size w w' := by
  have HX := Lib.hid hx
  have hml := hx.2.1
  have hxl := hx.1
  unfold maxLen at hml
  have hal : Same w (w.alloc (.cells #[.int .i64 F, .int .i64 P, .int .i64 z] 22)) := (Fr.refl _ _).alloc _
  have bel0 := hal.below
  have bn0 := Blk.new w 22 #[.int .i64 F, .int .i64 P, .int .i64 z]
  clear hx
  by_cases hbad : F < 0 ∨ F > 1000 ∨ P < 1 ∨ P > 24
  · go_enter Try.func3, Try.ntmps3
    go_wp2_with fail
    refine (new_bad F P _ hbad).mono ?_
    rintro e w' ⟨rfl, rfl⟩
    go_wp2_with fail
    refine (rnew_bad F P _ hbad).mono ?_
    rintro e w2 ⟨rfl, hs2⟩
    unfold rzero
    have b2 : Below w.heap.size w (w2.alloc (.cells #[.int .i64 0, .int .i64 0, .int .i64 0, .int .i64 0, .int .i64 0, .slice none 0 0] 30)) := (Fr.alloc (Fr.trans hal hs2) _).below (Nat.le_refl _) (fun _ _ x => x.elim)
    clear hs2 hal bel0 bn0
    by_cases hlen : (len : Int) > 100
    · go_wp2_with fail
      refine (awake_any _).mono ?_
      rintro e w9 ⟨rfl, hb9⟩
      go_wp2
      go_ret
      exact below_end b2 hb9
    · go_wp2_with fail
      refine (awake_any _).mono ?_
      rintro e w9 ⟨rfl, hb9⟩
      go_wp2
      go_ret
      exact below_end b2 hb9
  · have f1 : 0 ≤ F := by omega
    have f2 : F ≤ 1000 := by omega
    have p1 : 1 ≤ P := by omega
    have p2 : P ≤ 24 := by omega
    clear hbad
    go_enter Try.func3, Try.ntmps3
    go_wp2_with fail
    refine (new_ok F P _ f1 f2 p1 p2).mono ?_
    rintro e w2 ⟨rfl, hA2, hb2⟩
    simp only [World.size_alloc] at hA2 hb2
    have bn2 := bn0.below hb2 (by omega)
    have c0 := bn2.cell 0
    have c1 := bn2.cell 1
    simp at c0 c1
    have bel2 : Below w.heap.size w w2 := bel0.trans (hb2.mono (by omega))
    go_wp2_with fail
    refine (rnew_any F P _ f1 f2 p1 p2).mono ?_
    rintro e w3 ⟨rfl, hs3⟩
    unfold rv rcs
    simp only
    have hzz := hA2.blk.lt
    have HR : Hid (Rel w F P z w3.heap.size 0 (w3.alloc (.cells #[.int .i64 F, .int .i64 P, .int .i64 (-1), .int .i64 0, .int .i64 0, .slice none 0 0] 30))) := by
      have hs4 := box30 w3 #[.int .i64 F, .int .i64 P, .int .i64 (-1), .int .i64 0, .int .i64 0, .slice none 0 0]
      have hst : Same w2 (w3.alloc (.cells #[.int .i64 F, .int .i64 P, .int .i64 (-1), .int .i64 0, .int .i64 0, .slice none 0 0] 30)) := Fr.trans hs3 hs4
      have hz3 := hs3.size
      refine ⟨⟨F, P, -1, 0, 0, fun _ => 0⟩, none, 0, 0, [], hA2.same hst, ok_new f1 f2 p1 p2, RC.nil _ _, ⟨rfl, by simp, by simp, by simp⟩, Nat.le_refl _, fun i hi => hi.none_.elim, Blk.new _ _ _, bn2.fr hst (fun x => x), bel2.trans (hst.below.mono bel2.size), by omega⟩
    have bel3 : Below w.heap.size w (w3.alloc (.cells #[.int .i64 F, .int .i64 P, .int .i64 (-1), .int .i64 0, .int .i64 0, .slice none 0 0] 30)) := bel2.trans ((Fr.alloc hs3 _).below (by have := bel2.size; omega) (fun _ _ x => x.elim))
    clear hA2 hb2 bn2 bn0 c0 c1 bel2 hs3 hzz hal bel0
    by_cases hlen : (len : Int) > 100
    · clear HR
      go_wp2_with fail
      refine (awake_any _).mono ?_
      rintro e w9 ⟨rfl, hb9⟩
      go_wp2
      go_ret
      exact below_end bel3 hb9
    · have tl : decide (100 < len) = false := by simp; omega
      go_wp2
      clear bel3
      generalize w3.heap.size = pb at HR ⊢
      go_loopw [9] (fun i wr => ∃ k : Nat, k ≤ len ∧ i = .int .i64 k ∧ Rel w F P z pb k wr) (fun i _ => len - (intOf i).toNat)
      case atStart => exact ⟨0, by omega, rfl, HR.out⟩
      case round =>
        obtain ⟨k, hk, rfl, a, A', n', cap', l', h3⟩ := hrel
        clear HR
        by_cases hlt : k < len
        · obtain ⟨y, hy⟩ : ∃ y, xs[k]? = some y := ⟨xs[k]'(by omega), List.getElem?_eq_getElem _⟩
          obtain ⟨bb, o, rfl, hbl, c0, c1, c2, hwp, hwv⟩ := HX.out.2.2 k y hy
          obtain ⟨c, per, vol⟩ := y
          simp only at c0 c1 c2 hwp hwv
          have i1 : (0 : Int) ≤ (k : Int) := by omega
          have i2 : (k : Int) < (len : Int) := by omega
          have HC : Hid (∀ W, Below w.heap.size w W → W.cell? ⟨bb, o + k * 3, none⟩ = some (.bool c) ∧ W.cell? ⟨bb, o + k * 3 + 1, none⟩ = some (.int .i64 per) ∧ W.cell? ⟨bb, o + k * 3 + 2, none⟩ = some (.int .i64 vol)) := fun W hW => ⟨(hW.cell (p := ⟨bb, _, none⟩) hbl).trans c0, (hW.cell (p := ⟨bb, _, none⟩) hbl).trans c1, (hW.cell (p := ⟨bb, _, none⟩) hbl).trans c2⟩
          have H3 := Lib.hid h3
          have hpbl := h3.bx.lt
          obtain ⟨r, hr⟩ : ∃ r, a.step c per vol = r := ⟨_, rfl⟩
          obtain ⟨a', cd⟩ := r
          have ok' := Ac.step_ok h3.ok (by omega) c per vol
          rw [hr] at ok'
          simp only at ok'
          have HP11 : Hid (∀ W, Same wr W → Calls Try.prog 11 #[rv a A' n' cap', .agg #[.bool c, .int .i64 per, .int .i64 vol]] W (CE W (fun i => pb < i ∧ i < wr.heap.size) n' (a', cd))) := fun W hW => by
            have h := H3.out.same hW
            have nk := h.nk
            have := should_any a k (fun i => pb < i ∧ i < wr.heap.size) A' n' cap' l' c per vol W h.rc h.rl h.ok H3.out.inA (fun i hi => Nat.lt_of_lt_of_le hi.2 hW.size) (by omega)
            rw [hr] at this
            exact this
          have HP12 : Hid (∀ W, IsA W (w.heap.size + 1 + 1) (w.heap.size + 1) a → Calls Try.prog 12 #[.pointer (some ⟨w.heap.size + 1 + 1, 0, none⟩), .agg #[.bool c, .int .i64 per, .int .i64 vol]] W (Left1 (w.heap.size + 1 + 1) (w.heap.size + 1) W (a', cd))) := fun W hW => by
            have := do_any _ _ k a c per vol W hW H3.out.ok
            rw [hr] at this
            exact this
          have HS : Hid (∀ W, Same wr W → W.cell? ⟨pb, 0, none⟩ = some (.int .i64 a.F) ∧ W.cell? ⟨pb, 1, none⟩ = some (.int .i64 a.P) ∧ W.cell? ⟨pb, 2, none⟩ = some (.int .i64 a.T) ∧ W.cell? ⟨pb, 3, none⟩ = some (.int .i64 a.cr) ∧ W.cell? ⟨pb, 4, none⟩ = some (.int .i64 a.cl) ∧ W.cell? ⟨pb, 5, none⟩ = some (.slice A' n' cap') ∧ W.cell? ⟨bb, o + k * 3, none⟩ = some (.bool c) ∧ W.cell? ⟨bb, o + k * 3 + 1, none⟩ = some (.int .i64 per) ∧ W.cell? ⟨bb, o + k * 3 + 2, none⟩ = some (.int .i64 vol)) := fun W hW => by
            have h := H3.out.same hW
            obtain ⟨a1, a2, a3, a4, a5, a6⟩ := (Blk.cells6 h.bx).1
            exact ⟨a1, a2, a3, a4, a5, a6, HC.out _ h.bel⟩
          have hS0 := HS.out wr (Same.refl _)
          unfold rv rcs at HP11
          clear hy c0 c1 c2 hr h3
          have sd : Same wr wr.drew := (Fr.refl _ _).drew
          have sa : Same wr (wr.alloc (.cells #[.int .i64 0, .int .i64 0, .int .i64 0, .int .i64 0, .int .i64 0, .slice none 0 0] 30)).drew := Fr.drew ((Fr.refl _ _).alloc _)
          have hSd := HS.out _ sd
          have hSa := HS.out _ sa
          have H11a := Lib.hid (HP11.out wr.drew sd)
          have H11b := Lib.hid (HP11.out (wr.alloc (.cells #[.int .i64 0, .int .i64 0, .int .i64 0, .int .i64 0, .int .i64 0, .slice none 0 0] 30)).drew sa)
          go_upto_region 10 with fail
          go_region_held3 (fun W => W.cell? ⟨pb, 0, none⟩ = some (.int .i64 a.F) ∧ W.cell? ⟨pb, 1, none⟩ = some (.int .i64 a.P) ∧ W.cell? ⟨pb, 2, none⟩ = some (.int .i64 a.T) ∧ W.cell? ⟨pb, 3, none⟩ = some (.int .i64 a.cr) ∧ W.cell? ⟨pb, 4, none⟩ = some (.int .i64 a.cl) ∧ W.cell? ⟨pb, 5, none⟩ = some (.slice A' n' cap') ∧ W.cell? ⟨bb, o + k * 3, none⟩ = some (.bool c) ∧ W.cell? ⟨bb, o + k * 3 + 1, none⟩ = some (.int .i64 per) ∧ W.cell? ⟨bb, o + k * 3 + 2, none⟩ = some (.int .i64 vol))
            (first | (with_reducible exact hS0) | (with_reducible exact hSd) | (with_reducible exact hSa) | (with_reducible exact k5) | (with_reducible exact k5a _) | (with_reducible exact k6 _ _ _ _ _ _))
            ((go_at_call 11; (first | ((with_reducible refine H11a.out.mono ?_); rintro e w5 ⟨A5, n5, cap5, l5, rfl, hs5, hrc5, hrl5, hn5, hin5⟩; have s5 : Same wr w5 := ⟨hs5.os, hs5.tape, hs5.output, hs5.size, hs5.block⟩; have k5 := HS.out _ s5; have k5a := fun ob => HS.out (w5.alloc ob) (Fr.alloc s5 ob); unfold rv rcs) | ((with_reducible refine H11b.out.mono ?_); rintro e w5 ⟨A5, n5, cap5, l5, rfl, hs5, hrc5, hrl5, hn5, hin5⟩; have s5 : Same wr w5 := Fr.trans sa hs5; have bz := (Blk.new wr 30 #[.int .i64 0, .int .i64 0, .int .i64 0, .int .i64 0, .int .i64 0, .slice none 0 0]).fr (S := fun _ => False) (w' := w5) ⟨hs5.os, hs5.tape, hs5.output, hs5.size, hs5.block⟩ (fun x => x); obtain ⟨⟨z0, z1, z2, z3, z4, z5⟩, ⟨y0, y1, y2, y3, y4, y5⟩, z6⟩ := bz.cells6; have s6 := s6of s5; have k5 := HS.out _ s5; have k6 := fun x0 x1 x2 x3 x4 x5 => HS.out _ (s6 x0 x1 x2 x3 x4 x5); unfold six at k6; unfold rv rcs))))
          · have hM : CM w F P z pb w5.heap.size (w5.alloc (.cells #[.int .i64 a'.F, .int .i64 a'.P, .int .i64 a'.T, .int .i64 a'.cr, .int .i64 a'.cl, .slice A5 n5 cap5] 30)) a k (rcs a A' n' cap') a' A5 n5 cap5 l5 := H3.out.mid (Fr.alloc s5 (.cells (rcs a' A5 n5 cap5) 30)) (hrc5.same (box30 w5 _)) hrl5 hn5 (fun i hi => by
              have hz5 := s5.size
              have hq : (pb < i ∧ i < wr.heap.size) ∨ (wr.heap.size ≤ i ∧ i < w5.heap.size) := hin5 i hi
              rw [World.size_alloc]
              omega) (Blk.new w5 30 _) s5.size
            generalize w5.alloc (.cells #[.int .i64 a'.F, .int .i64 a'.P, .int .i64 a'.T, .int .i64 a'.cr, .int .i64 a'.cl, .slice A5 n5 cap5] 30) = W6 at hM ⊢
            generalize w5.heap.size = hx at hM ⊢
            clear s5 k5 k5a
            clear sd sa hS0 hSd hSa H11a H11b HP11 HS hs5 hrc5 hrl5 hn5 hin5
            have HM := Lib.hid hM
            have HS7 : Hid (∀ W, Fr (fun i => i = w.heap.size + 1 + 1 ∨ i = w.heap.size + 1) W6 W → W.cell? ⟨bb, o + k * 3, none⟩ = some (.bool c) ∧ W.cell? ⟨bb, o + k * 3 + 1, none⟩ = some (.int .i64 per) ∧ W.cell? ⟨bb, o + k * 3 + 2, none⟩ = some (.int .i64 vol) ∧ W.cell? ⟨hx, 0, none⟩ = some (.int .i64 a'.F) ∧ W.cell? ⟨hx, 1, none⟩ = some (.int .i64 a'.P) ∧ W.cell? ⟨hx, 2, none⟩ = some (.int .i64 a'.T) ∧ W.cell? ⟨hx, 3, none⟩ = some (.int .i64 a'.cr) ∧ W.cell? ⟨hx, 4, none⟩ = some (.int .i64 a'.cl) ∧ W.cell? ⟨hx, 5, none⟩ = some (.slice A5 n5 cap5) ∧ W.cell? ⟨w.heap.size, 2, none⟩ = some (.int .i64 z)) := fun W hf => by
              obtain ⟨_, _, t3, t4, t5⟩ := HM.out.to hf
              obtain ⟨a1, a2, a3⟩ := HC.out _ t4
              obtain ⟨b1, b2, b3, b4, b5, b6⟩ := (Blk.cells6 t5).1
              exact ⟨a1, a2, a3, b1, b2, b3, b4, b5, b6, t3.cell 2⟩
            have H13 : Hid (∀ (W : World) (q : Int), Fr (fun i => i = w.heap.size + 1 + 1 ∨ i = w.heap.size + 1) W6 W → IsA W (w.heap.size + 1 + 1) (w.heap.size + 1) a' → (-9223372036854775808 ≤ q ∧ q ≤ 9223372036854775807) → Calls Try.prog 13 #[.pointer (some ⟨w.heap.size + 1 + 1, 0, none⟩), rv a' A5 n5 cap5, .int .i64 q] W fun e W' => e = .returned (.bool true) ∧ Same W W') := fun W q hf hA hq => is_any _ _ (k + 1) a' A5 n5 cap5 l5 q W hA (HM.out.to hf).1 HM.out.rl ok' hq
            unfold rv rcs at H13
            have kM := HS7.out W6 (Fr.refl _ _)
            have kMd := HS7.out W6.drew ((Fr.refl _ _).drew)
            have H12 := Lib.hid (HP12.out W6.drew (hM.isA.same ((Fr.refl _ _).drew)))
            clear hM HP12
            go_upto_region 11 with fail
            go_region_held3 (fun W => W.cell? ⟨bb, o + k * 3, none⟩ = some (.bool c) ∧ W.cell? ⟨bb, o + k * 3 + 1, none⟩ = some (.int .i64 per) ∧ W.cell? ⟨bb, o + k * 3 + 2, none⟩ = some (.int .i64 vol) ∧ W.cell? ⟨hx, 0, none⟩ = some (.int .i64 a'.F) ∧ W.cell? ⟨hx, 1, none⟩ = some (.int .i64 a'.P) ∧ W.cell? ⟨hx, 2, none⟩ = some (.int .i64 a'.T) ∧ W.cell? ⟨hx, 3, none⟩ = some (.int .i64 a'.cr) ∧ W.cell? ⟨hx, 4, none⟩ = some (.int .i64 a'.cl) ∧ W.cell? ⟨hx, 5, none⟩ = some (.slice A5 n5 cap5) ∧ W.cell? ⟨w.heap.size, 2, none⟩ = some (.int .i64 z))
              (first | (with_reducible exact kM) | (with_reducible exact kMd) | (with_reducible exact k7) | (with_reducible exact k8) | (with_reducible exact k9))
              (first | (go_at_call 12; (with_reducible refine H12.out.mono ?_); rintro e w7 ⟨rfl, hA7, hf7⟩; have f7 : Fr (fun i => i = w.heap.size + 1 + 1 ∨ i = w.heap.size + 1) W6 w7 := ⟨hf7.os, hf7.tape, hf7.output, hf7.size, hf7.block⟩; have k7 := HS7.out w7 f7; have h13a := Lib.hid (H13.out w7 per f7 hA7 hwp)) | (go_at_call 13; (with_reducible refine h13b.out.mono ?_); rintro e w9 ⟨rfl, hs9⟩; have f9 : Fr (fun i => i = w.heap.size + 1 + 1 ∨ i = w.heap.size + 1) W6 w9 := Fr.trans f8 (hs9.to _); have hA9 := hA8.same hs9; have k9 := HS7.out w9 f9) | (go_at_call 13; (with_reducible refine h13a.out.mono ?_); rintro e w8 ⟨rfl, hs8⟩; have f8 : Fr (fun i => i = w.heap.size + 1 + 1 ∨ i = w.heap.size + 1) W6 w8 := Fr.trans f7 (hs8.to _); have hA8 := hA7.same hs8; have k8 := HS7.out w8 f8; have h13b := Lib.hid (H13.out w8 z f8 hA8 hz)))
            obtain ⟨_, t2, _⟩ := HM.out.to f9
            obtain ⟨⟨d0, d1, d2, d3, d4, d5⟩, ⟨v0, v1, v2, v3, v4, v5⟩, d6⟩ := Blk.cells6 t2
            obtain ⟨_, _, _, e0, e1, e2, e3, e4, e5, _⟩ := k9
            have hC10 := HM.out.turn f9 hA9 ok' rfl
            unfold six at hC10
            have HRel : Hid (Rel w F P z pb (k + 1) ((((((w9.setCell ⟨pb, 0, none⟩ (.int .i64 a'.F)).setCell ⟨pb, 1, none⟩ (.int .i64 a'.P)).setCell ⟨pb, 2, none⟩ (.int .i64 a'.T)).setCell ⟨pb, 3, none⟩ (.int .i64 a'.cr)).setCell ⟨pb, 4, none⟩ (.int .i64 a'.cl)).setCell ⟨pb, 5, none⟩ (.slice A5 n5 cap5))) := ⟨a', A5, n5, cap5, l5, hC10⟩
            clear hC10 t2 f7 f8 f9 hA7 hA8 hA9 hs8 hs9 hf7 k7 k8 kM kMd h13a h13b H12 H13 HS7
            go_wp2
            go_roundw
            case rel => exact ⟨k + 1, by omega, by go_num, HRel.out⟩
            case measure => simp [intOf]; omega
          · have hM : CM w F P z pb wr.heap.size ((((((w5.setCell ⟨wr.heap.size, 0, none⟩ (.int .i64 a'.F)).setCell ⟨wr.heap.size, 1, none⟩ (.int .i64 a'.P)).setCell ⟨wr.heap.size, 2, none⟩ (.int .i64 a'.T)).setCell ⟨wr.heap.size, 3, none⟩ (.int .i64 a'.cr)).setCell ⟨wr.heap.size, 4, none⟩ (.int .i64 a'.cl)).setCell ⟨wr.heap.size, 5, none⟩ (.slice A5 n5 cap5)) a k (rcs a A' n' cap') a' A5 n5 cap5 l5 := by
              have f := fr6 w5 wr.heap.size (.int .i64 a'.F) (.int .i64 a'.P) (.int .i64 a'.T) (.int .i64 a'.cr) (.int .i64 a'.cl) (.slice A5 n5 cap5)
              have hq : ∀ i, InA A5 i → (pb < i ∧ i < wr.heap.size) ∨ (wr.heap.size + 1 ≤ i ∧ i < w5.heap.size) := fun i hi => by
                have h8 : (pb < i ∧ i < wr.heap.size) ∨ ((wr.alloc (.cells #[.int .i64 0, .int .i64 0, .int .i64 0, .int .i64 0, .int .i64 0, .slice none 0 0] 30)).heap.size ≤ i ∧ i < w5.heap.size) := hin5 i hi
                rw [World.size_alloc] at h8
                exact h8
              have hz5 := s5.size
              have hzf := f.size
              have := H3.out.mid (s6 (.int .i64 a'.F) (.int .i64 a'.P) (.int .i64 a'.T) (.int .i64 a'.cr) (.int .i64 a'.cl) (.slice A5 n5 cap5)) (hrc5.fr f (fun i hi e => by have := hq i hi; omega)) hrl5 hn5 (fun i hi => by have := hq i hi; omega) (bz.six (.int .i64 a'.F) (.int .i64 a'.P) (.int .i64 a'.T) (.int .i64 a'.cr) (.int .i64 a'.cl) (.slice A5 n5 cap5)) (Nat.le_refl _)
              unfold six at this
              exact this
            generalize ((((((w5.setCell ⟨wr.heap.size, 0, none⟩ (.int .i64 a'.F)).setCell ⟨wr.heap.size, 1, none⟩ (.int .i64 a'.P)).setCell ⟨wr.heap.size, 2, none⟩ (.int .i64 a'.T)).setCell ⟨wr.heap.size, 3, none⟩ (.int .i64 a'.cr)).setCell ⟨wr.heap.size, 4, none⟩ (.int .i64 a'.cl)).setCell ⟨wr.heap.size, 5, none⟩ (.slice A5 n5 cap5)) = W6 at hM ⊢
            generalize wr.heap.size = hx at hM ⊢
            clear s5 k5 k6 bz z0 z1 z2 z3 z4 z5 z6 y0 y1 y2 y3 y4 y5 s6
            clear sd sa hS0 hSd hSa H11a H11b HP11 HS hs5 hrc5 hrl5 hn5 hin5
            have HM := Lib.hid hM
            have HS7 : Hid (∀ W, Fr (fun i => i = w.heap.size + 1 + 1 ∨ i = w.heap.size + 1) W6 W → W.cell? ⟨bb, o + k * 3, none⟩ = some (.bool c) ∧ W.cell? ⟨bb, o + k * 3 + 1, none⟩ = some (.int .i64 per) ∧ W.cell? ⟨bb, o + k * 3 + 2, none⟩ = some (.int .i64 vol) ∧ W.cell? ⟨hx, 0, none⟩ = some (.int .i64 a'.F) ∧ W.cell? ⟨hx, 1, none⟩ = some (.int .i64 a'.P) ∧ W.cell? ⟨hx, 2, none⟩ = some (.int .i64 a'.T) ∧ W.cell? ⟨hx, 3, none⟩ = some (.int .i64 a'.cr) ∧ W.cell? ⟨hx, 4, none⟩ = some (.int .i64 a'.cl) ∧ W.cell? ⟨hx, 5, none⟩ = some (.slice A5 n5 cap5) ∧ W.cell? ⟨w.heap.size, 2, none⟩ = some (.int .i64 z)) := fun W hf => by
              obtain ⟨_, _, t3, t4, t5⟩ := HM.out.to hf
              obtain ⟨a1, a2, a3⟩ := HC.out _ t4
              obtain ⟨b1, b2, b3, b4, b5, b6⟩ := (Blk.cells6 t5).1
              exact ⟨a1, a2, a3, b1, b2, b3, b4, b5, b6, t3.cell 2⟩
            have H13 : Hid (∀ (W : World) (q : Int), Fr (fun i => i = w.heap.size + 1 + 1 ∨ i = w.heap.size + 1) W6 W → IsA W (w.heap.size + 1 + 1) (w.heap.size + 1) a' → (-9223372036854775808 ≤ q ∧ q ≤ 9223372036854775807) → Calls Try.prog 13 #[.pointer (some ⟨w.heap.size + 1 + 1, 0, none⟩), rv a' A5 n5 cap5, .int .i64 q] W fun e W' => e = .returned (.bool true) ∧ Same W W') := fun W q hf hA hq => is_any _ _ (k + 1) a' A5 n5 cap5 l5 q W hA (HM.out.to hf).1 HM.out.rl ok' hq
            unfold rv rcs at H13
            have kM := HS7.out W6 (Fr.refl _ _)
            have kMd := HS7.out W6.drew ((Fr.refl _ _).drew)
            have H12 := Lib.hid (HP12.out W6.drew (hM.isA.same ((Fr.refl _ _).drew)))
            clear hM HP12
            go_upto_region 11 with fail
            go_region_held3 (fun W => W.cell? ⟨bb, o + k * 3, none⟩ = some (.bool c) ∧ W.cell? ⟨bb, o + k * 3 + 1, none⟩ = some (.int .i64 per) ∧ W.cell? ⟨bb, o + k * 3 + 2, none⟩ = some (.int .i64 vol) ∧ W.cell? ⟨hx, 0, none⟩ = some (.int .i64 a'.F) ∧ W.cell? ⟨hx, 1, none⟩ = some (.int .i64 a'.P) ∧ W.cell? ⟨hx, 2, none⟩ = some (.int .i64 a'.T) ∧ W.cell? ⟨hx, 3, none⟩ = some (.int .i64 a'.cr) ∧ W.cell? ⟨hx, 4, none⟩ = some (.int .i64 a'.cl) ∧ W.cell? ⟨hx, 5, none⟩ = some (.slice A5 n5 cap5) ∧ W.cell? ⟨w.heap.size, 2, none⟩ = some (.int .i64 z))
              (first | (with_reducible exact kM) | (with_reducible exact kMd) | (with_reducible exact k7) | (with_reducible exact k8) | (with_reducible exact k9))
              (first | (go_at_call 12; (with_reducible refine H12.out.mono ?_); rintro e w7 ⟨rfl, hA7, hf7⟩; have f7 : Fr (fun i => i = w.heap.size + 1 + 1 ∨ i = w.heap.size + 1) W6 w7 := ⟨hf7.os, hf7.tape, hf7.output, hf7.size, hf7.block⟩; have k7 := HS7.out w7 f7; have h13a := Lib.hid (H13.out w7 per f7 hA7 hwp)) | (go_at_call 13; (with_reducible refine h13b.out.mono ?_); rintro e w9 ⟨rfl, hs9⟩; have f9 : Fr (fun i => i = w.heap.size + 1 + 1 ∨ i = w.heap.size + 1) W6 w9 := Fr.trans f8 (hs9.to _); have hA9 := hA8.same hs9; have k9 := HS7.out w9 f9) | (go_at_call 13; (with_reducible refine h13a.out.mono ?_); rintro e w8 ⟨rfl, hs8⟩; have f8 : Fr (fun i => i = w.heap.size + 1 + 1 ∨ i = w.heap.size + 1) W6 w8 := Fr.trans f7 (hs8.to _); have hA8 := hA7.same hs8; have k8 := HS7.out w8 f8; have h13b := Lib.hid (H13.out w8 z f8 hA8 hz)))
            obtain ⟨_, t2, _⟩ := HM.out.to f9
            obtain ⟨⟨d0, d1, d2, d3, d4, d5⟩, ⟨v0, v1, v2, v3, v4, v5⟩, d6⟩ := Blk.cells6 t2
            obtain ⟨_, _, _, e0, e1, e2, e3, e4, e5, _⟩ := k9
            have hC10 := HM.out.turn f9 hA9 ok' rfl
            unfold six at hC10
            have HRel : Hid (Rel w F P z pb (k + 1) ((((((w9.setCell ⟨pb, 0, none⟩ (.int .i64 a'.F)).setCell ⟨pb, 1, none⟩ (.int .i64 a'.P)).setCell ⟨pb, 2, none⟩ (.int .i64 a'.T)).setCell ⟨pb, 3, none⟩ (.int .i64 a'.cr)).setCell ⟨pb, 4, none⟩ (.int .i64 a'.cl)).setCell ⟨pb, 5, none⟩ (.slice A5 n5 cap5))) := ⟨a', A5, n5, cap5, l5, hC10⟩
            clear hC10 t2 f7 f8 f9 hA7 hA8 hA9 hs8 hs9 hf7 k7 k8 kM kMd h13a h13b H12 H13 HS7
            go_wp2
            go_roundw
            case rel => exact ⟨k + 1, by omega, by go_num, HRel.out⟩
            case measure => simp [intOf]; omega
        · have hb := h3.bel
          clear h3
          go_wp2_with fail
          refine (awake_any _).mono ?_
          rintro e w9 ⟨rfl, hb9⟩
          go_wp2
          go_ret
          exact below_end hb hb9

theorem own : ownKnob Try.prog.godebug = none := by kernel_rfl
theorem laidOut : laidOutB Try.prog = true := by kernel_rfl

set_option maxRecDepth 100000 in
theorem lifted (os : Os) (started : os.Started) (H : Type) (enc : TypeId × Value → H) :
    ReturnsInHanded {} Try.checked os 3 .any (Rows.claimRunsSpec.pre6 enc Try.prog Try.f3 Rows.claimRunsRow.domain false) (Rows.claimRunsSpec.post enc Try.prog Try.f3 false true false false) := by
  refine returnsInHanded_of_change (C := Try.checked) own started (by kernel_rfl) Try.func3
    (ChangeSpec.witness6 (enc := enc) (C := Try.checked) false ⟨#[], #[.agg #[.int .i64 0, .int .i64 0, .int .i64 0], .slice none 0 0], []⟩ 8 (by kernel_rfl) (by kernel_rfl) (by kernel_rfl) (by kernel_rfl)) ?_
  intro W base args ds gs before hval0 hW hcnd _
  have hval : ∀ (j : Nat) t v, Try.f3.params[j]? = some t → args[j]? = some v → Value.okWide Try.prog W .any base t v := hval0
  have hW' := hW
  obtain ⟨p, q, hA0, hV, rfl, hfz, hnd⟩ := hW
  have hA : DataW.TrodAll enc Try.prog W 0 (fun _ => true) true Try.f3.params.toList args.toList ds p := hA0
  rw [Try.params3] at hA hval
  obtain ⟨v0, vs0, d0, ds0, p0, q0, hargs, rfl, rfl, h0, r0⟩ := trodAll_cons hA
  obtain ⟨v1, vs1, d1, ds1, p1, q1, rfl, rfl, rfl, h1, r1⟩ := trodAll_cons r0
  obtain ⟨rfl, rfl, rfl⟩ := trodAll_nil r1
  obtain rfl : args = #[v0, v1] := by cases args; simp_all
  obtain ⟨rfl, rfl⟩ := trodVars_none hV
  have k0 := h0
  have lt0 : ∀ x ∈ p0, x.block < W.heap.size := by obtain ⟨m, hm⟩ := k0; exact DataW.trod_lt m _ _ _ hm
  have ok0 := hval 0 22 v0 rfl rfl
  obtain ⟨x0, y0, z0, rfl, hz0, hy0⟩ := open_three ok0 h0
  have k1 := h1
  have lt1 : ∀ x ∈ p1, x.block < W.heap.size := by obtain ⟨m, hm⟩ := k1; exact DataW.trod_lt m _ _ _ hm
  have ok1 := hval 1 23 v1 rfl rfl
  obtain ⟨A1, len1, cap1, xs1, rfl, hx1⟩ := open_steps ok1 h1
  clear hA0 hval0
  refine (walk x0 y0 z0 A1 len1 cap1 xs1 hz0 W hx1).mono fun e W' ⟨he, bel⟩ => ?_
  subst he
  exact ⟨_, rfl, _, _, _, [], _, [], hW', trodAll_mk1 (shut_bool Try.underlying4 _), (trodAll_cons_mk (Below.trod laidOut (by kernel_rfl) (of_decide_eq_true (by kernel_rfl)) k0 bel lt0) (trodAll_cons_mk (Below.trod laidOut (by kernel_rfl) (of_decide_eq_true (by kernel_rfl)) k1 bel lt1) trodAll_mk0)), rfl, bel.frame _, fun h => by cases h⟩

theorem over : Rows.claimRunsRow.holds Try.pinned (OpenSpec.ofChange Rows.claimRunsSpec) :=
  OpenClaim.holds_of_wide 3 Try.f3 rfl rfl rfl rfl rfl rfl rfl ⟨rfl, rfl, rfl, rfl, rfl⟩ rfl rfl rfl rfl rfl (by kernel_rfl) Try.func3 (by kernel_rfl)
    (of_decide_eq_true (by kernel_rfl)) (by unfold Func.isWrapper; first | (rw [if_pos (by decide +kernel)]; kernel_rfl) | (rw [if_neg (by decide +kernel)]; exact ⟨rfl, rfl⟩))
    (fun os started H enc _ => lifted os started H enc)

theorem proved : Rows.ClaimRunsSaid := over
end Go.Proofs.Ytpapgldjmglaiaa.claimRuns
