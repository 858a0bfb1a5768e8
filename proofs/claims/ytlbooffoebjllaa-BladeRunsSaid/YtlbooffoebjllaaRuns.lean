/-
  BladeRuns returns true for every limit and every list of calls.
-/
import Derived.Test.YtlbooffoebjllaaWalkh
import Derived.Test.YtlbooffoebjllaaArgs
import Derived.Deep.RegionHeld3
import Derived.Deep.DrawnRows
import Derived.Deep.RegionWith
import Derived.Deep.DeepCutAuto
import Derived.Deep.LoopGhost
namespace Go.Proofs.Ytlbooffoebjllaa.bladeRuns
open Go.ChangeShapes Go.WideShapes Go.ChangeAt Go.RowKit
attribute [local go_sem ↓] Go.wp_at_zero Go.wp_at_succ

theorem bcell {W w1 : World} (hb : Below W.heap.size W w1) : (∀ b o, b < W.heap.size → w1.cell? ⟨b, o, none⟩ = W.cell? ⟨b, o, none⟩) ∧ (∀ b o, b < W.heap.size → w1.frozen? ⟨b, o, none⟩ = W.frozen? ⟨b, o, none⟩) :=
  ⟨fun b o h => hb.cell (p := ⟨b, o, none⟩) h, fun b o h => hb.frozen (p := ⟨b, o, none⟩) h⟩

/-- What holds at the head of each round. -/
def Rel (w : World) (g gx len : Nat) (i : Value) (wr : World) : Prop :=
  ∃ (k : Nat) (s : St), k ≤ len ∧ i = .int .i64 k ∧ s.Ok ∧ s.N ≤ 10000000000 * k ∧ IsB wr g s ∧ Blk wr gx 27 #[.int .i64 s.L, .int .i64 s.S, .int .i64 s.W, .int .i64 s.N] ∧ Below w.heap.size w wr

/-- What the call of the reference leaves: a new block with the new state; nothing that was there has turned. -/
def Cut1 (w w3 : World) (m c L S W N : Int) (s12 s13 s14 : Value) (wx : World) : Prop :=
  ∃ gy, s12 = .pointer (some ⟨gy, 0, none⟩) ∧ s13 = .int .i64 m ∧ s14 = .int .i64 c ∧ w3.heap.size ≤ gy ∧ Blk wx gy 27 #[.int .i64 L, .int .i64 S, .int .i64 W, .int .i64 N] ∧ Below w3.heap.size w3 wx

theorem undrew {B : Nat} {w w' : World} (h : Below B w.drew w') : Below B w w' := ⟨h.os, h.tape, h.output, h.size, h.block⟩
theorem cutA {w w3 w4 : World} {m c L S W N : Int} (hb : Below w3.heap.size w3 w4) :
    Cut1 w w3 m c L S W N (.pointer (some ⟨w4.heap.size, 0, none⟩)) (.int .i64 m) (.int .i64 c) (w4.alloc (.cells #[.int .i64 L, .int .i64 S, .int .i64 W, .int .i64 N] 27)) :=
  ⟨_, rfl, rfl, rfl, hb.size, Blk.new _ _ _, hb.alloc hb.size _⟩
theorem cutB {w w3 w4 : World} {m c L S W N : Int} (hb : Below (w3.heap.size + 1) (w3.alloc (.cells #[.int .i64 0, .int .i64 0, .int .i64 0, .int .i64 0] 27)) w4) :
    Cut1 w w3 m c L S W N (.pointer (some ⟨w3.heap.size, 0, none⟩)) (.int .i64 m) (.int .i64 c)
      ((((w4.setCell ⟨w3.heap.size, 0, none⟩ (.int .i64 L)).setCell ⟨w3.heap.size, 1, none⟩ (.int .i64 S)).setCell ⟨w3.heap.size, 2, none⟩ (.int .i64 W)).setCell ⟨w3.heap.size, 3, none⟩ (.int .i64 N)) := by
  have b0 : Blk w4 w3.heap.size 27 #[.int .i64 0, .int .i64 0, .int .i64 0, .int .i64 0] := (Blk.new _ _ _).below hb (by omega)
  have e : Below w3.heap.size w3 w4 := ((Below.refl _ _).alloc (Nat.le_refl _) _).trans (hb.mono (by omega))
  exact ⟨_, rfl, rfl, rfl, Nat.le_refl _, ((((b0.set_ 0 _).set_ 1 _).set_ 2 _).set_ 3 _), (((e.setCell (Nat.le_refl _) _).setCell (Nat.le_refl _) _).setCell (Nat.le_refl _) _).setCell (Nat.le_refl _) _⟩

set_option maxHeartbeats 4000000 in
theorem walk (n : Int) (A : Option Addr) (len cap : Nat) (xs : List (Int × Int)) (w : World) (hx : IsSteps w A len xs) :
    Calls Try.prog 5 #[.int .i64 n, .slice A len cap] w fun e w' => e = .returned (.bool true) ∧ Below w.heap.size w w' := by
  by_cases h : n < 1 ∨ n > 1000000000000
  · have hml := hx.2.1
    unfold maxLen at hml
    clear hx
    by_cases hlen : (len : Int) > 200
    · go_enter Try.func5, Try.ntmps5
      go_wp2_with fail
      refine (new_bad n w h).mono ?_
      rintro e w1 ⟨rfl, rfl⟩
      go_wp2_with fail
      refine (rnew_bad n w h).mono ?_
      rintro e w1 ⟨rfl, hb⟩
      go_wp2_with fail
      refine (awake_any _).mono ?_
      rintro e w2 ⟨rfl, hb2⟩
      go_wp2
      go_ret
      exact ⟨rfl, (hb.alloc hb.size _).trans (hb2.mono (by simp; have := hb.size; omega))⟩
    · go_enter Try.func5, Try.ntmps5
      go_wp2_with fail
      refine (new_bad n w h).mono ?_
      rintro e w1 ⟨rfl, rfl⟩
      go_wp2_with fail
      refine (rnew_bad n w h).mono ?_
      rintro e w1 ⟨rfl, hb⟩
      go_wp2_with fail
      refine (awake_any _).mono ?_
      rintro e w2 ⟨rfl, hb2⟩
      go_wp2
      go_ret
      exact ⟨rfl, (hb.alloc hb.size _).trans (hb2.mono (by simp; have := hb.size; omega))⟩
  · have h1 : 1 ≤ n := by omega
    have h2 : n ≤ 1000000000000 := by omega
    clear h
    have hml := hx.2.1
    unfold maxLen at hml
    by_cases hlen : len > 200
    · clear hx
      go_enter Try.func5, Try.ntmps5
      go_wp2_with fail
      refine (new_ok n w h1 h2).mono ?_
      rintro e w1 ⟨rfl, hB, hb, hsz⟩
      go_wp2_with fail
      refine (rnew_ok n w1 h1 h2).mono ?_
      rintro e w2 ⟨rfl, hb2⟩
      have hsz2 := hb2.size
      go_wp2_with fail
      refine (awake_any _).mono ?_
      rintro e w3 ⟨rfl, hb3⟩
      go_wp2
      go_ret
      exact ⟨rfl, ((hb.trans (hb2.mono (by omega))).alloc (by omega) _).trans (hb3.mono (by simp; omega))⟩
    · have HX := Lib.hid hx
      clear hx
      go_enter Try.func5, Try.ntmps5
      go_wp2_with fail
      refine (new_ok n w h1 h2).mono ?_
      rintro e w1 ⟨rfl, hB, hb, hsz⟩
      go_wp2_with fail
      refine (rnew_ok n w1 h1 h2).mono ?_
      rintro e w2 ⟨rfl, hb2⟩
      have hsz2 := hb2.size
      have hR : Rel w w.heap.size w2.heap.size len (.int .i64 0) (w2.alloc (.cells #[.int .i64 n, .int .i64 1, .int .i64 0, .int .i64 0] 27)) :=
        ⟨0, ⟨n, 1, 0, 0⟩, by omega, rfl, ok0 n h1 h2, by simp, (hB.blk.below hb2 hsz).alloc _, Blk.new _ _ _, (hb.trans (hb2.mono (by omega))).alloc (by omega) _⟩
      have hgx : w.heap.size < w2.heap.size := by omega
      clear hB hb hsz hb2 hsz2
      go_wp2
      go_loopw [9] (fun i wr => Rel w w.heap.size w2.heap.size len i wr) (fun i _ => len - (intOf i).toNat)
      case atStart => exact hR
      case round =>
        obtain ⟨k, s, hk, rfl, hs, hN, hB, hXb, hb⟩ := hrel
        by_cases hlt : k < len
        · obtain ⟨x, hxk⟩ : ∃ x, xs[k]? = some x := ⟨xs[k]'(by rw [HX.out.1]; exact hlt), List.getElem?_eq_getElem _⟩
          obtain ⟨b, o, rfl, hbl, hc0, hc1, hrg⟩ := HX.out.2.2.2 k x hxk
          obtain ⟨op, ar⟩ := x
          have e0 := hb.cell (p := ⟨b, o + k * 2, none⟩) hbl
          have e1 := hb.cell (p := ⟨b, o + k * 2 + 1, none⟩) hbl
          rw [hc0] at e0
          rw [show o + k * 2 + 1 = o + (k * 2 + 1) from by omega, hc1] at e1
          rw [show o + (k * 2 + 1) = o + k * 2 + 1 from by omega] at e1
          have HK := Lib.hid hxk
          clear hc0 hc1 hxk
          have hN' : s.N ≤ 1000000000000000 := by omega
          have hwr := hb.size
          have hxl := hXb.lt
          go_wp2_with fail
          refine (do_any w.heap.size s op ar wr hB hs hN').mono ?_
          rintro e w3 ⟨m3, c3, rfl, hm3, hc3, hB3, hf3⟩
          have E0 := hf3.block b (by omega) (by omega)
          have f0 : w3.cell? ⟨b, o + k * 2, none⟩ = some (.int .i64 op) := by rw [← e0]; unfold World.cell?; rw [E0]
          have f1 : w3.cell? ⟨b, o + k * 2 + 1, none⟩ = some (.int .i64 ar) := by rw [← e1]; unfold World.cell?; rw [E0]
          have hX3 := hXb.fr hf3 (by omega)
          have x0 := hX3.cell 0
          have x1 := hX3.cell 1
          have x2 := hX3.cell 2
          have x3 := hX3.cell 3
          simp at x0 x1 x2 x3
          have hz3 := hf3.size
          have hxl3 := hX3.lt
          have hsh := fun W => should_any s op ar W hs hN'
          have hok := St.step_ok hs op ar
          have hNs := St.step_N hs op ar
          generalize s.step op ar = y at hm3 hc3 hB3 hsh hok hNs
          obtain ⟨⟨L1, S1, W1, N1⟩, m1, c1⟩ := y
          simp only at hm3 hc3 hNs hok hB3
          obtain rfl := hm3
          obtain rfl := hc3
          have hsh' : ∀ W : World, Calls Try.prog 18 #[.agg #[.int .i64 s.L, .int .i64 s.S, .int .i64 s.W, .int .i64 s.N], .agg #[.int .i64 op, .int .i64 ar]] W fun e w' =>
              e = .returned (.tuple #[.agg #[.int .i64 L1, .int .i64 S1, .int .i64 W1, .int .i64 N1], .int .i64 m3, .int .i64 c3]) ∧ Below W.heap.size W w' := hsh
          have SH := Lib.hid hsh'
          clear hsh'
          have b3 : Below w.heap.size w w3 := hb.trans (hf3.below hwr (fun i _ h => by omega))
          clear e0 e1 E0 hsh
          have hb0 : w3.heap.size ≠ b := by omega
          have hb0' : b ≠ w3.heap.size := by omega
          have hx0 : w2.heap.size ≠ w3.heap.size := by omega
          have hb9 : b < w3.heap.size := by omega
          have i1 : (0 : Int) ≤ (k : Int) := by omega
          have i2 : (k : Int) < (len : Int) := by omega
          go_upto_region 11 with fail
          go_cut [12, 13, 14] (fun s12 s13 s14 wx => Cut1 w w3 m3 c3 L1 S1 W1 N1 s12 s13 s14 wx)
          case first =>
            go_region_with ((go_at_call 18; refine (SH.out _).mono ?_; rintro e w4 ⟨rfl, hb4⟩; have hb5 := undrew hb4; (try simp only [World.size_alloc, World.size_drew] at hb5); obtain ⟨hc4, hf4⟩ := bcell hb4; have hz4 : w3.heap.size ≤ w4.heap.size := by (have := hb4.size; (try simp only [World.size_alloc, World.size_drew] at this); omega)))
            all_goals (go_wp2_with fail; go_meet; first | (with_reducible exact cutA hb5) | (with_reducible exact cutB hb5))
          case rest =>
            obtain ⟨gy, rfl, rfl, rfl, hgy, hY, hb5⟩ := hcut
            have y0 := hY.cell 0
            have y1 := hY.cell 1
            have y2 := hY.cell 2
            have y3 := hY.cell 3
            simp at y0 y1 y2 y3
            have hB5 : IsB _ w.heap.size ⟨L1, S1, W1, N1⟩ := hB3.blk.below hb5 (by omega)
            have hX5 := hX3.below hb5 (by omega)
            go_wp2_with fail
            refine (is_same _ _ _ hB5).mono ?_
            rintro e w6 ⟨rfl, hb6⟩
            have hY6 := hY.below hb6 hY.lt
            have hX6 := hX5.below hb6 hX5.lt
            have hB6 : IsB w6 w.heap.size ⟨L1, S1, W1, N1⟩ := hB5.blk.below hb6 hB5.blk.lt
            have y0 := hY6.cell 0
            have y1 := hY6.cell 1
            have y2 := hY6.cell 2
            have y3 := hY6.cell 3
            have x0 := hX6.cell 0
            have x1 := hX6.cell 1
            have x2 := hX6.cell 2
            have x3 := hX6.cell 3
            have z0 := hX6.frozen 0
            have z1 := hX6.frozen 1
            have z2 := hX6.frozen 2
            have z3 := hX6.frozen 3
            simp at y0 y1 y2 y3 x0 x1 x2 x3
            have HE : Hid (Rel w w.heap.size w2.heap.size len (.int .i64 ((k + 1 : Nat) : Int)) ((((w6.setCell ⟨w2.heap.size, 0, none⟩ (.int .i64 L1)).setCell ⟨w2.heap.size, 1, none⟩ (.int .i64 S1)).setCell ⟨w2.heap.size, 2, none⟩ (.int .i64 W1)).setCell ⟨w2.heap.size, 3, none⟩ (.int .i64 N1))) := by
              have hz5 := hb5.size
              have hz6 := hb6.size
              refine ⟨k + 1, ⟨L1, S1, W1, N1⟩, by omega, rfl, hok, by show N1 ≤ _; omega, ?_, ?_, ?_⟩
              · exact Blk.far (Blk.far (Blk.far (Blk.far hB6.blk (p := ⟨w2.heap.size, 0, none⟩) (by simp; omega) _) (p := ⟨w2.heap.size, 1, none⟩) (by simp; omega) _) (p := ⟨w2.heap.size, 2, none⟩) (by simp; omega) _) (p := ⟨w2.heap.size, 3, none⟩) (by simp; omega) _
              · exact (((hX6.set_ 0 _).set_ 1 _).set_ 2 _).set_ 3 _
              · exact ((((((b3.trans (hb5.mono (by omega))).trans (hb6.mono (by omega))).setCell (by simp; omega) _).setCell (by simp; omega) _).setCell (by simp; omega) _).setCell (by simp; omega) _)
            clear hY hY6 hX5 hX6 hB5 hB6 hb5 hb6 hB3 hX3 hf3 b3
            go_wp2
            go_roundw
            case rel => exact HE.out
            case measure => simp [intOf]; omega
        · go_wp2_with fail
          refine (awake_any _).mono ?_
          rintro e w3 ⟨rfl, hb3⟩
          go_wp2
          go_ret
          exact ⟨rfl, hb.trans (hb3.mono hb.size)⟩

theorem own : ownKnob Try.prog.godebug = none := by kernel_rfl
theorem laidOut : laidOutB Try.prog = true := by kernel_rfl

set_option maxRecDepth 100000 in
theorem lifted (os : Os) (started : os.Started) (H : Type) (enc : TypeId × Value → H) :
    ReturnsInHanded {} Try.checked os 5 .any (Rows.bladeRunsSpec.pre6 enc Try.prog Try.f5 Rows.bladeRunsRow.domain false) (Rows.bladeRunsSpec.post enc Try.prog Try.f5 false true false false) := by
  refine returnsInHanded_of_change (C := Try.checked) own started (by kernel_rfl) Try.func5
    (ChangeSpec.witness6 (enc := enc) (C := Try.checked) false ⟨#[], #[.int .i64 0, .slice none 0 0], []⟩ 8 (by kernel_rfl) (by kernel_rfl) (by kernel_rfl) (by kernel_rfl)) ?_
  intro W base args ds gs before hval0 hW hcnd _
  have hval : ∀ (j : Nat) t v, Try.f5.params[j]? = some t → args[j]? = some v → Value.okWide Try.prog W .any base t v := hval0
  have hW' := hW
  obtain ⟨p, q, hA0, hV, rfl, hfz, hnd⟩ := hW
  have hA : DataW.TrodAll enc Try.prog W 0 (fun _ => true) true Try.f5.params.toList args.toList ds p := hA0
  rw [Try.params5] at hA hval
  obtain ⟨v0, vs0, d0, ds0, p0, q0, hargs, rfl, rfl, h0, r0⟩ := trodAll_cons hA
  obtain ⟨v1, vs1, d1, ds1, p1, q1, rfl, rfl, rfl, h1, r1⟩ := trodAll_cons r0
  obtain ⟨rfl, rfl, rfl⟩ := trodAll_nil r1
  obtain rfl : args = #[v0, v1] := by cases args; simp_all
  obtain ⟨rfl, rfl⟩ := trodVars_none hV
  have k0 := h0
  have lt0 : ∀ x ∈ p0, x.block < W.heap.size := by obtain ⟨m, hm⟩ := k0; exact DataW.trod_lt m _ _ _ hm
  have ok0 := hval 0 3 v0 rfl rfl
  obtain ⟨a0, rfl, _, _, w0⟩ := open_int Try.underlying3 ok0 h0
  have k1 := h1
  have lt1 : ∀ x ∈ p1, x.block < W.heap.size := by obtain ⟨m, hm⟩ := k1; exact DataW.trod_lt m _ _ _ hm
  have ok1 := hval 1 39 v1 rfl rfl
  obtain ⟨A1, len1, cap1, xs1, rfl, hx1⟩ := open_steps ok1 h1
  clear hA0 hval0
  refine (walk a0 A1 len1 cap1 xs1 W hx1).mono fun e W' ⟨he, bel⟩ => ?_
  subst he
  exact ⟨_, rfl, _, _, _, [], _, [], hW', trodAll_mk1 (shut_bool Try.underlying4 _), (trodAll_cons_mk (Below.trod laidOut (by kernel_rfl) (of_decide_eq_true (by kernel_rfl)) k0 bel lt0) (trodAll_cons_mk (Below.trod laidOut (by kernel_rfl) (of_decide_eq_true (by kernel_rfl)) k1 bel lt1) trodAll_mk0)), rfl, bel.frame _, fun h => by cases h⟩

theorem over : Rows.bladeRunsRow.holds Try.pinned (OpenSpec.ofChange Rows.bladeRunsSpec) :=
  OpenClaim.holds_of_wide 5 Try.f5 rfl rfl rfl rfl rfl rfl rfl ⟨rfl, rfl, rfl, rfl, rfl⟩ rfl rfl rfl rfl rfl (by kernel_rfl) Try.func5 (by kernel_rfl)
    (of_decide_eq_true (by kernel_rfl)) (by unfold Func.isWrapper; first | (rw [if_pos (by decide +kernel)]; kernel_rfl) | (rw [if_neg (by decide +kernel)]; exact ⟨rfl, rfl⟩))
    (fun os started H enc _ => lifted os started H enc)

theorem proved : Rows.BladeRunsSaid := over
end Go.Proofs.Ytlbooffoebjllaa.bladeRuns
