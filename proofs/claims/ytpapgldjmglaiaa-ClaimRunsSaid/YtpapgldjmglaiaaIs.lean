/-
  The walk of the law's is: an account beside the reference's.
-/
import Derived.Test.YtpapgldjmglaiaaRefc
namespace Go.Proofs.Ytpapgldjmglaiaa
open Go.RowKit
attribute [local go_sem ↓] Go.wp_at_zero Go.wp_at_succ

set_option maxRecDepth 100000 in
set_option maxHeartbeats 4000000 in
theorem is_any (g r K : Nat) (a : Ac) (A : Option Addr) (n cap : Nat) (l : List Cr) (per : Int) (w : World) (h : IsA w g r a) (hc : RC w A n l) (hr : RL a l) (ok : a.Ok K) (hp : -9223372036854775808 ≤ per ∧ per ≤ 9223372036854775807) :
    Calls Try.prog 13 #[.pointer (some ⟨g, 0, none⟩), rv a A n cap, .int .i64 per] w fun e w' => e = .returned (.bool true) ∧ Same w w' := by
  have hs0 := box30 w (rcs a A n cap)
  have b0 := Blk.new w 30 (rcs a A n cap)
  obtain ⟨W0, hW0⟩ : ∃ W0, w.alloc (.cells (rcs a A n cap) 30) = W0 := ⟨_, rfl⟩
  rw [hW0] at hs0 b0
  have H15 : Hid (∀ (W : World) (p : Int), Same W0 W → Calls Try.prog 15 #[.pointer (some ⟨g, 0, none⟩), .int .i64 p] W fun e W' => e = .returned (.int .i64 (a.left p)) ∧ Same W W') := fun W p hW => left_any g r K a p W ((h.same hs0).same hW) ok
  have H16 : Hid (∀ (W : World) (p : Int), Same W0 W → Calls Try.prog 16 #[.pointer (some ⟨g, 0, none⟩), .int .i64 p] W fun e W' => e = .returned (.int .i64 (a.expired p)) ∧ Same W W') := fun W p hW => expired_any g r K a p W ((h.same hs0).same hW) ok
  have H14 : Hid (∀ (W : World), Same W0 W → Calls Try.prog 14 #[.pointer (some ⟨g, 0, none⟩)] W fun e W' => e = .returned (.tuple #[.int .i64 a.cr, .int .i64 a.cl]) ∧ Same W W') := fun W hW => totals_any g r a W ((h.same hs0).same hW)
  have H21 : Hid (∀ (W : World) (p : Int), Same W0 W → Calls Try.prog 21 #[rv a A n cap, .int .i64 p] W fun e W' => e = .returned (.int .i64 (a.left p)) ∧ Same W W') := fun W p hW => rleft_any a K A n cap l p W ((hc.same hs0).same hW) hr ok
  have H22 : Hid (∀ (W : World) (p : Int), Same W0 W → Calls Try.prog 22 #[rv a A n cap, .int .i64 p] W fun e W' => e = .returned (.int .i64 (a.expired p)) ∧ Same W W') := fun W p hW => rexpired_any a K A n cap l p W ((hc.same hs0).same hW) hr ok
  have HW0 := Lib.hid hW0
  have HS0 := Lib.hid hs0
  have hrcs : rcs a A n cap = #[.int .i64 a.F, .int .i64 a.P, .int .i64 a.T, .int .i64 a.cr, .int .i64 a.cl, .slice A n cap] := rfl
  rw [hrcs] at HW0 b0
  have B0 := Lib.hid b0
  unfold rv at H21 H22 ⊢
  rw [hrcs] at H21 H22 ⊢
  have HC : Hid (∀ W, Same W0 W → W.cell? ⟨w.heap.size, 0, none⟩ = some (.int .i64 a.F) ∧ W.cell? ⟨w.heap.size, 1, none⟩ = some (.int .i64 a.P) ∧ W.cell? ⟨w.heap.size, 2, none⟩ = some (.int .i64 a.T) ∧ W.cell? ⟨w.heap.size, 3, none⟩ = some (.int .i64 a.cr) ∧ W.cell? ⟨w.heap.size, 4, none⟩ = some (.int .i64 a.cl) ∧ W.cell? ⟨w.heap.size, 5, none⟩ = some (.slice A n cap)) := fun W hW => (B0.out.fr hW (fun x => x)).cells6.1
  clear h hc hr ok hs0 b0 hW0 hrcs
  generalize a.left = fl at H15 H21
  generalize a.expired = fe at H16 H22
  obtain ⟨F, P, T, cr, cl, f⟩ := a
  simp only at HW0 H14 H21 H22 HC ⊢
  go_enter Try.func13, Try.ntmps13
  go_wp2
  rw [HW0.out]
  clear HW0
  go_loopw [7] (fun i wr => ∃ k : Int, -2 ≤ k ∧ k ≤ 3 ∧ i = .int .i64 k ∧ Same W0 wr) (fun i _ => (3 - intOf i).toNat)
  case atStart => exact ⟨-2, by omega, by omega, rfl, Same.refl _⟩
  case round =>
    obtain ⟨k, hk1, hk2, rfl, hs⟩ := hrel
    have hcell := HC.out _ hs
    by_cases hlt : k ≤ 2
    · have hcase : 1001000 < per ∨ per ≤ -1000 ∨ (per ≤ 1001000 ∧ -1000 < per) := by omega
      rcases hcase with h1 | h1 | ⟨h1, h2⟩
      all_goals
        go_upto_region 5 with fail
        go_region_held3 (fun W => W.cell? ⟨w.heap.size, 0, none⟩ = some (.int .i64 F) ∧ W.cell? ⟨w.heap.size, 1, none⟩ = some (.int .i64 P) ∧ W.cell? ⟨w.heap.size, 2, none⟩ = some (.int .i64 T) ∧ W.cell? ⟨w.heap.size, 3, none⟩ = some (.int .i64 cr) ∧ W.cell? ⟨w.heap.size, 4, none⟩ = some (.int .i64 cl) ∧ W.cell? ⟨w.heap.size, 5, none⟩ = some (.slice A n cap))
          (first | exact hcell | exact HC.out _ tD | exact HC.out _ tC | exact HC.out _ tB | exact HC.out _ tA)
          (first | (go_at_call 15; (first | refine (H15.out _ _ hs).mono ?_ | refine (H15.out _ _ (Fr.drew hs)).mono ?_); rintro e wA ⟨rfl, s1⟩; have tA : Same W0 wA := Fr.trans hs ⟨s1.os, s1.tape, s1.output, s1.size, s1.block⟩) | (go_at_call 21; refine (H21.out _ _ tA).mono ?_; rintro e wB ⟨rfl, s2⟩; have tB : Same W0 wB := Fr.trans tA ⟨s2.os, s2.tape, s2.output, s2.size, s2.block⟩) | (go_at_call 16; refine (H16.out _ _ tB).mono ?_; rintro e wC ⟨rfl, s3⟩; have tC : Same W0 wC := Fr.trans tB ⟨s3.os, s3.tape, s3.output, s3.size, s3.block⟩) | (go_at_call 22; refine (H22.out _ _ tC).mono ?_; rintro e wD ⟨rfl, s4⟩; have tD : Same W0 wD := Fr.trans tC ⟨s4.os, s4.tape, s4.output, s4.size, s4.block⟩))
        have HTD := Lib.hid tD
        clear tA tB tC tD s1 s2 s3 s4 hcell hs
        go_wp2
        go_roundw
        case rel => exact ⟨k + 1, by omega, by omega, rfl, HTD.out⟩
        case measure => simp [intOf]; omega
    · go_wp2_with fail
      refine (H14.out _ hs).mono ?_
      rintro e w2 ⟨rfl, s2⟩
      have t2 : Same W0 w2 := Fr.trans hs s2
      clear hcell hs s2
      have hcell := HC.out _ t2
      go_upto_region 8 with fail
      go_region_held3 (fun W => W.cell? ⟨w.heap.size, 0, none⟩ = some (.int .i64 F) ∧ W.cell? ⟨w.heap.size, 1, none⟩ = some (.int .i64 P) ∧ W.cell? ⟨w.heap.size, 2, none⟩ = some (.int .i64 T) ∧ W.cell? ⟨w.heap.size, 3, none⟩ = some (.int .i64 cr) ∧ W.cell? ⟨w.heap.size, 4, none⟩ = some (.int .i64 cl) ∧ W.cell? ⟨w.heap.size, 5, none⟩ = some (.slice A n cap))
        (first | exact hcell | exact HC.out _ tD | exact HC.out _ tC | exact HC.out _ tB | exact HC.out _ tA)
        (first | (go_at_call 15; (first | refine (H15.out _ _ t2).mono ?_ | refine (H15.out _ _ (Fr.drew t2)).mono ?_); rintro e wA ⟨rfl, s1⟩; have tA : Same W0 wA := Fr.trans t2 ⟨s1.os, s1.tape, s1.output, s1.size, s1.block⟩) | (go_at_call 21; refine (H21.out _ _ tA).mono ?_; rintro e wB ⟨rfl, s2⟩; have tB : Same W0 wB := Fr.trans tA ⟨s2.os, s2.tape, s2.output, s2.size, s2.block⟩) | (go_at_call 16; refine (H16.out _ _ tB).mono ?_; rintro e wC ⟨rfl, s3⟩; have tC : Same W0 wC := Fr.trans tB ⟨s3.os, s3.tape, s3.output, s3.size, s3.block⟩) | (go_at_call 22; refine (H22.out _ _ tC).mono ?_; rintro e wD ⟨rfl, s4⟩; have tD : Same W0 wD := Fr.trans tC ⟨s4.os, s4.tape, s4.output, s4.size, s4.block⟩))
      have HTD := Lib.hid tD
      clear tA tB tC tD s1 s2 s3 s4 hcell t2
      go_wp2
      go_ret
      exact ⟨rfl, Fr.trans HS0.out HTD.out⟩

end Go.Proofs.Ytpapgldjmglaiaa
