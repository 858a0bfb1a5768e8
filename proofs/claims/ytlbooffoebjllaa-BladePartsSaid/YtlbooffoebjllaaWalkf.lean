/-
  The walks of the reference (sawmillref28).
-/
import Derived.Test.YtlbooffoebjllaaWalke
import Derived.Deep.QuietTactic
import Derived.BigQuiet
namespace Go.Proofs.Ytlbooffoebjllaa
open Go.RowKit

theorem below_drewN {B : Nat} {a w : World} (h : Below B a w) (n : Nat) : Below B a (w.drewN n) := ⟨h.os, h.tape, h.output, h.size, h.block⟩

/-- A blade of the reference as a value. -/
def St.agg (s : St) : Value := .agg #[.int .i64 s.L, .int .i64 s.S, .int .i64 s.W, .int .i64 s.N]

set_option maxHeartbeats 400000 in
theorem rnew_bad (n : Int) (w : World) (h : n < 1 ∨ n > 1000000000000) :
    Calls Try.prog 10 #[.int .i64 n] w fun e w' => e = .returned (.tuple #[.agg #[.int .i64 0, .int .i64 0, .int .i64 0, .int .i64 0], .int .i64 9]) ∧ Below w.heap.size w w' := by
  by_cases h1 : n < 1
  · clear h
    go_enter Try.func10, Try.ntmps10
    go_wp2
    exact bodyPost_ret (v := .tuple #[.agg #[.int .i64 0, .int .i64 0, .int .i64 0, .int .i64 0], .int .i64 9]) (by simp [results, Try.results10, go_sem]) rfl ⟨rfl, (Below.refl _ _).alloc (Nat.le_refl _) _⟩
  · have h2 : n > 1000000000000 := by omega
    clear h
    go_enter Try.func10, Try.ntmps10
    go_wp2
    exact bodyPost_ret (v := .tuple #[.agg #[.int .i64 0, .int .i64 0, .int .i64 0, .int .i64 0], .int .i64 9]) (by simp [results, Try.results10, go_sem]) rfl ⟨rfl, (Below.refl _ _).alloc (Nat.le_refl _) _⟩

set_option maxHeartbeats 400000 in
theorem rnew_ok (n : Int) (w : World) (h1 : 1 ≤ n) (h2 : n ≤ 1000000000000) :
    Calls Try.prog 10 #[.int .i64 n] w fun e w' => e = .returned (.tuple #[.agg #[.int .i64 n, .int .i64 1, .int .i64 0, .int .i64 0], .int .i64 0]) ∧ Below w.heap.size w w' := by
  go_enter Try.func10, Try.ntmps10
  go_wp2
  exact bodyPost_ret (v := .tuple #[.agg #[.int .i64 n, .int .i64 1, .int .i64 0, .int .i64 0], .int .i64 0]) (by simp [results, Try.results10, go_sem]) rfl ⟨rfl, (Below.refl _ _).alloc (Nat.le_refl _) _⟩

set_option maxHeartbeats 400000 in
theorem rstart_any (L S W N : Int) (w : World) :
    Calls Try.prog 26 #[.agg #[.int .i64 L, .int .i64 S, .int .i64 W, .int .i64 N]] w fun e w' => e = .returned (.tuple #[(St.start ⟨L, S, W, N⟩).1.agg, .int .i64 (St.start ⟨L, S, W, N⟩).2]) ∧ Below w.heap.size w w' := by
  by_cases h4 : S = 4
  · have e1 : St.start ⟨L, S, W, N⟩ = (⟨L, 4, W, N⟩, 17) := by simp [St.start, h4]
    subst h4
    rw [e1]
    go_enter Try.func26, Try.ntmps26
    go_wp2
    exact bodyPost_ret (v := .tuple #[.agg #[.int .i64 L, .int .i64 4, .int .i64 W, .int .i64 N], .int .i64 17]) (by simp [results, Try.results26, go_sem]) rfl ⟨rfl, ((Below.refl _ _).alloc (Nat.le_refl _) _).alloc (by simp) _⟩
  · by_cases h2 : S = 2
    · have e1 : St.start ⟨L, S, W, N⟩ = (⟨L, 2, W, N⟩, 14) := by simp [St.start, h2]
      subst h2
      rw [e1]
      go_enter Try.func26, Try.ntmps26
      go_wp2
      exact bodyPost_ret (v := .tuple #[.agg #[.int .i64 L, .int .i64 2, .int .i64 W, .int .i64 N], .int .i64 14]) (by simp [results, Try.results26, go_sem]) rfl ⟨rfl, ((Below.refl _ _).alloc (Nat.le_refl _) _).alloc (by simp) _⟩
    · have e1 : St.start ⟨L, S, W, N⟩ = (⟨L, 2, W, N⟩, 0) := by simp [St.start, h2, h4]
      have k4 : (S == 4) = false := by simpa using h4
      have k2 : (S == 2) = false := by simpa using h2
      rw [e1]
      clear h4 h2 e1
      go_enter Try.func26, Try.ntmps26
      go_wp2
      exact bodyPost_ret (v := .tuple #[.agg #[.int .i64 L, .int .i64 2, .int .i64 W, .int .i64 N], .int .i64 0]) (by simp [results, Try.results26, go_sem]) rfl ⟨rfl, ((Below.refl _ _).alloc (Nat.le_refl _) _).alloc (by simp) _⟩

set_option maxHeartbeats 400000 in
theorem rstop_any (L S W N : Int) (w : World) :
    Calls Try.prog 28 #[.agg #[.int .i64 L, .int .i64 S, .int .i64 W, .int .i64 N]] w fun e w' => e = .returned (.tuple #[(St.stop ⟨L, S, W, N⟩).1.agg, .int .i64 (St.stop ⟨L, S, W, N⟩).2]) ∧ Below w.heap.size w w' := by
  by_cases h2 : S = 2
  · have e1 : St.stop ⟨L, S, W, N⟩ = (⟨L, 3, W, N⟩, 0) := by simp [St.stop, h2]
    subst h2
    rw [e1]
    go_enter Try.func28, Try.ntmps28
    go_wp2
    exact bodyPost_ret (v := .tuple #[.agg #[.int .i64 L, .int .i64 3, .int .i64 W, .int .i64 N], .int .i64 0]) (by simp [results, Try.results28, go_sem]) rfl ⟨rfl, ((Below.refl _ _).alloc (Nat.le_refl _) _).alloc (by simp) _⟩
  · have e1 : St.stop ⟨L, S, W, N⟩ = (⟨L, S, W, N⟩, 14) := by simp [St.stop, h2]
    have k2 : (S == 2) = false := by simpa using h2
    have k3 : (S != 2) = true := by simpa using h2
    rw [e1]
    clear h2 e1
    go_enter Try.func28, Try.ntmps28
    go_wp2
    exact bodyPost_ret (v := .tuple #[.agg #[.int .i64 L, .int .i64 S, .int .i64 W, .int .i64 N], .int .i64 14]) (by simp [results, Try.results28, go_sem]) rfl ⟨rfl, ((Below.refl _ _).alloc (Nat.le_refl _) _).alloc (by simp) _⟩

set_option maxHeartbeats 400000 in
theorem rsharpen_any (L S W N : Int) (w : World) :
    Calls Try.prog 29 #[.agg #[.int .i64 L, .int .i64 S, .int .i64 W, .int .i64 N]] w fun e w' => e = .returned (.tuple #[(St.sharpen ⟨L, S, W, N⟩).1.agg, .int .i64 (St.sharpen ⟨L, S, W, N⟩).2]) ∧ Below w.heap.size w w' := by
  by_cases h2 : S = 2
  · have e1 : St.sharpen ⟨L, S, W, N⟩ = (⟨L, 2, W, N⟩, 14) := by simp [St.sharpen, h2]
    subst h2
    rw [e1]
    go_enter Try.func29, Try.ntmps29
    go_wp2
    exact bodyPost_ret (v := .tuple #[.agg #[.int .i64 L, .int .i64 2, .int .i64 W, .int .i64 N], .int .i64 14]) (by simp [results, Try.results29, go_sem]) rfl ⟨rfl, ((Below.refl _ _).alloc (Nat.le_refl _) _).alloc (by simp) _⟩
  · have e1 : St.sharpen ⟨L, S, W, N⟩ = (⟨L, 1, 0, N⟩, 0) := by simp [St.sharpen, h2]
    have k2 : (S == 2) = false := by simpa using h2
    rw [e1]
    clear h2 e1
    go_enter Try.func29, Try.ntmps29
    go_wp2
    exact bodyPost_ret (v := .tuple #[.agg #[.int .i64 L, .int .i64 1, .int .i64 0, .int .i64 N], .int .i64 0]) (by simp [results, Try.results29, go_sem]) rfl ⟨rfl, ((Below.refl _ _).alloc (Nat.le_refl _) _).alloc (by simp) _⟩

set_option maxHeartbeats 400000 in
theorem is_same (g : Nat) (s : St) (w : World) (h : IsB w g s) : Calls Try.prog 11 #[.pointer (some ⟨g, 0, none⟩), s.agg] w fun e w' => e = .returned (.bool true) ∧ Below w.heap.size w w' := by
  obtain ⟨L, S, W, N⟩ := s
  have h' : ∀ n, IsB ((w.alloc (.cells #[.int .i64 L, .int .i64 S, .int .i64 W, .int .i64 N] 27)).drewN n) g ⟨L, S, W, N⟩ := fun n => h.blk.alloc _
  have H := Lib.hid h'
  clear h h'
  unfold St.agg
  go_enter Try.func11, Try.ntmps11
  go_wp2
  go_quiet (first | (go_at_call 15; exact (state_any g _ _ (H.out _)).mono fun _ _ ⟨he, hw⟩ => ⟨he, _, hw.symm⟩) | (go_at_call 16; exact (wear_any g _ _ (H.out _)).mono fun _ _ ⟨he, hw⟩ => ⟨he, _, hw.symm⟩) | (go_at_call 19; exact (sawn_any g _ _ (H.out _)).mono fun _ _ ⟨he, hw⟩ => ⟨he, _, hw.symm⟩))
  go_wp2
  go_ret
  exact ⟨rfl, below_drewN ((Below.refl _ _).alloc (Nat.le_refl _) _) _⟩

/-- What the reference's Cut returns. -/
def RCutEnd (L S W N a : Int) (w : World) (e : Ending) (w' : World) : Prop :=
  e = .returned (.tuple #[(St.cut ⟨L, S, W, N⟩ a).1.agg, .int .i64 (St.cut ⟨L, S, W, N⟩ a).2.1, .int .i64 (St.cut ⟨L, S, W, N⟩ a).2.2]) ∧ Below w.heap.size w w'

set_option maxHeartbeats 400000 in
theorem rcut_state (L S W N a : Int) (w : World) (h : S ≠ 2) : Calls Try.prog 27 #[.agg #[.int .i64 L, .int .i64 S, .int .i64 W, .int .i64 N], .int .i64 a] w (RCutEnd L S W N a w) := by
  have e1 : Hid (St.cut ⟨L, S, W, N⟩ a = (⟨L, S, W, N⟩, 0, 14)) := by show St.cut _ _ = _; unfold St.cut; rw [if_pos h]
  have k3 : (S != 2) = true := by simpa using h
  clear h
  go_enter Try.func27, Try.ntmps27
  go_wp2
  refine bodyPost_ret (v := .tuple #[.agg #[.int .i64 L, .int .i64 S, .int .i64 W, .int .i64 N], .int .i64 0, .int .i64 14]) (by simp [results, Try.results27, go_sem]) rfl ?_
  unfold RCutEnd
  rw [e1.out]
  exact ⟨rfl, ((Below.refl _ _).alloc (Nat.le_refl _) _).alloc (by simp) _⟩

set_option maxHeartbeats 400000 in
theorem rcut_bad (L W N a : Int) (w : World) (h : a < 0 ∨ a > 10000000000) : Calls Try.prog 27 #[.agg #[.int .i64 L, .int .i64 2, .int .i64 W, .int .i64 N], .int .i64 a] w (RCutEnd L 2 W N a w) := by
  have e1 : Hid (St.cut ⟨L, 2, W, N⟩ a = (⟨L, 2, W, N⟩, 0, 9)) := by show St.cut _ _ = _; unfold St.cut; rw [if_neg (by simp), if_pos h]
  by_cases b : a < 0
  · clear h
    go_enter Try.func27, Try.ntmps27
    go_wp2
    refine bodyPost_ret (v := .tuple #[.agg #[.int .i64 L, .int .i64 2, .int .i64 W, .int .i64 N], .int .i64 0, .int .i64 9]) (by simp [results, Try.results27, go_sem]) rfl ?_
    unfold RCutEnd
    rw [e1.out]
    exact ⟨rfl, ((Below.refl _ _).alloc (Nat.le_refl _) _).alloc (by simp) _⟩
  · have b2 : a > 10000000000 := by omega
    clear h
    go_enter Try.func27, Try.ntmps27
    go_wp2
    refine bodyPost_ret (v := .tuple #[.agg #[.int .i64 L, .int .i64 2, .int .i64 W, .int .i64 N], .int .i64 0, .int .i64 9]) (by simp [results, Try.results27, go_sem]) rfl ?_
    unfold RCutEnd
    rw [e1.out]
    exact ⟨rfl, ((Below.refl _ _).alloc (Nat.le_refl _) _).alloc (by simp) _⟩

set_option maxHeartbeats 400000 in
theorem rcut_ok (L W N a : Int) (w : World) (a1 : 0 ≤ a) (a2 : a ≤ 10000000000) (l1 : 1 ≤ L) (l2 : L ≤ 1000000000000) (w1 : 0 ≤ W) (w2 : W ≤ L) (n1 : 0 ≤ N) (n2 : N ≤ 1000000000000000) :
    Calls Try.prog 27 #[.agg #[.int .i64 L, .int .i64 2, .int .i64 W, .int .i64 N], .int .i64 a] w (RCutEnd L 2 W N a w) := by
  have e1 : Hid (St.cut ⟨L, 2, W, N⟩ a = (⟨L, if W + min a (L - W) = L then 4 else 2, W + min a (L - W), N + min a (L - W)⟩, min a (L - W), 0)) := by show St.cut _ _ = _; unfold St.cut; rw [if_neg (by simp), if_neg (by omega)]
  by_cases b : L - W < a
  · have e2 : Hid (min a (L - W) = L - W) := by show min a (L - W) = L - W; omega
    have e3 : (W + (L - W) == L) = true := by simp; omega
    have e4 : Hid (W + (L - W) = L) := by show W + (L - W) = L; omega
    go_enter Try.func27, Try.ntmps27
    go_wp2
    refine bodyPost_ret (v := .tuple #[.agg #[.int .i64 L, .int .i64 4, .int .i64 (W + (L - W)), .int .i64 (N + (L - W))], .int .i64 (L - W), .int .i64 0]) (by simp [results, Try.results27, go_sem]) rfl ?_
    unfold RCutEnd
    rw [e1.out, e2.out, if_pos e4.out]
    exact ⟨rfl, ((Below.refl _ _).alloc (Nat.le_refl _) _).alloc (by simp) _⟩
  · have e2 : Hid (min a (L - W) = a) := by show min a (L - W) = a; omega
    have e5 : a ≤ L - W := by omega
    by_cases b2 : W + a = L
    · have e4 := Lib.hid b2
      have e3 : (W + a == L) = true := by simp; omega
      clear b2 b
      go_enter Try.func27, Try.ntmps27
      go_wp2
      refine bodyPost_ret (v := .tuple #[.agg #[.int .i64 L, .int .i64 4, .int .i64 (W + a), .int .i64 (N + a)], .int .i64 a, .int .i64 0]) (by simp [results, Try.results27, go_sem]) rfl ?_
      unfold RCutEnd
      rw [e1.out, e2.out, if_pos e4.out]
      exact ⟨rfl, ((Below.refl _ _).alloc (Nat.le_refl _) _).alloc (by simp) _⟩
    · have e4 := Lib.hid b2
      have e3 : (W + a == L) = false := by simp; omega
      clear b2 b
      go_enter Try.func27, Try.ntmps27
      go_wp2
      refine bodyPost_ret (v := .tuple #[.agg #[.int .i64 L, .int .i64 2, .int .i64 (W + a), .int .i64 (N + a)], .int .i64 a, .int .i64 0]) (by simp [results, Try.results27, go_sem]) rfl ?_
      unfold RCutEnd
      rw [e1.out, e2.out, if_neg e4.out]
      exact ⟨rfl, ((Below.refl _ _).alloc (Nat.le_refl _) _).alloc (by simp) _⟩

theorem rcut_any (s : St) (a : Int) (w : World) (hs : s.Ok) (hN : s.N ≤ 1000000000000000) : Calls Try.prog 27 #[s.agg, .int .i64 a] w fun e w' => e = .returned (.tuple #[(s.cut a).1.agg, .int .i64 (s.cut a).2.1, .int .i64 (s.cut a).2.2]) ∧ Below w.heap.size w w' := by
  obtain ⟨L, S, W, N⟩ := s
  by_cases h : S = 2
  · subst h
    by_cases b : a < 0 ∨ a > 10000000000
    · exact rcut_bad L W N a w b
    · exact rcut_ok L W N a w (by omega) (by omega) hs.l1 hs.l2 hs.w1 hs.w2 hs.n1 hN
  · exact rcut_state L S W N a w h

end Go.Proofs.Ytlbooffoebjllaa
