/-
  The walk of the law's should.
-/
import Derived.Test.YtlbooffoebjllaaWalkg
namespace Go.Proofs.Ytlbooffoebjllaa
open Go.RowKit

/-- What 'should' returns. -/
def ShouldEnd (w : World) (x : St × Int × Int) (e : Ending) (w' : World) : Prop :=
  e = .returned (.tuple #[x.1.agg, .int .i64 x.2.1, .int .i64 x.2.2]) ∧ Below w.heap.size w w'

set_option maxHeartbeats 1000000 in
theorem should_start (L S W N : Int) (a : Int) (w : World) (hs : St.Ok ⟨L, S, W, N⟩) (hN : N ≤ 1000000000000000) :
    Calls Try.prog 18 #[.agg #[.int .i64 L, .int .i64 S, .int .i64 W, .int .i64 N], .agg #[.int .i64 0, .int .i64 a]] w (ShouldEnd w ((St.mk L S W N).step 0 a)) := by
  go_enter Try.func18, Try.ntmps18
  go_wp2_with fail
  refine (rstart_any L S W N _).mono ?_
  rintro e w1 ⟨rfl, hb⟩
  generalize hx : St.start ⟨L, S, W, N⟩ = x
  have Hx := Lib.hid hx
  clear hx
  obtain ⟨⟨L1, S1, W1, N1⟩, c⟩ := x
  rw [World.size_alloc, World.size_alloc, World.size_alloc] at hb
  have rb : Blk w1 (w.heap.size + 1 + 1) 27 #[.int .i64 0, .int .i64 0, .int .i64 0, .int .i64 0] := by
    refine Blk.below ?_ hb (by omega)
    have := Blk.new ((w.alloc (.cells #[.int .i64 L, .int .i64 S, .int .i64 W, .int .i64 N] 27)).alloc (.cells #[.int .i64 0, .int .i64 a] 42)) 27 #[.int .i64 0, .int .i64 0, .int .i64 0, .int .i64 0]
    simpa using this
  have hb' : Below w.heap.size w w1 := ((((Below.refl _ _).alloc (Nat.le_refl _) _).alloc (by simp) _).alloc (by simp; omega) _).trans (hb.mono (by omega))
  have l0 := rb.lt
  have c0 := rb.cell 0
  have c1 := rb.cell 1
  have c2 := rb.cell 2
  have c3 := rb.cell 3
  have z0 := rb.frozen 0
  have z1 := rb.frozen 1
  have z2 := rb.frozen 2
  have z3 := rb.frozen 3
  have hz : w.heap.size ≤ w1.heap.size := hb'.size
  simp at c0 c1 c2 c3
  unfold St.agg
  clear rb hb
  go_wp2
  refine bodyPost_ret (v := .tuple #[.agg #[.int .i64 L1, .int .i64 S1, .int .i64 W1, .int .i64 N1], .int .i64 0, .int .i64 c]) (by simp [results, Try.results18, go_sem, c0, c1, c2, c3, l0]) rfl ?_
  unfold ShouldEnd
  have := Hx.out
  rw [show (St.mk L S W N).step 0 a = (⟨L1, S1, W1, N1⟩, 0, c) from by simp [St.step, this]]
  refine ⟨rfl, ?_⟩
  first
  | exact ((((hb'.setCell (by simp; omega) _).setCell (by simp; omega) _).setCell (by simp; omega) _).setCell (by simp; omega) _)
  | exact ((((hb'.setCell (by simp; omega) _).setCell (by simp; omega) _).setCell (by simp; omega) _).setCell (by simp; omega) _).alloc (by simp; omega) _

set_option maxHeartbeats 1000000 in
theorem should_cut (L S W N : Int) (a : Int) (w : World) (hs : St.Ok ⟨L, S, W, N⟩) (hN : N ≤ 1000000000000000) :
    Calls Try.prog 18 #[.agg #[.int .i64 L, .int .i64 S, .int .i64 W, .int .i64 N], .agg #[.int .i64 1, .int .i64 a]] w (ShouldEnd w ((St.mk L S W N).step 1 a)) := by
  go_enter Try.func18, Try.ntmps18
  go_wp2_with fail
  refine (rcut_any ⟨L, S, W, N⟩ a _ hs hN).mono ?_
  rintro e w1 ⟨rfl, hb⟩
  generalize hx : St.cut ⟨L, S, W, N⟩ a = x
  have Hx := Lib.hid hx
  clear hx
  obtain ⟨⟨L1, S1, W1, N1⟩, m, c⟩ := x
  rw [World.size_alloc, World.size_alloc, World.size_alloc] at hb
  have rb : Blk w1 (w.heap.size + 1 + 1) 27 #[.int .i64 0, .int .i64 0, .int .i64 0, .int .i64 0] := by
    refine Blk.below ?_ hb (by omega)
    have := Blk.new ((w.alloc (.cells #[.int .i64 L, .int .i64 S, .int .i64 W, .int .i64 N] 27)).alloc (.cells #[.int .i64 1, .int .i64 a] 42)) 27 #[.int .i64 0, .int .i64 0, .int .i64 0, .int .i64 0]
    simpa using this
  have hb' : Below w.heap.size w w1 := ((((Below.refl _ _).alloc (Nat.le_refl _) _).alloc (by simp) _).alloc (by simp; omega) _).trans (hb.mono (by omega))
  have l0 := rb.lt
  have c0 := rb.cell 0
  have c1 := rb.cell 1
  have c2 := rb.cell 2
  have c3 := rb.cell 3
  have z0 := rb.frozen 0
  have z1 := rb.frozen 1
  have z2 := rb.frozen 2
  have z3 := rb.frozen 3
  have hz : w.heap.size ≤ w1.heap.size := hb'.size
  simp at c0 c1 c2 c3
  unfold St.agg
  clear rb hb
  go_wp2
  refine bodyPost_ret (v := .tuple #[.agg #[.int .i64 L1, .int .i64 S1, .int .i64 W1, .int .i64 N1], .int .i64 m, .int .i64 c]) (by simp [results, Try.results18, go_sem, c0, c1, c2, c3, l0]) rfl ?_
  unfold ShouldEnd
  have := Hx.out
  rw [show (St.mk L S W N).step 1 a = (⟨L1, S1, W1, N1⟩, m, c) from by simp [St.step, this]]
  refine ⟨rfl, ?_⟩
  first
  | exact ((((hb'.setCell (by simp; omega) _).setCell (by simp; omega) _).setCell (by simp; omega) _).setCell (by simp; omega) _)
  | exact ((((hb'.setCell (by simp; omega) _).setCell (by simp; omega) _).setCell (by simp; omega) _).setCell (by simp; omega) _).alloc (by simp; omega) _

set_option maxHeartbeats 1000000 in
theorem should_stop (L S W N : Int) (a : Int) (w : World) (hs : St.Ok ⟨L, S, W, N⟩) (hN : N ≤ 1000000000000000) :
    Calls Try.prog 18 #[.agg #[.int .i64 L, .int .i64 S, .int .i64 W, .int .i64 N], .agg #[.int .i64 2, .int .i64 a]] w (ShouldEnd w ((St.mk L S W N).step 2 a)) := by
  go_enter Try.func18, Try.ntmps18
  go_wp2_with fail
  refine (rstop_any L S W N _).mono ?_
  rintro e w1 ⟨rfl, hb⟩
  generalize hx : St.stop ⟨L, S, W, N⟩ = x
  have Hx := Lib.hid hx
  clear hx
  obtain ⟨⟨L1, S1, W1, N1⟩, c⟩ := x
  rw [World.size_alloc, World.size_alloc, World.size_alloc] at hb
  have rb : Blk w1 (w.heap.size + 1 + 1) 27 #[.int .i64 0, .int .i64 0, .int .i64 0, .int .i64 0] := by
    refine Blk.below ?_ hb (by omega)
    have := Blk.new ((w.alloc (.cells #[.int .i64 L, .int .i64 S, .int .i64 W, .int .i64 N] 27)).alloc (.cells #[.int .i64 2, .int .i64 a] 42)) 27 #[.int .i64 0, .int .i64 0, .int .i64 0, .int .i64 0]
    simpa using this
  have hb' : Below w.heap.size w w1 := ((((Below.refl _ _).alloc (Nat.le_refl _) _).alloc (by simp) _).alloc (by simp; omega) _).trans (hb.mono (by omega))
  have l0 := rb.lt
  have c0 := rb.cell 0
  have c1 := rb.cell 1
  have c2 := rb.cell 2
  have c3 := rb.cell 3
  have z0 := rb.frozen 0
  have z1 := rb.frozen 1
  have z2 := rb.frozen 2
  have z3 := rb.frozen 3
  have hz : w.heap.size ≤ w1.heap.size := hb'.size
  simp at c0 c1 c2 c3
  unfold St.agg
  clear rb hb
  go_wp2
  refine bodyPost_ret (v := .tuple #[.agg #[.int .i64 L1, .int .i64 S1, .int .i64 W1, .int .i64 N1], .int .i64 0, .int .i64 c]) (by simp [results, Try.results18, go_sem, c0, c1, c2, c3, l0]) rfl ?_
  unfold ShouldEnd
  have := Hx.out
  rw [show (St.mk L S W N).step 2 a = (⟨L1, S1, W1, N1⟩, 0, c) from by simp [St.step, this]]
  refine ⟨rfl, ?_⟩
  first
  | exact ((((hb'.setCell (by simp; omega) _).setCell (by simp; omega) _).setCell (by simp; omega) _).setCell (by simp; omega) _)
  | exact ((((hb'.setCell (by simp; omega) _).setCell (by simp; omega) _).setCell (by simp; omega) _).setCell (by simp; omega) _).alloc (by simp; omega) _

set_option maxHeartbeats 1000000 in
theorem should_sharp (L S W N : Int) (op a : Int) (w : World) (hs : St.Ok ⟨L, S, W, N⟩) (hN : N ≤ 1000000000000000) (e0 : op ≠ 0) (e1 : op ≠ 1) (e2 : op ≠ 2) :
    Calls Try.prog 18 #[.agg #[.int .i64 L, .int .i64 S, .int .i64 W, .int .i64 N], .agg #[.int .i64 op, .int .i64 a]] w (ShouldEnd w ((St.mk L S W N).step op a)) := by
  have k0 : (op == 0) = false := by simpa using e0
  have k1 : (op == 1) = false := by simpa using e1
  have k2 : (op == 2) = false := by simpa using e2
  have E0 := Lib.hid e0
  have E1 := Lib.hid e1
  have E2 := Lib.hid e2
  clear e0 e1 e2
  go_enter Try.func18, Try.ntmps18
  go_wp2_with fail
  refine (rsharpen_any L S W N _).mono ?_
  rintro e w1 ⟨rfl, hb⟩
  generalize hx : St.sharpen ⟨L, S, W, N⟩ = x
  have Hx := Lib.hid hx
  clear hx
  obtain ⟨⟨L1, S1, W1, N1⟩, c⟩ := x
  rw [World.size_alloc, World.size_alloc, World.size_alloc] at hb
  have rb : Blk w1 (w.heap.size + 1 + 1) 27 #[.int .i64 0, .int .i64 0, .int .i64 0, .int .i64 0] := by
    refine Blk.below ?_ hb (by omega)
    have := Blk.new ((w.alloc (.cells #[.int .i64 L, .int .i64 S, .int .i64 W, .int .i64 N] 27)).alloc (.cells #[.int .i64 op, .int .i64 a] 42)) 27 #[.int .i64 0, .int .i64 0, .int .i64 0, .int .i64 0]
    simpa using this
  have hb' : Below w.heap.size w w1 := ((((Below.refl _ _).alloc (Nat.le_refl _) _).alloc (by simp) _).alloc (by simp; omega) _).trans (hb.mono (by omega))
  have l0 := rb.lt
  have c0 := rb.cell 0
  have c1 := rb.cell 1
  have c2 := rb.cell 2
  have c3 := rb.cell 3
  have z0 := rb.frozen 0
  have z1 := rb.frozen 1
  have z2 := rb.frozen 2
  have z3 := rb.frozen 3
  have hz : w.heap.size ≤ w1.heap.size := hb'.size
  simp at c0 c1 c2 c3
  unfold St.agg
  clear rb hb
  go_wp2
  refine bodyPost_ret (v := .tuple #[.agg #[.int .i64 L1, .int .i64 S1, .int .i64 W1, .int .i64 N1], .int .i64 0, .int .i64 c]) (by simp [results, Try.results18, go_sem, c0, c1, c2, c3, l0]) rfl ?_
  unfold ShouldEnd
  have := Hx.out
  rw [show (St.mk L S W N).step op a = (⟨L1, S1, W1, N1⟩, 0, c) from by simp [St.step, this, E0.out, E1.out, E2.out]]
  refine ⟨rfl, ?_⟩
  first
  | exact ((((hb'.setCell (by simp; omega) _).setCell (by simp; omega) _).setCell (by simp; omega) _).setCell (by simp; omega) _)
  | exact ((((hb'.setCell (by simp; omega) _).setCell (by simp; omega) _).setCell (by simp; omega) _).setCell (by simp; omega) _).alloc (by simp; omega) _

theorem should_any (s : St) (op a : Int) (w : World) (hs : s.Ok) (hN : s.N ≤ 1000000000000000) :
    Calls Try.prog 18 #[s.agg, .agg #[.int .i64 op, .int .i64 a]] w (ShouldEnd w (s.step op a)) := by
  obtain ⟨L, S, W, N⟩ := s
  by_cases e0 : op = 0
  · subst e0; exact should_start L S W N a w hs hN
  · by_cases e1 : op = 1
    · subst e1; exact should_cut L S W N a w hs hN
    · by_cases e2 : op = 2
      · subst e2; exact should_stop L S W N a w hs hN
      · exact should_sharp L S W N op a w hs hN e0 e1 e2

end Go.Proofs.Ytlbooffoebjllaa
