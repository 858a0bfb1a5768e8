/-
  The walk of Cut.
-/
import Derived.Test.YtlbooffoebjllaaWalkc
namespace Go.Proofs.Ytlbooffoebjllaa
open Go.RowKit

/-- A call that returns two integers. -/
def RetII (R : Int → Int → World → Prop) (e : Ending) (w' : World) : Prop := ∃ m x, e = .returned (.tuple #[.int .i64 m, .int .i64 x]) ∧ R m x w'

set_option maxHeartbeats 400000 in
theorem cut_pre (a : Option Addr) (n : Int) (w : World) (R : Int → Int → World → Prop)
    (hd : ∀ w1 r g1 g2 g3, Below w.heap.size w w1 → w.heap.size ≤ g3 → Blk w1 g1 3 #[.int .i64 n] → Blk w1 g2 22 #[.pointer a] → Blk w1 g3 3 #[.int .i64 0] →
      Mp w1 r #[⟨.int .i64 2, .func (.func 25) #[] #[.pointer (some ⟨g1, 0, none⟩), .pointer (some ⟨g2, 0, none⟩), .pointer (some ⟨g3, 0, none⟩)], 0⟩] 1 → Calls Try.prog 24 #[.pointer a, .map (some r)] w1 (RetI fun e w' => ∃ m, Blk w' g3 3 #[.int .i64 m] ∧ R m e w')) :
    Calls Try.prog 14 #[.pointer a, .int .i64 n] w (RetII R) := by
  have H := Lib.hid hd
  clear hd
  have hmm := @run_makeMap Try.prog
  have hm0 : Mp ((((w.alloc (.cells #[.pointer a] 22)).alloc (.cells #[.int .i64 n] 3)).alloc (.cells #[.int .i64 0] 3)).alloc (.map #[] 0)) (w.heap.size + 1 + 1 + 1) #[] 0 := by
    simpa using Mp.new (((w.alloc (.cells #[.pointer a] 22)).alloc (.cells #[.int .i64 n] 3)).alloc (.cells #[.int .i64 0] 3)) #[] 0
  have k1 : Blk ((((w.alloc (.cells #[.pointer a] 22)).alloc (.cells #[.int .i64 n] 3)).alloc (.cells #[.int .i64 0] 3)).alloc (.map #[] 0)) (w.heap.size + 1) 3 #[.int .i64 n] := by
    simpa using ((Blk.new (w.alloc (.cells #[.pointer a] 22)) 3 #[.int .i64 n]).alloc (.cells #[.int .i64 0] 3)).alloc (.map #[] 0)
  have k2 : Blk ((((w.alloc (.cells #[.pointer a] 22)).alloc (.cells #[.int .i64 n] 3)).alloc (.cells #[.int .i64 0] 3)).alloc (.map #[] 0)) w.heap.size 22 #[.pointer a] :=
    (((Blk.new w 22 #[.pointer a]).alloc (.cells #[.int .i64 n] 3)).alloc (.cells #[.int .i64 0] 3)).alloc (.map #[] 0)
  have k3 : Blk ((((w.alloc (.cells #[.pointer a] 22)).alloc (.cells #[.int .i64 n] 3)).alloc (.cells #[.int .i64 0] 3)).alloc (.map #[] 0)) (w.heap.size + 1 + 1) 3 #[.int .i64 0] := by
    simpa using (Blk.new ((w.alloc (.cells #[.pointer a] 22)).alloc (.cells #[.int .i64 n] 3)) 3 #[.int .i64 0]).alloc (.map #[] 0)
  have hacc0 : Below w.heap.size w ((((w.alloc (.cells #[.pointer a] 22)).alloc (.cells #[.int .i64 n] 3)).alloc (.cells #[.int .i64 0] 3)).alloc (.map #[] 0)) :=
    ((((Below.refl _ _).alloc (Nat.le_refl _) _).alloc (by simp) _).alloc (by simp; omega) _).alloc (by simp; omega) _
  go_enter Try.func14, Try.ntmps14
  go_wp2_with ((with_reducible show wpList _ _ _ (⟨_, Op.insert _ _ _ _, _, _, _, _⟩ :: _) _ _); refine wpList_insert_new rfl _ _ _ rfl Try.underlying51 Try.underlying3 rfl rfl rfl rfl hm0 rfl ?_; intro w9 hm9 hf9)
  refine (H.out _ _ _ _ (w.heap.size + 1 + 1) (hacc0.trans (hf9.below hacc0.size (fun i _ h => by omega))) (by omega) (k1.fr hf9 (by omega)) (k2.fr hf9 (by omega)) (k3.fr hf9 (by omega)) hm9).mono ?_
  rintro e w' ⟨x, rfl, m, hm, hR⟩
  have HR := Lib.hid hR
  have cm := hm.cell 0
  simp at cm
  clear hR hm hm0 k1 k2 k3 hacc0 hm9 hf9
  go_wp2
  go_ret2
  exact ⟨m, x, rfl, HR.out⟩

/-- What Cut leaves. -/
def Left3 (g : Nat) (w : World) (x : St × Int × Int) (m n : Int) (w' : World) : Prop := m = x.2.1 ∧ n = x.2.2 ∧ IsB w' g x.1 ∧ Fr (fun i => i = g) w w'

theorem cut_any (g : Nat) (s : St) (n : Int) (w : World) (h : IsB w g s) (hs : s.Ok) (hN : s.N ≤ 1000000000000000) : Calls Try.prog 14 #[.pointer (some ⟨g, 0, none⟩), .int .i64 n] w (RetII (Left3 g w (s.cut n))) := by
  have hg := h.blk.lt
  refine cut_pre _ n w _ fun w1 r g1 g2 g3 hb hg3 h1 h2 h3 hm => ?_
  have h' : IsB w1 g s := h.blk.below hb hg
  by_cases e : s.S = 2
  · refine do_hit g r s _ _ w1 h' hm 0 25 _ (by rw [e]; rfl) _ (call25 _ _ _ _) ?_
    by_cases b : n < 0 ∨ n > 10000000000
    · refine (cutfn_bad g1 g2 g3 n w1 h1 b).mono ?_
      rintro e' w' ⟨rfl, rfl⟩
      have e3 : s.cut n = (s, 0, 9) := by unfold St.cut; rw [if_neg (by simpa using e), if_pos b]
      exact ⟨9, rfl, 0, h3, by rw [e3]; exact ⟨rfl, rfl, h', Fr.of_new hb _⟩⟩
    · have e3 : s.cut n = (⟨s.L, if s.W + min n (s.L - s.W) = s.L then 4 else 2, s.W + min n (s.L - s.W), s.N + min n (s.L - s.W)⟩, min n (s.L - s.W), 0) := by
        unfold St.cut; rw [if_neg (by simpa using e), if_neg b]
      obtain ⟨L, S, W, N⟩ := s
      simp only at e hN e3
      subst e
      have o := hs
      have a1 : 0 ≤ n := by omega
      have a2 : n ≤ 10000000000 := by omega
      have fin : Calls Try.prog 25 #[.pointer (some ⟨g1, 0, none⟩), .pointer (some ⟨g2, 0, none⟩), .pointer (some ⟨g3, 0, none⟩)] w1 (CutEnd g g3 w1 L W N n) := by
        by_cases b1 : L - W < n
        · exact cutfn_all g g1 g2 g3 n L W N w1 h' h1 h2 h3 a1 a2 o.l1 o.l2 o.w1 o.w2 o.n1 hN b1
        · by_cases b2 : W + n = L
          · exact cutfn_just g g1 g2 g3 n L W N w1 h' h1 h2 h3 a1 a2 o.l1 o.l2 o.w1 o.w2 o.n1 hN b2
          · exact cutfn_part g g1 g2 g3 n L W N w1 h' h1 h2 h3 a1 a2 o.l1 o.l2 o.w1 o.w2 o.n1 hN (by omega)
      refine fin.mono ?_
      rintro e' w' ⟨rfl, hB, hm3, hf⟩
      refine ⟨0, rfl, _, hm3, ?_⟩
      rw [e3]
      refine ⟨rfl, rfl, hB, ?_⟩
      refine ⟨hf.os.trans hb.os, hf.tape.trans hb.tape, hf.output.trans hb.output, Nat.le_trans hb.size hf.size, fun i hi hn => ?_⟩
      exact (hf.block i (Nat.lt_of_lt_of_le hi hb.size) (by omega)).trans (hb.block i hi)
  · have e0 : (s.S == 2) = false := by simpa using e
    refine (do_miss g r s _ _ w1 h' hm (by simp [Instr.findNow, Instr.sameNow, e0])).mono ?_
    rintro e' w' ⟨rfl, rfl⟩
    have e3 : s.cut n = (s, 0, 14) := by unfold St.cut; rw [if_pos e]
    exact ⟨14, rfl, 0, h3, by rw [e3]; exact ⟨rfl, rfl, h', Fr.of_new hb _⟩⟩

theorem cut_nil (n : Int) (w : World) : Calls Try.prog 14 #[.pointer none, .int .i64 n] w (RetII (fun m x w' => m = 0 ∧ x = 1 ∧ Below w.heap.size w w')) := by
  refine cut_pre _ n w _ fun w1 r _ _ _ hb _ h1 h2 h3 hm => ?_
  refine (do_nil _ w1 ⟨_, rfl⟩).mono ?_
  rintro e' w' ⟨rfl, rfl⟩
  exact ⟨1, rfl, 0, h3, rfl, rfl, hb⟩

end Go.Proofs.Ytlbooffoebjllaa
