/-
  The walks of the law's do and should.
-/
import Derived.Test.YtlbooffoebjllaaWalkf
import Derived.Test.YtlbooffoebjllaaPlain
namespace Go.Proofs.Ytlbooffoebjllaa
open Go.RowKit

set_option maxHeartbeats 1000000 in
theorem do_any (g : Nat) (s : St) (op a : Int) (w : World) (h : IsB w g s) (hs : s.Ok) (hN : s.N ≤ 1000000000000000) :
    Calls Try.prog 17 #[.pointer (some ⟨g, 0, none⟩), .agg #[.int .i64 op, .int .i64 a]] w (RetII (Left3 g w (s.step op a))) := by
  have hg := h.blk.lt
  have h1 : IsB (w.alloc (.cells #[.int .i64 op, .int .i64 a] 42)) g s := h.blk.alloc _
  have hf0 : Fr (fun i => i = g) w (w.alloc (.cells #[.int .i64 op, .int .i64 a] 42)) := (Fr.refl _ _).alloc _
  by_cases e0 : op = 0
  · subst e0
    go_enter Try.func17, Try.ntmps17
    go_wp2_with fail
    refine (start_any g s _ h1 hs).mono ?_
    rintro e w1 ⟨n, rfl, hn, hB, hf⟩
    have Hn := Lib.hid hn
    clear hn
    go_wp2
    go_ret2
    exact ⟨0, n, rfl, rfl, Hn.out, hB, hf0.trans hf⟩
  · have k0 : (op == 0) = false := by simpa using e0
    by_cases e1 : op = 1
    · subst e1
      go_enter Try.func17, Try.ntmps17
      go_wp2_with fail
      refine (cut_any g s a _ h1 hs hN).mono ?_
      rintro e w1 ⟨m, n, rfl, hm, hn, hB, hf⟩
      have Hn := Lib.hid hn
      have Hm := Lib.hid hm
      clear hn hm
      go_wp2
      go_ret2
      exact ⟨m, n, rfl, Hm.out, Hn.out, hB, hf0.trans hf⟩
    · have k1 : (op == 1) = false := by simpa using e1
      by_cases e2 : op = 2
      · subst e2
        go_enter Try.func17, Try.ntmps17
        go_wp2_with fail
        refine (stop_any g s _ h1 hs).mono ?_
        rintro e w1 ⟨n, rfl, hn, hB, hf⟩
        have Hn := Lib.hid hn
        clear hn
        go_wp2
        go_ret2
        exact ⟨0, n, rfl, rfl, Hn.out, hB, hf0.trans hf⟩
      · have k2 : (op == 2) = false := by simpa using e2
        have es : s.step op a = (s.sharpen.1, 0, s.sharpen.2) := by simp [St.step, e0, e1, e2]
        rw [es]
        clear es e0 e1 e2
        go_enter Try.func17, Try.ntmps17
        go_wp2_with fail
        refine (sharpen_any g s _ h1 hs).mono ?_
        rintro e w1 ⟨n, rfl, hn, hB, hf⟩
        have Hn := Lib.hid hn
        clear hn
        go_wp2
        go_ret2
        exact ⟨0, n, rfl, rfl, Hn.out, hB, hf0.trans hf⟩

end Go.Proofs.Ytlbooffoebjllaa
