/-
  The walks of the law's own small functions: awake, is, do.
-/
import Derived.Test.YtlbooffoebjllaaWalkd
namespace Go.Proofs.Ytlbooffoebjllaa
open Go.RowKit

section
variable {g : Nat} {s s' : St} {c m : Int} {w : World}
theorem start_to (h : IsB w g s) (hs : s.Ok) (e : s.start = (s', c)) : Calls Try.prog 13 #[.pointer (some ⟨g, 0, none⟩)] w fun e w' => e = .returned (.int .i64 c) ∧ IsB w' g s' ∧ Fr (fun i => i = g) w w' :=
  (start_any g s w h hs).mono fun _ _ ⟨_, he, hn, hB, hf⟩ => by rw [e] at hn hB; subst hn; exact ⟨he, hB, hf⟩
theorem stop_to (h : IsB w g s) (hs : s.Ok) (e : s.stop = (s', c)) : Calls Try.prog 20 #[.pointer (some ⟨g, 0, none⟩)] w fun e w' => e = .returned (.int .i64 c) ∧ IsB w' g s' ∧ Fr (fun i => i = g) w w' :=
  (stop_any g s w h hs).mono fun _ _ ⟨_, he, hn, hB, hf⟩ => by rw [e] at hn hB; subst hn; exact ⟨he, hB, hf⟩
theorem sharpen_to (h : IsB w g s) (hs : s.Ok) (e : s.sharpen = (s', c)) : Calls Try.prog 21 #[.pointer (some ⟨g, 0, none⟩)] w fun e w' => e = .returned (.int .i64 c) ∧ IsB w' g s' ∧ Fr (fun i => i = g) w w' :=
  (sharpen_any g s w h hs).mono fun _ _ ⟨_, he, hn, hB, hf⟩ => by rw [e] at hn hB; subst hn; exact ⟨he, hB, hf⟩
theorem cut_to {n : Int} (h : IsB w g s) (hs : s.Ok) (hN : s.N ≤ 1000000000000000) (e : s.cut n = (s', m, c)) : Calls Try.prog 14 #[.pointer (some ⟨g, 0, none⟩), .int .i64 n] w fun e w' => e = .returned (.tuple #[.int .i64 m, .int .i64 c]) ∧ IsB w' g s' ∧ Fr (fun i => i = g) w w' :=
  (cut_any g s n w h hs hN).mono fun _ _ ⟨_, _, he, hm, hn, hB, hf⟩ => by rw [e] at hm hn hB; subst hn; subst hm; exact ⟨he, hB, hf⟩
end

/-- A closed state's premises. -/
theorem okc {L S W N : Int} (h : 1 ≤ L ∧ L ≤ 1000000000000 ∧ (S = 1 ∨ S = 2 ∨ S = 3 ∨ S = 4) ∧ 0 ≤ W ∧ W ≤ L ∧ (S = 4 ↔ W = L) ∧ 0 ≤ N) : St.Ok ⟨L, S, W, N⟩ :=
  ⟨h.1, h.2.1, h.2.2.1, h.2.2.2.1, h.2.2.2.2.1, h.2.2.2.2.2.1, h.2.2.2.2.2.2⟩

theorem ok0 (n : Int) (h1 : 1 ≤ n) (h2 : n ≤ 1000000000000) : St.Ok ⟨n, 1, 0, 0⟩ := okc (by omega)

set_option maxHeartbeats 1000000 in
theorem awake_any (w : World) : Calls Try.prog 12 #[] w fun e w' => e = .returned (.bool true) ∧ Below w.heap.size w w' := by
  go_enter Try.func12, Try.ntmps12
  go_wp2_with fail
  refine (new_ok 100 _ (by omega) (by omega)).mono ?_
  rintro e w1 ⟨rfl, hB, hb, hsz⟩
  obtain ⟨g, hg⟩ : ∃ g, g = w.heap.size := ⟨_, rfl⟩
  rw [← hg] at hB ⊢
  have HG := Lib.hid hg
  clear hg hsz
  go_wp2_with fail
  refine (state_any g _ _ hB).mono ?_
  rintro e w' ⟨rfl, rfl⟩
  go_wp2_with fail
  refine (start_to (s' := ⟨100, 2, 0, 0⟩) (c := 0) hB (okc (by omega)) rfl).mono ?_
  rintro e w2 ⟨rfl, hB2, hf2⟩
  go_wp2_with fail
  refine (cut_to (s' := ⟨100, 2, 60, 60⟩) (m := 60) (c := 0) hB2 (okc (by omega)) (by decide) rfl).mono ?_
  rintro e w3 ⟨rfl, hB3, hf3⟩
  go_wp2_with fail
  refine (cut_to (s' := ⟨100, 4, 100, 100⟩) (m := 40) (c := 0) hB3 (okc (by omega)) (by decide) rfl).mono ?_
  rintro e w4 ⟨rfl, hB4, hf4⟩
  go_wp2_with fail
  refine (state_any g _ _ hB4).mono ?_
  rintro e w' ⟨rfl, rfl⟩
  go_wp2_with fail
  refine (start_to (s' := ⟨100, 4, 100, 100⟩) (c := 17) hB4 (okc (by omega)) rfl).mono ?_
  rintro e w5 ⟨rfl, hB5, hf5⟩
  go_wp2_with fail
  refine (sharpen_to (s' := ⟨100, 1, 0, 100⟩) (c := 0) hB5 (okc (by omega)) rfl).mono ?_
  rintro e w6 ⟨rfl, hB6, hf6⟩
  go_wp2_with fail
  refine (state_any g _ _ hB6).mono ?_
  rintro e w' ⟨rfl, rfl⟩
  go_wp2_with fail
  refine (sawn_any g _ _ hB6).mono ?_
  rintro e w' ⟨rfl, rfl⟩
  go_wp2_with fail
  refine (wear_any g _ _ hB6).mono ?_
  rintro e w' ⟨rfl, rfl⟩
  go_wp2
  go_ret
  refine ⟨rfl, hb.trans (((((hf2.trans hf3).trans hf4).trans hf5).trans hf6).below hb.size (fun i _ h => ?_))⟩
  have := HG.out
  omega

end Go.Proofs.Ytlbooffoebjllaa
