/-
  The plain law of a blade: what the steps keep. No program in sight.
-/
import Derived.Test.YtlbooffoebjllaaBase
namespace Go.Proofs.Ytlbooffoebjllaa

/-- A call: 0 Start, 1 Cut, 2 Stop, else Sharpen. -/
def St.step (s : St) (op a : Int) : St × Int × Int :=
  if op = 0 then (s.start.1, 0, s.start.2) else if op = 1 then s.cut a else if op = 2 then (s.stop.1, 0, s.stop.2) else (s.sharpen.1, 0, s.sharpen.2)

theorem St.start_ok {s : St} (h : s.Ok) : s.start.1.Ok := by
  unfold St.start
  have hd := h.d
  split
  · exact h
  · split
    · exact h
    · exact ⟨h.l1, h.l2, .inr (.inl rfl), h.w1, h.w2, ⟨fun e => absurd (show (2 : Int) = 4 from e) (by omega), fun e => absurd (hd.2 e) (by assumption)⟩, h.n1⟩
theorem St.stop_ok {s : St} (h : s.Ok) : s.stop.1.Ok := by
  unfold St.stop
  have hd := h.d
  split
  · rename_i e2
    exact ⟨h.l1, h.l2, .inr (.inr (.inl rfl)), h.w1, h.w2, ⟨fun e => absurd (show (3 : Int) = 4 from e) (by omega), fun e => by have := hd.2 e; omega⟩, h.n1⟩
  · exact h
theorem St.sharpen_ok {s : St} (h : s.Ok) : s.sharpen.1.Ok := by
  unfold St.sharpen
  have l1 := h.l1
  split
  · exact h
  · exact ⟨h.l1, h.l2, .inl rfl, (by show (0 : Int) ≤ 0; omega), (by show (0 : Int) ≤ s.L; omega), ⟨fun e => absurd (show (1 : Int) = 4 from e) (by omega), fun e => by have : (0 : Int) = s.L := e; omega⟩, h.n1⟩
theorem St.cut_ok {s : St} (h : s.Ok) (a : Int) : (s.cut a).1.Ok := by
  obtain ⟨l1, l2, s1, w1, w2, hd, n1⟩ := h
  unfold St.cut
  split
  · exact ⟨l1, l2, s1, w1, w2, hd, n1⟩
  · split
    · exact ⟨l1, l2, s1, w1, w2, hd, n1⟩
    · refine ⟨l1, l2, ?_, ?_, ?_, ?_, ?_⟩ <;> dsimp only
      · split <;> simp
      · omega
      · omega
      · split <;> omega
      · omega
theorem St.step_ok {s : St} (h : s.Ok) (op a : Int) : (s.step op a).1.Ok := by
  unfold St.step
  split
  · exact St.start_ok h
  · split
    · exact St.cut_ok h a
    · split
      · exact St.stop_ok h
      · exact St.sharpen_ok h
theorem St.step_N {s : St} (h : s.Ok) (op a : Int) : s.N ≤ (s.step op a).1.N ∧ (s.step op a).1.N ≤ s.N + 10000000000 := by
  obtain ⟨l1, l2, s1, w1, w2, hd, n1⟩ := h
  unfold St.step St.start St.cut St.stop St.sharpen
  (repeat' split) <;> dsimp only <;> omega

end Go.Proofs.Ytlbooffoebjllaa
