/-
  The walk of the law's do; arrays of integers that come in; what a step does.
-/
import Derived.Test.YtpapgldjmglaiaaWalke
import Derived.Test.YtpapgldjmglaiaaArgs
namespace Go.Proofs.Ytpapgldjmglaiaa
open Go.RowKit Go.WideShapes Go.ChangeShapes

/-- A call: a Claim or a Credit. -/
def Ac.step (a : Ac) (c : Bool) (per vol : Int) : Ac × Int := if c then a.claim per vol else a.credit per vol

theorem Ac.step_ok {a : Ac} {K : Nat} (h : a.Ok K) (hK : K + 1 ≤ 200) (c : Bool) (per vol : Int) : (a.step c per vol).1.Ok (K + 1) := by
  unfold Ac.step
  split
  · exact Ac.claim_ok h hK per vol
  · exact Ac.credit_ok h hK per vol
theorem Ac.step_cases (a : Ac) (c : Bool) (per vol : Int) : ((a.step c per vol).2 ≠ 0 ∧ (a.step c per vol).1 = a) ∨ ((a.step c per vol).2 = 0 ∧ (a.step c per vol).1.T = per ∧ a.check per vol = 0) := by
  unfold Ac.step Ac.claim Ac.credit
  split
  · split
    · exact .inl ⟨by assumption, rfl⟩
    · split
      · exact .inl ⟨by simp, rfl⟩
      · rename_i h _; exact .inr ⟨rfl, rfl, by simpa using h⟩
  · split
    · exact .inl ⟨by assumption, rfl⟩
    · rename_i h; exact .inr ⟨rfl, rfl, by simpa using h⟩

set_option maxHeartbeats 400000 in
theorem do_any (g r K : Nat) (a : Ac) (c : Bool) (per vol : Int) (w : World) (h : IsA w g r a) (ok : a.Ok K) :
    Calls Try.prog 12 #[.pointer (some ⟨g, 0, none⟩), .agg #[.bool c, .int .i64 per, .int .i64 vol]] w (Left1 g r w (a.step c per vol)) := by
  have h1 : IsA (w.alloc (.cells #[.bool c, .int .i64 per, .int .i64 vol] 36)) g r a := h.fr ((Fr.refl (fun _ => False) w).alloc _) (fun x => x) (fun x => x)
  have hf0 : Fr (fun i => i = g ∨ i = r) w (w.alloc (.cells #[.bool c, .int .i64 per, .int .i64 vol] 36)) := (Fr.refl _ _).alloc _
  clear h
  cases c with
  | true =>
    go_enter Try.func12, Try.ntmps12
    go_wp2_with fail
    refine (claim_any g r K a per vol _ h1 ok).mono ?_
    rintro e w1 ⟨rfl, hA, hf⟩
    go_wp2
    go_ret
    exact ⟨rfl, hA, hf0.trans hf⟩
  | false =>
    go_enter Try.func12, Try.ntmps12
    go_wp2_with fail
    refine (credit_any g r K a per vol _ h1 ok).mono ?_
    rintro e w1 ⟨rfl, hA, hf⟩
    go_wp2
    go_ret
    exact ⟨rfl, hA, hf0.trans hf⟩

theorem open_pair {H : Type} {enc : TypeId × Value → H} {W : World} {b0 : Nat} {r : Reach} {base : Nat} {sp : Nat → Bool} {held : Bool} {v : Value} {d : DataW H} {p : List MemPlace} (hv : Value.okWide Try.prog W r b0 40 v)
    (h : DataW.Trod enc Try.prog W base sp held 40 v d p) : ∃ x y : Int, v = .agg #[.int .i64 x, .int .i64 y] := by
  obtain ⟨fuel, hf⟩ := h
  obtain ⟨xs, m, _, _, hl, hxl, hat⟩ := DataW.trod_array Try.underlying40 hf
  have hc : Try.prog.cellsOf 3 = 1 := by kernel_rfl
  have hc2 : Try.prog.cellsOf 40 = 2 := by kernel_rfl
  rw [hc] at hat
  simp only [Value.okWide, Try.underlying40] at hv
  obtain ⟨cs, rfl, h2, _⟩ := hv
  rw [hc2] at h2
  obtain ⟨l⟩ := cs
  match l, h2 with
  | [c0, c1], _ =>
    match xs, hxl with
    | [y0, y1], _ =>
      have t0 := hat 0 (by omega)
      have t1 := hat 1 (by omega)
      simp [Value.cells] at t0 t1
      obtain ⟨n0, hn0, _, _⟩ := DataW.trod_int Try.underlying3 t0
      obtain ⟨n1, hn1, _, _⟩ := DataW.trod_int Try.underlying3 t1
      simp at hn0 hn1
      exact ⟨n0, n1, by rw [hn0, hn1]⟩
theorem open_three {H : Type} {enc : TypeId × Value → H} {W : World} {b0 : Nat} {r : Reach} {base : Nat} {sp : Nat → Bool} {held : Bool} {v : Value} {d : DataW H} {p : List MemPlace} (hv : Value.okWide Try.prog W r b0 22 v)
    (h : DataW.Trod enc Try.prog W base sp held 22 v d p) : ∃ x y z : Int, v = .agg #[.int .i64 x, .int .i64 y, .int .i64 z] ∧ (-9223372036854775808 ≤ z ∧ z ≤ 9223372036854775807) ∧ (-9223372036854775808 ≤ x ∧ x ≤ 9223372036854775807) := by
  obtain ⟨fuel, hf⟩ := h
  obtain ⟨xs, m, _, _, hl, hxl, hat⟩ := DataW.trod_array Try.underlying22 hf
  have hc : Try.prog.cellsOf 3 = 1 := by kernel_rfl
  have hc2 : Try.prog.cellsOf 22 = 3 := by kernel_rfl
  rw [hc] at hat
  simp only [Value.okWide, Try.underlying22] at hv
  obtain ⟨cs, rfl, h2, _⟩ := hv
  rw [hc2] at h2
  obtain ⟨l⟩ := cs
  match l, h2 with
  | [c0, c1, c2], _ =>
    match xs, hxl with
    | [y0, y1, y2], _ =>
      have t0 := hat 0 (by omega)
      have t1 := hat 1 (by omega)
      have t2 := hat 2 (by omega)
      simp [Value.cells] at t0 t1 t2
      obtain ⟨n0, hn0, _, hw0⟩ := DataW.trod_int Try.underlying3 t0
      obtain ⟨n1, hn1, _, _⟩ := DataW.trod_int Try.underlying3 t1
      obtain ⟨n2, hn2, _, hw2⟩ := DataW.trod_int Try.underlying3 t2
      simp at hn0 hn1 hn2
      exact ⟨n0, n1, n2, by rw [hn0, hn1, hn2], wf64 hw2, wf64 hw0⟩

end Go.Proofs.Ytpapgldjmglaiaa
