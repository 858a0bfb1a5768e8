/-
  The walks of package claim's functions: what each call returns and leaves, in the words of the plain model.
-/
import Derived.Test.YtpapgldjmglaiaaRows
import Derived.Test.YtpapgldjmglaiaaMaps
import Derived.Test.YtpapgldjmglaiaaPlain
import Derived.Outline
import Derived.Deep.QuietTactic
import Derived.BigQuiet
import Derived.Deep.LoopGhost
namespace Go.Proofs.Ytpapgldjmglaiaa
open Go.RowKit

/-- Blocks g and r are an account (its struct and its map). -/
def IsA (w : World) (g r : Nat) (a : Ac) : Prop :=
  Blk w g 50 #[.int .i64 a.F, .int .i64 a.P, .map (some r), .int .i64 a.T, .int .i64 a.cr, .int .i64 a.cl] ∧ ∃ l, MI w r l ∧ (∀ p, get l p = a.f p) ∧ ∀ p ∈ l.map (·.1), 0 ≤ p ∧ p ≤ 1000000

section
variable {w w' : World} {g r : Nat} {a : Ac} {S : Nat → Prop}
theorem IsA.blk (h : IsA w g r a) : Blk w g 50 #[.int .i64 a.F, .int .i64 a.P, .map (some r), .int .i64 a.T, .int .i64 a.cr, .int .i64 a.cl] := h.1
theorem IsA.fr (h : IsA w g r a) (hf : Fr S w w') (hg : ¬ S g) (hr : ¬ S r) : IsA w' g r a := by
  obtain ⟨hb, l, hm, h2⟩ := h
  exact ⟨hb.fr hf hg, l, hm.fr hf hr, h2⟩
theorem IsA.below {B : Nat} (h : IsA w g r a) (hb : Below B w w') (hg : g < B) (hr : r < B) : IsA w' g r a := by
  obtain ⟨hb', l, hm, h2⟩ := h
  exact ⟨hb'.below hb hg, l, hm.below hb hr, h2⟩
theorem IsA.ltr (h : IsA w g r a) : r < w.heap.size := by obtain ⟨_, l, hm, _⟩ := h; exact hm.lt
theorem IsA.ne (h : IsA w g r a) : g ≠ r := by
  rintro rfl
  obtain ⟨hb, l, ⟨es, c, hm, _⟩, _⟩ := h
  unfold Blk at hb
  unfold Mp at hm
  rw [hb] at hm
  cases hm
theorem zero3 (w : World) : (zeroValue 3).run Try.prog w = .ok (.int .i64 0) w := by kernel_rfl
theorem IsA.look (h : IsA w g r a) (p : Int) : (Instr.lookup 48 (.map (some r)) (.int .i64 p) false).run Try.prog w = .ok (.int .i64 (a.f p)) w := by
  obtain ⟨_, l, hm, h2, _⟩ := h
  rw [← h2 p]
  exact hm.lookup Try.underlying48 Try.underlying3 zero3 p
end

set_option maxHeartbeats 400000 in
theorem new_bad (F P : Int) (w : World) (h : F < 0 ∨ F > 1000 ∨ P < 1 ∨ P > 24) :
    Calls Try.prog 8 #[.int .i64 F, .int .i64 P] w fun e w' => e = .returned (.tuple #[.pointer none, .int .i64 9]) ∧ w = w' := by
  by_cases h1 : F < 0
  · clear h
    go_enter Try.func8, Try.ntmps8
    go_wp2
    go_ret2
    exact ⟨rfl, rfl⟩
  · by_cases h2 : F > 1000
    · clear h
      go_enter Try.func8, Try.ntmps8
      go_wp2
      go_ret2
      exact ⟨rfl, rfl⟩
    · by_cases h3 : P < 1
      · clear h
        go_enter Try.func8, Try.ntmps8
        go_wp2
        go_ret2
        exact ⟨rfl, rfl⟩
      · have h4 : P > 24 := by omega
        clear h
        go_enter Try.func8, Try.ntmps8
        go_wp2
        go_ret2
        exact ⟨rfl, rfl⟩

set_option maxHeartbeats 400000 in
theorem new_ok (F P : Int) (w : World) (f1 : 0 ≤ F) (f2 : F ≤ 1000) (p1 : 1 ≤ P) (p2 : P ≤ 24) :
    Calls Try.prog 8 #[.int .i64 F, .int .i64 P] w fun e w' => e = .returned (.tuple #[.pointer (some ⟨w.heap.size + 1, 0, none⟩), .int .i64 0]) ∧ IsA w' (w.heap.size + 1) w.heap.size ⟨F, P, -1, 0, 0, fun _ => 0⟩ ∧ Below w.heap.size w w' := by
  have hmm := @run_makeMap Try.prog
  go_enter Try.func8, Try.ntmps8
  go_wp2
  go_ret2
  refine ⟨rfl, ⟨?_, [], ⟨#[], 0, (Below.heap_alloc _ _ _ (by simp)).trans (Mp.new w #[] 0), rfl, by simp, by simp, by simp⟩, fun _ => rfl, by simp⟩, ((Below.refl _ _).alloc (Nat.le_refl _) _).alloc (by simp) _⟩
  have := Blk.new (w.alloc (.map #[] 0)) 50 #[.int .i64 F, .int .i64 P, .map (some w.heap.size), .int .i64 (-1), .int .i64 0, .int .i64 0]
  simpa using this

theorem isp_any (p : Int) (w : World) : Calls Try.prog 23 #[.int .i64 p] w fun e w' => e = .returned (.bool (Ac.isP p)) ∧ w = w' := by
  by_cases h1 : 0 ≤ p
  · by_cases h2 : p ≤ 1000000
    · have e : Ac.isP p = true := by simp [Ac.isP, h1, h2]
      rw [e]
      clear e
      go_enter Try.func23, Try.ntmps23
      go_wp2
      go_ret
      exact ⟨rfl, rfl⟩
    · have e : Ac.isP p = false := by simp [Ac.isP]; omega
      rw [e]
      clear e
      go_enter Try.func23, Try.ntmps23
      go_wp2
      go_ret
      exact ⟨rfl, rfl⟩
  · have e : Ac.isP p = false := by simp [Ac.isP]; omega
    rw [e]
    clear e
    go_enter Try.func23, Try.ntmps23
    go_wp2
    go_ret
    exact ⟨rfl, rfl⟩

theorem ret_int {k : IntKind} {a b : Int} (h : a = b) : Ending.returned (.int k a) = .returned (.int k b) := by rw [h]
/-- Nothing that was there has turned. -/
def Same (w w' : World) : Prop := Fr (fun _ => False) w w'
theorem Same.to {w w' : World} (h : Same w w') (S : Nat → Prop) : Fr S w w' := h.mono fun _ _ x => x.elim
theorem Same.below {w w' : World} (h : Same w w') : Below w.heap.size w w' := Fr.below h (Nat.le_refl _) (fun _ _ x => x.elim)
theorem Same.refl (w : World) : Same w w := Fr.refl _ _
theorem Same.drewN (w : World) (n : Nat) : Same w (w.drewN n) := (Fr.refl _ _).drewN n
theorem IsA.same {w w' : World} {g r : Nat} {a : Ac} (h : IsA w g r a) (hs : Same w w') : IsA w' g r a := h.fr hs (fun x => x) (fun x => x)

set_option maxHeartbeats 400000 in
theorem totals_any (g r : Nat) (a : Ac) (w : World) (h : IsA w g r a) : Calls Try.prog 14 #[.pointer (some ⟨g, 0, none⟩)] w fun e w' => e = .returned (.tuple #[.int .i64 a.cr, .int .i64 a.cl]) ∧ Same w w' := by
  have c4 := h.blk.cell 4
  have c5 := h.blk.cell 5
  clear h
  simp at c4 c5
  go_enter Try.func14, Try.ntmps14
  go_wp2
  go_quiet (fail)
  go_wp2
  go_ret2
  exact ⟨rfl, Same.drewN _ _⟩

theorem totals_nil (w : World) : Calls Try.prog 14 #[.pointer none] w fun e w' => e = .returned (.tuple #[.int .i64 0, .int .i64 0]) ∧ w = w' := by
  go_enter Try.func14, Try.ntmps14
  go_wp2
  go_ret2
  exact ⟨rfl, rfl⟩

set_option maxHeartbeats 400000 in
theorem check_any (g r : Nat) (a : Ac) (per vol : Int) (w : World) (h : IsA w g r a) : Calls Try.prog 24 #[.pointer (some ⟨g, 0, none⟩), .int .i64 per, .int .i64 vol] w fun e w' => e = .returned (.int .i64 (a.check per vol)) ∧ Same w w' := by
  have c3 := h.blk.cell 3
  clear h
  simp at c3
  by_cases h0 : Ac.isP per = true
  · by_cases h1 : per < a.T
    · have e : a.check per vol = 15 := by unfold Ac.check; rw [if_pos (.inr h1)]
      rw [e]
      have H0 := Lib.hid h0
      clear e h0
      go_enter Try.func24, Try.ntmps24
      go_wp2_with fail
      refine (isp_any per w).mono ?_
      rintro e w' ⟨rfl, rfl⟩
      rw [H0.out]
      go_wp2
      go_ret
      exact ⟨rfl, Same.refl _⟩
    · have e : a.check per vol = if vol < 0 ∨ vol > 1125899906842624 then 9 else 0 := by unfold Ac.check; rw [if_neg (by simp [h0]; omega)]
      rw [e]
      have H0 := Lib.hid h0
      clear e h0
      by_cases h2 : vol < 0
      · rw [if_pos (.inl h2)]
        go_enter Try.func24, Try.ntmps24
        go_wp2_with fail
        refine (isp_any per w).mono ?_
        rintro e w' ⟨rfl, rfl⟩
        rw [H0.out]
        go_wp2
        go_ret
        exact ⟨rfl, Same.refl _⟩
      · by_cases h3 : vol > 1125899906842624
        · rw [if_pos (.inr h3)]
          go_enter Try.func24, Try.ntmps24
          go_wp2_with fail
          refine (isp_any per w).mono ?_
          rintro e w' ⟨rfl, rfl⟩
          rw [H0.out]
          go_wp2
          go_ret
          exact ⟨rfl, Same.refl _⟩
        · rw [if_neg (by omega)]
          go_enter Try.func24, Try.ntmps24
          go_wp2_with fail
          refine (isp_any per w).mono ?_
          rintro e w' ⟨rfl, rfl⟩
          rw [H0.out]
          go_wp2
          go_ret
          exact ⟨rfl, Same.refl _⟩
  · have e : a.check per vol = 15 := by unfold Ac.check; rw [if_pos (.inl h0)]
    rw [e]
    have H0 := Lib.hid h0
    clear e h0
    go_enter Try.func24, Try.ntmps24
    go_wp2_with fail
    refine (isp_any per w).mono ?_
    rintro e w' ⟨rfl, rfl⟩
    rw [show Ac.isP per = false from by simpa using H0.out]
    go_wp2
    go_ret
    exact ⟨rfl, Same.refl _⟩

set_option maxHeartbeats 400000 in
theorem left_any (g r K : Nat) (a : Ac) (per : Int) (w : World) (h : IsA w g r a) (ok : a.Ok K) : Calls Try.prog 15 #[.pointer (some ⟨g, 0, none⟩), .int .i64 per] w fun e w' => e = .returned (.int .i64 (a.left per)) ∧ Same w w' := by
  have c1 := h.blk.cell 1
  have c2 := h.blk.cell 2
  have HL := Lib.hid h.look
  clear h
  simp at c1 c2
  by_cases h0 : Ac.isP per = true
  · have e : a.left per = rs a.f (per - a.P + 1) a.P.toNat := by unfold Ac.left; rw [if_pos h0]
    rw [e]
    have h0' : 0 ≤ per ∧ per ≤ 1000000 := by simpa [Ac.isP] using h0
    obtain ⟨q1, q2⟩ := h0'
    have H0 := Lib.hid h0
    have p1 := ok.p1
    have p2 := ok.p2
    have HB := Lib.hid ok.bd
    have HO := Lib.hid ok.one
    clear e h0 ok
    go_enter Try.func15, Try.ntmps15
    go_wp2_with fail
    refine (isp_any per w).mono ?_
    rintro e w' ⟨rfl, rfl⟩
    rw [H0.out]
    go_wp2
    go_loop [5, 6] (fun s p => ∃ j : Nat, j ≤ a.P.toNat ∧ s = .int .i64 (rs a.f (per - a.P + 1) j) ∧ p = .int .i64 (per - a.P + 1 + j)) (fun _ p => (per + 1 - intOf p).toNat)
    case atStart => exact ⟨0, by omega, rfl, by simp⟩
    case round =>
      obtain ⟨j, hj, rfl, rfl⟩ := hrel
      have b1 := HB.out (per - a.P + 1) j
      by_cases hlt : j < a.P.toNat
      · have hl := HL.out (per - a.P + 1 + j)
        have b2 := HO.out (per - a.P + 1 + j)
        have t1 : per - a.P + 1 + (j : Int) ≤ per := by omega
        go_wp2
        go_round
        case rel => exact ⟨j + 1, by omega, rfl, by go_num⟩
        case measure => simp [intOf]; omega
      · have t1 : ¬ per - a.P + 1 + (j : Int) ≤ per := by omega
        have ej : j = a.P.toNat := by omega
        have EJ := Lib.hid ej
        clear ej
        go_wp2
        go_ret
        exact ⟨ret_int (by rw [EJ.out]), Same.refl _⟩
  · have e : a.left per = 0 := by unfold Ac.left; rw [if_neg h0]
    rw [e]
    have H0 := Lib.hid h0
    clear e h0
    go_enter Try.func15, Try.ntmps15
    go_wp2_with fail
    refine (isp_any per w).mono ?_
    rintro e w' ⟨rfl, rfl⟩
    rw [show Ac.isP per = false from by simpa using H0.out]
    go_wp2
    go_ret
    exact ⟨rfl, Same.refl _⟩

end Go.Proofs.Ytpapgldjmglaiaa
