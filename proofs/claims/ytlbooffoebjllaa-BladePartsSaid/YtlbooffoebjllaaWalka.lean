/-
  The walks of package blade's functions: what each call returns and leaves, in the words of the plain model.
-/
import Derived.Test.YtlbooffoebjllaaRows
import Derived.Test.YtlbooffoebjllaaBase
import Derived.RegionTactic
import Derived.BigRegion
import Derived.Outline
namespace Go.Proofs.Ytlbooffoebjllaa
open Go.RowKit

/-- Block g is a blade in the state s. -/
def IsB (w : World) (g : Nat) (s : St) : Prop := Blk w g 48 #[.int .i64 s.L, .int .i64 s.S, .int .i64 s.W, .int .i64 s.N]
theorem IsB.blk {w : World} {g : Nat} {s : St} (h : IsB w g s) : Blk w g 48 #[.int .i64 s.L, .int .i64 s.S, .int .i64 s.W, .int .i64 s.N] := h
theorem IsB.fr {w w' : World} {g : Nat} {s : St} {S : Nat → Prop} (h : IsB w g s) (hf : Fr S w w') (hg : ¬ S g) : IsB w' g s := Blk.fr h hf hg
theorem IsB.set_ {w : World} {g : Nat} {L S W N n : Int} (h : IsB w g ⟨L, S, W, N⟩) : IsB (w.setCell ⟨g, 1, none⟩ (.int .i64 n)) g ⟨L, n, W, N⟩ := Blk.set_ h 1 _

set_option maxHeartbeats 400000 in
theorem new_bad (n : Int) (w : World) (h : n < 1 ∨ n > 1000000000000) :
    Calls Try.prog 9 #[.int .i64 n] w fun e w' => e = .returned (.tuple #[.pointer none, .int .i64 9]) ∧ w = w' := by
  by_cases h1 : n < 1
  · go_enter Try.func9, Try.ntmps9
    go_wp2
    go_ret2
    exact ⟨rfl, rfl⟩
  · have h2 : n > 1000000000000 := by omega
    go_enter Try.func9, Try.ntmps9
    go_wp2
    go_ret2
    exact ⟨rfl, rfl⟩

set_option maxHeartbeats 400000 in
theorem new_ok (n : Int) (w : World) (h1 : 1 ≤ n) (h2 : n ≤ 1000000000000) :
    Calls Try.prog 9 #[.int .i64 n] w fun e w' => e = .returned (.tuple #[.pointer (some ⟨w.heap.size, 0, none⟩), .int .i64 0]) ∧ IsB w' w.heap.size ⟨n, 1, 0, 0⟩ ∧ Below w.heap.size w w' ∧ w.heap.size < w'.heap.size := by
  go_enter Try.func9, Try.ntmps9
  go_wp2
  go_ret2
  exact ⟨rfl, Blk.new _ _ _, (Below.refl _ _).alloc (Nat.le_refl _) _, by simp⟩

set_option maxHeartbeats 400000 in
theorem state_any (g : Nat) (s : St) (w : World) (h : IsB w g s) : Calls Try.prog 15 #[.pointer (some ⟨g, 0, none⟩)] w fun e w' => e = .returned (.int .i64 s.S) ∧ w = w' := by
  have c1 := h.blk.cell 1
  clear h
  simp at c1
  go_enter Try.func15, Try.ntmps15
  go_wp2
  go_ret
  exact ⟨rfl, rfl⟩
set_option maxHeartbeats 400000 in
theorem wear_any (g : Nat) (s : St) (w : World) (h : IsB w g s) : Calls Try.prog 16 #[.pointer (some ⟨g, 0, none⟩)] w fun e w' => e = .returned (.int .i64 s.W) ∧ w = w' := by
  have c1 := h.blk.cell 2
  clear h
  simp at c1
  go_enter Try.func16, Try.ntmps16
  go_wp2
  go_ret
  exact ⟨rfl, rfl⟩
set_option maxHeartbeats 400000 in
theorem sawn_any (g : Nat) (s : St) (w : World) (h : IsB w g s) : Calls Try.prog 19 #[.pointer (some ⟨g, 0, none⟩)] w fun e w' => e = .returned (.int .i64 s.N) ∧ w = w' := by
  have c1 := h.blk.cell 3
  clear h
  simp at c1
  go_enter Try.func19, Try.ntmps19
  go_wp2
  go_ret
  exact ⟨rfl, rfl⟩

set_option maxHeartbeats 400000 in
theorem to_any (a : Option Addr) (n : Int) (w : World) :
    Calls Try.prog 22 #[.pointer a, .int .i64 n] w fun e w' => e = .returned (.func (.func 31) #[] #[.pointer (some ⟨w.heap.size + 1, 0, none⟩), .pointer (some ⟨w.heap.size, 0, none⟩)]) ∧ Blk w' (w.heap.size + 1) 3 #[.int .i64 n] ∧ Blk w' w.heap.size 22 #[.pointer a] ∧ Below w.heap.size w w' := by
  go_enter Try.func22, Try.ntmps22
  go_wp2
  go_ret
  refine ⟨rfl, ?_, (Blk.new _ _ _).alloc _, ((Below.refl _ _).alloc (Nat.le_refl _) _).alloc (by simp) _⟩
  have := Blk.new (w.alloc (.cells #[.pointer a] 22)) 3 #[.int .i64 n]
  simpa using this

set_option maxHeartbeats 400000 in
theorem tofn_any (g gs gb : Nat) (n : Int) (s : St) (w : World) (h : IsB w g s) (h1 : Blk w gs 3 #[.int .i64 n]) (h2 : Blk w gb 22 #[.pointer (some ⟨g, 0, none⟩)]) :
    Calls Try.prog 31 #[.pointer (some ⟨gs, 0, none⟩), .pointer (some ⟨gb, 0, none⟩)] w fun e w' => e = .returned (.int .i64 0) ∧ IsB w' g { s with S := n } ∧ Fr (fun i => i = g) w w' := by
  have c1 := h.blk.cell 1
  have z1 := h.blk.frozen 1
  have c2 := h1.cell 0
  have c3 := h2.cell 0
  have H := Lib.hid h
  clear h h1 h2
  simp at c1 c2 c3
  go_enter Try.func31, Try.ntmps31
  go_wp2
  go_ret
  exact ⟨rfl, H.out.set_, (Fr.refl _ _).setCell _ _ (.inl rfl)⟩

set_option maxHeartbeats 400000 in
theorem sharpfn_any (g gb : Nat) (s : St) (w : World) (h : IsB w g s) (h2 : Blk w gb 22 #[.pointer (some ⟨g, 0, none⟩)]) :
    Calls Try.prog 30 #[.pointer (some ⟨gb, 0, none⟩)] w fun e w' => e = .returned (.int .i64 0) ∧ IsB w' g { s with S := 1, W := 0 } ∧ Fr (fun i => i = g) w w' := by
  have c1 := h.blk.cell 1
  have z1 := h.blk.frozen 1
  have c3 := h2.cell 0
  have c2 := h.blk.cell 2
  have z2 := h.blk.frozen 2
  have n1 := h.blk.ne_ h2 (by decide)
  have H := Lib.hid h
  clear h h2
  simp at c1 c2 c3
  go_enter Try.func30, Try.ntmps30
  go_wp2
  go_ret
  exact ⟨rfl, Blk.set_ (Blk.set_ H.out 1 _) 2 _, ((Fr.refl (fun i => i = g) w).setCell _ _ (.inl rfl)).setCell _ _ (.inl rfl)⟩

theorem call31 (x y : Value) (w : World) : (callFunc 31 #[x, y]).run Try.prog w = .ok (.enter 31 #[x, y]) w := by kernel_rfl
theorem call30 (x : Value) (w : World) : (callFunc 30 #[x]).run Try.prog w = .ok (.enter 30 #[x]) w := by kernel_rfl
theorem call25 (x y z : Value) (w : World) : (callFunc 25 #[x, y, z]).run Try.prog w = .ok (.enter 25 #[x, y, z]) w := by kernel_rfl
theorem call23 (w : World) : (callFunc 23 #[]).run Try.prog w = .ok (.enter 23 #[]) w := by kernel_rfl
theorem down_any (w : World) : Calls Try.prog 23 #[] w fun e w' => e = .returned (.int .i64 17) ∧ w = w' := by
  go_enter Try.func23, Try.ntmps23
  go_wp2
  go_ret
  exact ⟨rfl, rfl⟩

/-! 'do' -/
theorem zero34 (w : World) : (zeroValue 34).run Try.prog w = .ok .nilFunc w := by kernel_rfl
set_option maxHeartbeats 400000 in
theorem do_nil (m : Value) (w : World) (hm : ∃ r, m = .map r) : Calls Try.prog 24 #[.pointer none, m] w fun e w' => e = .returned (.int .i64 1) ∧ w = w' := by
  obtain ⟨r, rfl⟩ := hm
  go_enter Try.func24, Try.ntmps24
  go_wp2
  go_ret
  exact ⟨rfl, rfl⟩
set_option maxHeartbeats 400000 in
theorem do_miss (g r : Nat) (s : St) (es : Array MapEntry) (c : Nat) (w : World) (h : IsB w g s) (hm : Mp w r es c) (hf : Instr.findNow (.int .i64) (.int .i64 s.S) es.toList 0 = some none) :
    Calls Try.prog 24 #[.pointer (some ⟨g, 0, none⟩), .map (some r)] w fun e w' => e = .returned (.int .i64 14) ∧ w = w' := by
  have c1 := h.blk.cell 1
  have hl := run_lookup_miss (P := Try.prog) (t := 51) Try.underlying51 Try.underlying3 rfl hm hf (zero34 w)
  clear h hm hf
  simp at c1
  go_enter Try.func24, Try.ntmps24
  go_wp2
  go_ret
  exact ⟨rfl, rfl⟩
set_option maxHeartbeats 400000 in
theorem do_hit (g r : Nat) (s : St) (es : Array MapEntry) (c : Nat) (w : World) (h : IsB w g s) (hm : Mp w r es c) (i f : Nat) (cap : Array Value) (hf : Instr.findNow (.int .i64) (.int .i64 s.S) es.toList 0 = some (some (i, .func (.func f) #[] cap)))
    (R : Int → World → Prop) (hcf : (callFunc f cap).run Try.prog w = .ok (.enter f cap) w) (hc : Calls Try.prog f cap w fun e w' => ∃ n, e = .returned (.int .i64 n) ∧ R n w') :
    Calls Try.prog 24 #[.pointer (some ⟨g, 0, none⟩), .map (some r)] w fun e w' => ∃ n, e = .returned (.int .i64 n) ∧ R n w' := by
  have c1 := h.blk.cell 1
  have hl := run_lookup_hit (P := Try.prog) (t := 51) Try.underlying51 Try.underlying3 rfl hm hf
  have H := Lib.hid hc
  clear h hm hf hc
  simp at c1
  go_enter Try.func24, Try.ntmps24
  go_wp2_with fail
  refine H.out.mono ?_
  rintro e w' ⟨n, rfl, hR⟩
  have HR := Lib.hid hR
  clear hR
  go_wp2
  go_ret
  exact ⟨n, rfl, HR.out⟩

end Go.Proofs.Ytlbooffoebjllaa
