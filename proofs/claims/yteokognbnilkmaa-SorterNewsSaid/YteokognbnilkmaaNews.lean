/-
  SorterNews returns true for all numbers.
-/
import Derived.Test.YteokognbnilkmaaRefa
namespace Go.Proofs.Yteokognbnilkmaa.sorterNews
open Go.ChangeShapes Go.WideShapes Go.ChangeAt Go.RowKit

theorem mostR (n : Nat) : most (List.replicate n emp) = (0, 0) := by
  induction n with
  | zero => rfl
  | succ n ih => rw [List.replicate_succ', most_snoc, ih]; rfl
theorem totR (n : Nat) : tot (List.replicate n emp) = 0 := by
  induction n with
  | zero => rfl
  | succ n ih => unfold tot at ih ⊢; rw [List.replicate_succ, List.map_cons, List.sum_cons, ih]; rfl
theorem fullR {n c : Nat} (hc : 1 ≤ c) : fnd (pFull c) (List.replicate n emp) = none := by
  apply fnd_none
  intro x hx
  rw [List.eq_of_mem_replicate hx]
  unfold pFull emp
  simp
  omega
theorem takeIn {n : Nat} (h1 : 1 ≤ n) : sTake (List.replicate n emp) ((n : Int) - 1) = (List.replicate n emp, nul, [], 18) := by
  unfold sTake
  rw [List.length_replicate, if_neg (by omega), show ((n : Int) - 1).toNat = n - 1 by omega, List.getElem?_replicate, if_pos (by omega)]
  rfl
theorem takeOut {n : Nat} : sTake (List.replicate n emp) (n : Int) = (List.replicate n emp, nul, [], 9) := by
  unfold sTake
  rw [List.length_replicate, if_pos (by omega)]

set_option maxRecDepth 100000 in
set_option maxHeartbeats 1000000 in
theorem walk (n c : Int) (w : World) (hn : -9223372036854775808 ≤ n ∧ n ≤ 9223372036854775807) (hc : -9223372036854775808 ≤ c ∧ c ≤ 9223372036854775807) : Calls Try.prog 5 #[.int .i64 n, .int .i64 c] w fun e w' => e = .returned (.bool true) ∧ Below w.heap.size w w' := by
  by_cases hb : NewBad n c
  · go_enter Try.func5, Try.ntmps5
    go_wp2_with fail
    refine (new_bad n c w hb).mono ?_
    rintro e w' ⟨rfl, rfl⟩
    go_wp2_with fail
    refine (rnew_bad n c w hb).mono ?_
    rintro e w1 ⟨rfl, s1⟩
    unfold rv
    go_wp2_with fail
    refine (awake_any _).mono ?_
    rintro e w3 ⟨rfl, hb3⟩
    go_wp2
    go_ret
    have s2 := Fr.alloc s1 (.cells #[.int .i64 ((0 : Nat) : Int), .slice none 0 0] 45)
    exact ⟨rfl, (Same.below s2).trans (hb3.mono (Fr.size s2))⟩
  · have hg : (1 ≤ n ∧ n ≤ 16) ∧ 1 ≤ c ∧ c ≤ 32 := by unfold NewBad at hb; omega
    obtain ⟨⟨g1, g2⟩, g3, g4⟩ := hg
    obtain ⟨n, rfl⟩ : ∃ k : Nat, n = (k : Int) := ⟨n.toNat, by omega⟩
    obtain ⟨c, rfl⟩ : ∃ k : Nat, c = (k : Int) := ⟨c.toNat, by omega⟩
    clear hb hn hc
    go_enter Try.func5, Try.ntmps5
    go_wp2_with fail
    refine (new_sb n c w (by omega) (by omega) (by omega) (by omega)).mono ?_
    rintro e w1 ⟨rfl, h1⟩
    go_wp2_with fail
    refine (rnew_any n c w1 (by omega) (by omega) (by omega) (by omega)).mono ?_
    rintro e w2 ⟨A, rfl, s2, _⟩
    unfold rv
    have s3 := Fr.alloc s2 (.cells #[.int .i64 (c : Int), .slice A n n] 45)
    have h3 := h1.same s3
    clear h1 s2 s3
    go_wp2_with fail
    refine (full_to (o := none) h3 (fullR (by omega))).mono ?_
    rintro e w4 ⟨rfl, h4, _⟩
    clear h3
    go_wp2_with fail
    refine (fullest_to (i := 0) (n := 0) (f := false) h4 (mostR n) rfl).mono ?_
    rintro e w5 ⟨rfl, h5, _⟩
    clear h4
    go_wp2_with fail
    refine (take_to h5 (takeIn (by omega))).mono ?_
    rintro e w6 ⟨A6, c6, rfl, _, _, h6, _⟩
    clear h5
    go_wp2_with fail
    refine (take_to h6 takeOut).mono ?_
    rintro e w7 ⟨A7, c7, rfl, _, _, h7, _⟩
    clear h6
    go_wp2_with fail
    refine (len_to h7 (totR n)).mono ?_
    rintro e w8 ⟨rfl, h8, _⟩
    clear h7
    go_wp2_with fail
    refine (awake_any _).mono ?_
    rintro e w9 ⟨rfl, hb9⟩
    go_wp2
    go_ret
    exact ⟨rfl, h8.bel.trans (hb9.mono h8.bel.size)⟩

theorem own : ownKnob Try.prog.godebug = none := by kernel_rfl
theorem laidOut : laidOutB Try.prog = true := by kernel_rfl

set_option maxRecDepth 100000 in
theorem lifted (os : Os) (started : os.Started) (H : Type) (enc : TypeId × Value → H) :
    ReturnsInHanded {} Try.checked os 5 .any (Rows.sorterNewsSpec.pre6 enc Try.prog Try.f5 Rows.sorterNewsRow.domain false) (Rows.sorterNewsSpec.post enc Try.prog Try.f5 false true false false) := by
  refine returnsInHanded_of_change (C := Try.checked) own started (by kernel_rfl) Try.func5
    (ChangeSpec.witness6 (enc := enc) (C := Try.checked) false ⟨#[], #[.int .i64 0, .int .i64 0], []⟩ 8 (by kernel_rfl) (by kernel_rfl) (by kernel_rfl) (by kernel_rfl)) ?_
  intro W base args ds gs before hval0 hW hcnd _
  have hval : ∀ (j : Nat) t v, Try.f5.params[j]? = some t → args[j]? = some v → Value.okWide Try.prog W .any base t v := hval0
  have hW' := hW
  obtain ⟨p, q, hA0, hV, rfl, hfz, hnd⟩ := hW
  have hA : DataW.TrodAll enc Try.prog W 0 (fun _ => true) true Try.f5.params.toList args.toList ds p := hA0
  rw [Try.params5] at hA hval
  obtain ⟨v0, vs0, d0, ds0, p0, q0, hargs, rfl, rfl, h0, r0⟩ := trodAll_cons hA
  obtain ⟨v1, vs1, d1, ds1, p1, q1, rfl, rfl, rfl, h1, r1⟩ := trodAll_cons r0
  obtain ⟨rfl, rfl, rfl⟩ := trodAll_nil r1
  obtain rfl : args = #[v0, v1] := by cases args; simp_all
  obtain ⟨rfl, rfl⟩ := trodVars_none hV
  have k0 := h0
  have lt0 : ∀ x ∈ p0, x.block < W.heap.size := by obtain ⟨m, hm⟩ := k0; exact DataW.trod_lt m _ _ _ hm
  have ok0 := hval 0 3 v0 rfl rfl
  obtain ⟨a0, rfl, _, _, w0⟩ := open_int Try.underlying3 ok0 h0
  have k1 := h1
  have lt1 : ∀ x ∈ p1, x.block < W.heap.size := by obtain ⟨m, hm⟩ := k1; exact DataW.trod_lt m _ _ _ hm
  have ok1 := hval 1 3 v1 rfl rfl
  obtain ⟨a1, rfl, _, _, w1⟩ := open_int Try.underlying3 ok1 h1
  clear hA0 hval0
  refine (walk a0 a1 W (wfi64 w0) (wfi64 w1)).mono fun e W' ⟨he, bel⟩ => ?_
  subst he
  exact ⟨_, rfl, _, _, _, [], _, [], hW', trodAll_mk1 (shut_bool Try.underlying4 _), (trodAll_cons_mk (Below.trod laidOut (by kernel_rfl) (of_decide_eq_true (by kernel_rfl)) k0 bel lt0) (trodAll_cons_mk (Below.trod laidOut (by kernel_rfl) (of_decide_eq_true (by kernel_rfl)) k1 bel lt1) trodAll_mk0)), rfl, bel.frame _, fun h => by cases h⟩

theorem over : Rows.sorterNewsRow.holds Try.pinned (OpenSpec.ofChange Rows.sorterNewsSpec) :=
  OpenClaim.holds_of_wide 5 Try.f5 rfl rfl rfl rfl rfl rfl rfl ⟨rfl, rfl, rfl, rfl, rfl⟩ rfl rfl rfl rfl rfl (by kernel_rfl) Try.func5 (by kernel_rfl)
    (of_decide_eq_true (by kernel_rfl)) (by unfold Func.isWrapper; first | (rw [if_pos (by decide +kernel)]; kernel_rfl) | (rw [if_neg (by decide +kernel)]; exact ⟨rfl, rfl⟩))
    (fun os started H enc _ => lifted os started H enc)

theorem proved : Rows.SorterNewsSaid := over
end Go.Proofs.Yteokognbnilkmaa.sorterNews
